/- Parts of a proof. -/
import Derived.Test.YtjmmpfjcpdepjaaGreatDoorGAE
import Derived.Lib.ConvBytes
import Derived.Lib.Bytealg
import Derived.Laws.Externs
import Derived.IntWalk
import Derived.StillTailTactics
import Derived.Recover
set_option linter.unusedVariables false
set_option linter.unusedSimpArgs false
set_option maxHeartbeats 8000000
set_option maxRecDepth 100000
namespace Go.Proofs.YtjmmpfjcpdepjaaGreatDoor
open Go.RowKit
def fj:Ending:= .panicked [{ v:= .iface 32 (.int .i64 9),recovered:=false }]
theorem ik (w:World):Calls Tryz.prog 46 #[.bool true] w fun e w'=>e= .returned (.tuple #[])/\w=w':=by go_enter Tryz.func46,Tryz.ntmps46;go_wp2_with fail;go_end0;exact⟨rfl,rfl⟩
theorem eC (w:World):Calls Tryz.prog 46 #[.bool false] w fun e w'=>e=fj/\w=w':=by go_enter Tryz.func46,Tryz.ntmps46;go_wp2_with fail;exact⟨rfl,rfl,rfl⟩
structure Ms (w:World) (g b n:Nat) (f:Int->List UInt8):Prop where
 at_:At w g 131 #[.map (some b)]
 met:Met w b n f
theorem Ms.keep {w w':World} {g b n:Nat} {f:Int->List UInt8} (h:Ms w g b n f) (hf:Fr [] w w'):Ms w' g b n f:=⟨h.at_.keep hf,h.met.keep hf⟩
def vb (f:Int->List UInt8) (l fm:Int):Bool:=decide (2<=l)&&decide (l%2=0)&&decide (l/2<=fm)&&(f (l/2)).isEmpty
theorem tU (w:World) (g b n:Nat) (f:Int->List UInt8) (l fm:Int) (k:ByteArray) (h:Ms w g b n f) (XC:g≠b) (hr:eh l) (hd:vb f l fm=true) (hk:k.size<=1) (hn:n<140737488355328):
  Calls Tryz.prog 89 #[.pointer (some ⟨g,0,none⟩), .int .i64 l, .int .i64 fm, .string k] w fun e w'=>e= .returned (.tuple #[])/\Ms w' g b (n+1) (fun x=>if x=l/2 then k.data.toList else f x)/\Fr [b] w w':=by
 simp only[vb,ax,aal]at hd;obtain⟨⟨⟨h1,h2⟩,h3⟩,h4⟩:=hd;unfold eh at hr;obtain⟨Zq,rm⟩:=hr;have HM:=aa h;have hc:=h.at_.cell 0;simp at hc;have jZ:=h.met.look (v:=l/2) (by unfold eh;omega);have e4:f (l/2)=[]:=List.isEmpty_iff.1 h4;rw[e4]at jZ;have HG:=aa XC;have H2:(l%2==1)=false:=by rw[aar];omega
 have d1:decide (2<=l)=true:=aai h1;have d3:decide (l/2<=fm)=true:=aai h3;clear h h4 e4 h2 XC;have l0:0<=l:=by omega
 go_enter Tryz.func89,Tryz.ntmps89;go_wp2_with fail;refine(jc _ l l0 rm).mono ?_;rintro e w' ⟨rfl,rfl⟩;go_wp2_with fail;refine(pR _ l l0 rm).mono ?_;rintro e w' ⟨rfl,rfl⟩;go_wp2_with fail;refine(ik _).mono ?_;rintro e w' ⟨rfl,rfl⟩;go_wp2_with (at_mapUpdate;refine FY _ rfl _ _ _ rfl b n f rfl HM.out.met (by unfold maxLen;omega) (l/2) rfl (by unfold eh;omega) k rfl (by unfold maxLen;omega) ?_;intro w2 g1 g2;have G1:=aa g1;have G2:=aa g2;clear g1 g2)
 go_end0;exact⟨rfl,⟨G2.out.at_ HM.out.at_ (by simp;exact HG.out),G1.out⟩,G2.out⟩
theorem rr (w:World) (g b n:Nat) (f:Int->List UInt8) (l fm:Int) (k:ByteArray) (h:Ms w g b n f) (hr:eh l) (hd:vb f l fm=false):
  Calls Tryz.prog 89 #[.pointer (some ⟨g,0,none⟩), .int .i64 l, .int .i64 fm, .string k] w fun e w'=>e=fj/\w=w':=by
 unfold eh at hr;obtain⟨Zq,rm⟩:=hr;have HM:=aa h;have hc:=h.at_.cell 0;simp at hc;have HF:=aa (rfl :fj=fj);by_cases l0:0<=l
 ·have jZ:=h.met.look (v:=l/2) (by unfold eh;omega);by_cases h1:2<=l
  ·have d1:decide (2<=l)=true:=aai h1;by_cases h2:l%2=0
   ·have H2:(l%2==1)=false:=by rw[aar];omega
    by_cases h3:l/2<=fm
    ·have d3:decide (l/2<=fm)=true:=aai h3;have h4:(f (l/2)).isEmpty=false:=by simp only[vb,d1,d3,h2,decide_true,fX]at hd;exact hd
     obtain⟨c,r,hcr⟩:∃c r,f (l/2)=c::r:=by
      cases hf:f (l/2)with
      |nil=>rw[hf]at h4;cases h4
      |cons c r=>exact⟨c,r,rfl⟩
     rw[hcr]at jZ;clear h h4 hcr h2 hd;go_enter Tryz.func89,Tryz.ntmps89;go_wp2_with fail;refine(jc _ l l0 rm).mono ?_;rintro e w' ⟨rfl,rfl⟩;go_wp2_with fail;refine(pR _ l l0 rm).mono ?_;rintro e w' ⟨rfl,rfl⟩;go_wp2_with fail;refine(eC _).mono ?_;rintro e w' ⟨rfl,rfl⟩;unfold fj;go_wp2_with fail;exact⟨rfl,rfl,rfl⟩
    ·have d3:decide (l/2<=fm)=false:=aah h3;clear h h2 hd jZ;go_enter Tryz.func89,Tryz.ntmps89;go_wp2_with fail;refine(jc _ l l0 rm).mono ?_;rintro e w' ⟨rfl,rfl⟩;go_wp2_with fail;refine(pR _ l l0 rm).mono ?_;rintro e w' ⟨rfl,rfl⟩;go_wp2_with fail;refine(eC _).mono ?_;rintro e w' ⟨rfl,rfl⟩;unfold fj;go_wp2_with fail;exact⟨rfl,rfl,rfl⟩
   ·have H2:(l%2==1)=true:=by rw[beq_iff_eq];omega
    clear h h2 hd jZ;go_enter Tryz.func89,Tryz.ntmps89;go_wp2_with fail;refine(jc _ l l0 rm).mono ?_;rintro e w' ⟨rfl,rfl⟩;go_wp2_with fail;refine(pR _ l l0 rm).mono ?_;rintro e w' ⟨rfl,rfl⟩;go_wp2_with fail;refine(eC _).mono ?_;rintro e w' ⟨rfl,rfl⟩;unfold fj;go_wp2_with fail;exact⟨rfl,rfl,rfl⟩
  ·have d1:decide (2<=l)=false:=aah h1;clear h hd jZ;go_enter Tryz.func89,Tryz.ntmps89;go_wp2_with fail;refine(jc _ l l0 rm).mono ?_;rintro e w' ⟨rfl,rfl⟩;go_wp2_with fail;refine(eC _).mono ?_;rintro e w' ⟨rfl,rfl⟩;unfold fj;go_wp2_with fail;exact⟨rfl,rfl,rfl⟩
 ·have d1:decide (2<=l)=false:=aah (by omega);clear h hd;go_enter Tryz.func89,Tryz.ntmps89;go_wp2_with fail;refine(wT _ l (by omega)).mono ?_;rintro e w' ⟨rfl,rfl⟩;go_wp2_with fail;refine(eC _).mono ?_;rintro e w' ⟨rfl,rfl⟩;unfold fj;go_wp2_with fail;exact⟨rfl,rfl,rfl⟩
def um (f:Int->List UInt8) (l:Int):Bool:=decide (0<=l)&&(decide (l<2) || !(f (l/2)).isEmpty)
theorem lU (w:World) (g b n:Nat) (f:Int->List UInt8) (l:Int) (h:Ms w g b n f) (hr:eh l):
  Calls Tryz.prog 48 #[.pointer (some ⟨g,0,none⟩), .int .i64 l] w fun e w'=>e= .returned (.bool (um f l))/\Fr [] w w':=by
 unfold eh at hr;obtain⟨Zq,rm⟩:=hr;have HM:=aa h;have hc:=h.at_.cell 0;simp at hc;have hK:Hid (∀s,um f l=s->Ending.returned (.bool s)= .returned (.bool (um f l))):=fun s h=>by rw[h]
 have e0:=Ext.cell hc;by_cases l0:0<=l
 ·have d0:decide (0<=l)=true:=aai l0;have KV:=aa (fun W=>jc W l l0 rm);have jZ:∀u:Ext w,(Instr.lookup 129 (.map (some b)) (.int .i64 (l/2)) false).run Tryz.prog u.v= .ok (.string ⟨(f (l/2)).toArray⟩) u.v:=fun u=>(h.met.keep u.fr).look (v:=l/2) (by unfold eh;omega);by_cases h1:l<2
  ·have d1:decide (l<2)=true:=aai h1;have FS:Hid (um f l=true):=(by simp[um,d0,d1]:um f l=true)
   clear h jZ;go_enter Tryz.func48,Tryz.ntmps48;go_wp2_with fail;refine au (by kernel_rfl) (by kernel_rfl) ?_;repeat (go_big_quiet_step (exact bh (KV.out _)))
   refine aak ?_;rintro w2 ⟨u2,b8⟩;have bj:Hid (Fr [] w w2):=b8▸u2.fr;clear b8 u2;go_wp2_with fail;go_ret;exact⟨hK.out _ FS.out,bj.out⟩
  ·have d1:decide (l<2)=false:=aah h1;cases hf:f (l/2)with
   |nil=>
    have FS:Hid (um f l=false):=(by simp[um,d1,hf]:um f l=false)
    rw[hf]at jZ;clear h hf;go_enter Tryz.func48,Tryz.ntmps48;go_wp2_with fail;refine au (by kernel_rfl) (by kernel_rfl) ?_;repeat (go_big_quiet_step (exact bh (KV.out _)))
    refine aak ?_;rintro w2 ⟨u2,b8⟩;have bj:Hid (Fr [] w w2):=b8▸u2.fr;clear b8 u2;go_wp2_with fail;go_ret;exact⟨hK.out _ FS.out,bj.out⟩
   |cons c r=>
    have FS:Hid (um f l=true):=(by simp[um,d0,hf]:um f l=true)
    rw[hf]at jZ;clear h hf;go_enter Tryz.func48,Tryz.ntmps48;go_wp2_with fail;refine au (by kernel_rfl) (by kernel_rfl) ?_;repeat (go_big_quiet_step (exact bh (KV.out _)))
    refine aak ?_;rintro w2 ⟨u2,b8⟩;have bj:Hid (Fr [] w w2):=b8▸u2.fr;clear b8 u2;go_wp2_with fail;go_ret;exact⟨hK.out _ FS.out,bj.out⟩
 ·have d0:decide (0<=l)=false:=aah l0;have FS:Hid (um f l=false):=(by simp[um,d0]:um f l=false)
  have KV:=aa (fun W=>wT W l (by omega));clear h;go_enter Tryz.func48,Tryz.ntmps48;go_wp2_with fail;refine au (by kernel_rfl) (by kernel_rfl) ?_;repeat (go_big_quiet_step (exact bh (KV.out _)))
  refine aak ?_;rintro w2 ⟨u2,b8⟩;have bj:Hid (Fr [] w w2):=b8▸u2.fr;clear b8 u2;go_wp2_with fail;go_ret;exact⟨hK.out _ FS.out,bj.out⟩
theorem Rn:∀args w,(callFunc 91 args).run Tryz.prog w= .ok (.enter 91 args) w:=enters_of Tryz.func91 (by kernel_rfl) rfl
theorem Ro:∀args w,(callFunc 96 args).run Tryz.prog w= .ok (.enter 96 args) w:=enters_of Tryz.func96 (by kernel_rfl) rfl
theorem IX (w:World) (p g b n:Nat) (f:Int->List UInt8) (x:Int) (h:Ms w g b n f) (hp:w.cell? ⟨p,0,none⟩=some (.pointer (some ⟨g,0,none⟩))) (hr:eh x):
  Calls Tryz.prog 91 #[.int .i64 x, .pointer (some ⟨p,0,none⟩)] w fun e w'=>e= .returned (.bool (!um f x))/\Fr [] w w':=by
 have KC:=aa (lU w g b n f x h hr);clear h hr;go_enter Tryz.func91,Tryz.ntmps91;go_wp2_with fail;refine KC.out.mono ?_;obtain⟨q,HQ⟩:∃q,Hid (um f x=q):=⟨_,rfl⟩
 rw[HQ.out];rintro e w' ⟨rfl,hf⟩;have HF:=aa hf;clear hf;go_wp2_with fail;go_ret;exact⟨by rw[HQ.out];rfl,HF.out⟩
theorem tW (w:World) (g b n:Nat) (f:Int->List UInt8) (A:Option Addr) (c:Nat) (xs:List Int) (h:Ms w g b n f) (hx:Rd w A xs) (hr:Ra xs) (hl:xs.length<=17592186044416):
  Calls Tryz.prog 49 #[.pointer (some ⟨g,0,none⟩), .slice A xs.length c] w fun e w'=>e= .returned (.bool (xs.all (um f)))/\Fr [] w w':=by
 have hmf:∀(fn:Fn) (first cap:Array Value) (w:World),(Instr.makeFunc fn first cap).run Tryz.prog w= .ok (.func fn first cap) w:=fun _ _ _ _=>rfl;have cX:=eW w (.cells #[.pointer (some ⟨g,0,none⟩)] 89);have KC:=aa (fV (w.alloc (.cells #[.pointer (some ⟨g,0,none⟩)] 89)) A c xs 91 #[.pointer (some ⟨w.heap.size,0,none⟩)] (fun x=> !um f x) Rn (hx.keep cX) hr hl
  (fun W hW x _ hx=>IX W w.heap.size g b n f x (h.keep (cX.ag hW)) (hW.aN (by simp)) hx))
 have dI:=aa cX;clear h hx hr cX;go_enter Tryz.func49,Tryz.ntmps49;go_wp2_with fail;refine KC.out.mono ?_;obtain⟨q,HQ⟩:∃q,Hid ((xs.any fun x=> !um f x)=q):=⟨_,rfl⟩
 rw[HQ.out];rintro e w' ⟨rfl,hf⟩;have HF:=aa (dI.out.ag hf);clear hf;go_wp2_with fail;go_ret;exact⟨by rw[List.all_eq_not_any_not,HQ.out];rfl,HF.out⟩
theorem Di (w:World) (c:UInt8):
  Calls Tryz.prog 128 #[.int .u8 c.toNat] w fun e w'=>e= .returned (.bool (ge c))/\w=w':=by
 have hK:Hid (∀s,ge c=s->Ending.returned (.bool s)= .returned (.bool (ge c))):=fun s h=>by rw[h]
 by_cases h1:(c.toNat:Int)<33
 ·have d1:decide ((c.toNat:Int)<33)=true:=aai h1;have HB:Hid (ge c=true):=(by simp[ge,d1]:ge c=true)
  go_enter Tryz.func128,Tryz.ntmps128;go_wp2_with fail;go_ret;exact⟨hK.out _ HB.out,rfl⟩
 ·have d1:decide ((c.toNat:Int)<33)=false:=aah h1;by_cases h2:126<(c.toNat:Int)
  ·have d2:decide (126<(c.toNat:Int))=true:=aai h2;have HB:Hid (ge c=true):=(by simp[ge,d2]:ge c=true)
   go_enter Tryz.func128,Tryz.ntmps128;go_wp2_with fail;go_ret;exact⟨hK.out _ HB.out,rfl⟩
  ·have d2:decide (126<(c.toNat:Int))=false:=aah h2;have HB:Hid (ge c=false):=(by simp[ge,d1,d2]:ge c=false)
   go_enter Tryz.func128,Tryz.ntmps128;go_wp2_with fail;go_ret;exact⟨hK.out _ HB.out,rfl⟩
theorem Rl:∀args w,(callFunc 128 args).run Tryz.prog w= .ok (.enter 128 args) w:=enters_of Tryz.func128 (by kernel_rfl) rfl
theorem D6 (w:World) (g c:Nat) (l:List UInt8) (h:∀j:Nat,j<l.length->w.cell? ⟨g,j,none⟩=some (.int .u8 (l[j]!).toNat)) (hl:l.length<=17592186044416):
  Calls Tryz.prog 154 #[.slice (some ⟨g,0,none⟩) l.length c, .func (.func 128) #[] #[]] w (zA (l.any ge) w):=by
 have HH:=aa h;have oh:Hid (∀(n:Nat) W,n<=17592186044416->l.any ge=true->Fr [] w W->zA (l.any ge) w (.returned (.int .i64 (n:Int))) W):=fun n W h1 h2 h3=>⟨n,rfl,by omega,by omega,by rw[h2];exact aai (by omega),h3⟩
 have NO:Hid (∀W,l.any ge=false->Fr [] w W->zA (l.any ge) w (.returned (.int .i64 (-1))) W):=fun W h2 h3=>⟨-1,rfl,by omega,by omega,by rw[h2];rfl,h3⟩
 have eg:=Rl;clear h;go_enter Tryz.func154,Tryz.ntmps154;go_wp2_with fail
 go_loop [8] (fun i=>∃k:Nat,k<=l.length/\i= .int .i64 k/\dF l ge k) (fun i=>l.length-(intOf i).toNat)
 case atStart=>exact⟨0,bR _,rfl,dF.zero _ _⟩
 case round=>
  obtain⟨k,hk,rfl,hn⟩:=hrel;have HN:=aa hn;clear hn;by_cases bw:k<l.length
  ·have cx:=HH.out k bw;obtain⟨x,he⟩:∃x,Hid (l[k]! =x):=⟨_,rfl⟩
   rw[he.out]at cx;have HC:=aa (Di w x);go_wp2_with fail;refine HC.out.mono ?_;obtain⟨q,HQ⟩:∃q,Hid (ge x=q):=⟨_,rfl⟩
   rw[HQ.out];rintro e w2 ⟨rfl,rfl⟩;cases q with
   |true=>
    go_wp2_with fail;go_ret;exact oh.out k _ (by omega) (kM _ _ k bw (by rw[he.out];exact HQ.out)) (Fr.refl _ _)
   |false=>
    go_wp2_with fail
    go_round
    case rel=>exact⟨k+1,by omega,by go_num,HN.out.step (by rw[he.out];exact HQ.out)⟩
    case measure=>simp[intOf];omega
  ·have HT:=aa (HN.out.all bw);go_wp2_with fail;go_ret;exact NO.out _ HT.out (Fr.refl _ _)
theorem xW (w:World) (g c:Nat) (l:List UInt8) (h:∀j:Nat,j<l.length->w.cell? ⟨g,j,none⟩=some (.int .u8 (l[j]!).toNat)) (hl:l.length<=17592186044416):
  Calls Tryz.prog 127 #[.slice (some ⟨g,0,none⟩) l.length c, .func (.func 128) #[] #[]] w fun e w'=>e= .returned (.bool (l.any ge))/\Fr [] w w':=by
 have HC:=aa (D6 w g c l h hl);clear h;go_enter Tryz.func127,Tryz.ntmps127;go_wp2_with fail;refine HC.out.mono ?_;rintro e w2 ⟨n,rfl,h1,h2,h3,hf⟩;have H3:=aa h3;have HF:=aa hf;clear h3 hf;go_wp2_with fail;go_ret;exact⟨by rw[<-H3.out];rfl,HF.out⟩
theorem sN (w:World) (e:TypeId) (s:ByteArray):Fr [] w (Lib.bytesWorld w e s):=
 ⟨rfl,rfl,rfl,by rw[Lib.bytesWorld_size];omega,fun k hk _=>Lib.bytesWorld_at_old w e s k hk⟩
def kV (s:ByteArray):Bool:= !s.toList.isEmpty&&decide ((s.size:Int)<=32)&& !F6 s
theorem F9 (w:World) (s:ByteArray) (hs:s.size<=maxLen):
  Calls Tryz.prog 94 #[.string s] w fun e w'=>e= .returned (.bool (kV s))/\Fr [] w w':=by
 unfold maxLen at hs;have hK:Hid (∀x,kV s=x->Ending.returned (.bool x)= .returned (.bool (kV s))):=fun s h=>by rw[h]
 by_cases h1:s.toList.isEmpty=true
 ·have HB:Hid (kV s=false):=(by simp[kV,h1]:kV s=false)
  go_enter Tryz.func94,Tryz.ntmps94;go_wp2_with fail;go_ret;exact⟨hK.out _ HB.out,Fr.refl _ _⟩
 ·have h1b:=nf.2 h1;by_cases h2:(s.size:Int)<=32
  ·have d2:decide ((s.size:Int)<=32)=true:=aai h2;have HC:=aa (xW (Lib.bytesWorld w 5 s) w.heap.size (grownCap w s.size 0 5) s.data.toList (fun j hj=>by rw[Lib.bytesWorld_cell w 5 s j hj,ae,List.getD_eq_getElem?_getD,af hj];rfl) (by simp;omega));have HB:Hid (kV s= !(s.data.toList.any ge)):=(by simp[kV,h1b,d2,F6]:kV s= !(s.data.toList.any ge))
   have Oz:=Lib.run_convert_string_bytes (P:=Tryz.prog) w 9 142 5 s Tryz.underlying9 Tryz.underlying142 Tryz.underlying5;have HF:=aa (sN w 5 s);rw[show s.data.toList.length=s.size from rfl]at HC;go_enter Tryz.func94,Tryz.ntmps94;go_wp2_with fail;refine HC.out.mono ?_;obtain⟨q,HQ⟩:∃q,Hid (s.data.toList.any ge=q):=⟨_,rfl⟩
   rw[HQ.out];rintro e w2 ⟨rfl,hf⟩;have cw:=aa hf;clear hf;go_wp2_with fail;go_ret;exact⟨hK.out _ (by rw[HB.out,HQ.out]),HF.out.ag cw.out⟩
  ·have d2:decide ((s.size:Int)<=32)=false:=aah h2;have HB:Hid (kV s=false):=(by simp[kV,d2]:kV s=false)
   go_enter Tryz.func94,Tryz.ntmps94;go_wp2_with fail;go_ret;exact⟨hK.out _ HB.out,Fr.refl _ _⟩
def eB (c:UInt8):Int:=Lib.indexByte [105,108,111,98,99] c
theorem JF (c:UInt8):(ByteArray.mk #[c]).toList=[c]:=by rw[ByteArray.toList_eq]
theorem YR (w:World) (c:UInt8):
  Calls Tryz.prog 189 #[.string ⟨#[105,108,111,98,99]⟩, .int .u8 c.toNat] w fun e w'=>e= .returned (.int .i64 (eB c))/\w=w':=by
 go_enter Tryz.func189,Tryz.ntmps189;go_wp2_with fail;rw[run_callFunc_extern Tryz.func210 (by kernel_rfl) (by kernel_rfl) (by kernel_rfl) (e:=Extern.BytealgIndexByte.indexByte) (by kernel_rfl),Lib.run_indexByteString];simp only[Result.andThen];rw[Oper.upon_value];go_wp2;go_ret;exact⟨by simp[eB],rfl⟩
theorem TO (w:World) (c:UInt8):
  Calls Tryz.prog 153 #[.string ⟨#[105,108,111,98,99]⟩, .string ⟨#[c]⟩] w fun e w'=>e= .returned (.int .i64 (eB c))/\w=w':=by
 go_enter Tryz.func153,Tryz.ntmps153;go_wp2_with fail;refine(YR _ c).mono ?_;rintro e w' ⟨rfl,rfl⟩;go_wp2_with fail;go_ret;exact⟨rfl,rfl⟩
theorem Do (w:World) (c:UInt8):
  Calls Tryz.prog 126 #[.string ⟨#[105,108,111,98,99]⟩, .string ⟨#[c]⟩] w fun e w'=>e= .returned (.int .i64 (eB c))/\w=w':=by
 go_enter Tryz.func126,Tryz.ntmps126;go_wp2_with fail;refine(TO _ c).mono ?_;rintro e w' ⟨rfl,rfl⟩;go_wp2_with fail;go_ret;exact⟨rfl,rfl⟩
theorem Dp (w:World) (c:UInt8):
  Calls Tryz.prog 92 #[.string ⟨#[105,108,111,98,99]⟩, .string ⟨#[c]⟩] w fun e w'=>e= .returned (.bool (decide (0<=eB c)))/\w=w':=by
 go_enter Tryz.func92,Tryz.ntmps92;go_wp2_with fail;refine(Do _ c).mono ?_;rintro e w' ⟨rfl,rfl⟩;go_wp2_with fail;go_ret;exact⟨rfl,rfl⟩
def nU (C:Pc) (k:ByteArray):Int:=
 if(k.toList==[105])=true then C.ins.length else if(k.toList==[108])=true then C.aM.length else if(k.toList==[111])=true then C.outs.length else if(k.toList==[98])=true then C.aT.length else C.aU.length
theorem By (w:World) (H:Hd) (C:Pc) (s:ByteArray):
  Calls Tryz.prog 93 #[dj H C, .string s] w fun e w'=>e= .returned (.int .i64 (nU C s))/\Fr [] w w':=by
 have hK:Hid (∀x,nU C s=x->Ending.returned (.int .i64 x)= .returned (.int .i64 (nU C s))):=fun s h=>by rw[h]
 obtain⟨mx,ins,aM,outs,aT,aU,az,bY⟩:=C;obtain⟨iA,iC,lA,lC,oA,oC,bA,bC,vA,vC,gA,gC,nA,nC⟩:=H;simp only[dj,iz]at *;rcases Bn s.toList [105]with g0 |g0
 ·have HC:=aa (show nU ⟨mx,ins,aM,outs,aT,aU,az,bY⟩ s=_ from by simp only[nU,g0,if_true];rfl);go_enter Tryz.func93,Tryz.ntmps93;go_wp2_with fail;go_ret;exact⟨hK.out _ HC.out,eW _ _⟩
 rcases Bn s.toList [108]with g1 |g1
 ·have HC:=aa (show nU ⟨mx,ins,aM,outs,aT,aU,az,bY⟩ s=_ from by simp only[nU,g0,g1,if_true,if_false,dD];rfl);go_enter Tryz.func93,Tryz.ntmps93;go_wp2_with fail;go_ret;exact⟨hK.out _ HC.out,eW _ _⟩
 rcases Bn s.toList [111]with g2 |g2
 ·have HC:=aa (show nU ⟨mx,ins,aM,outs,aT,aU,az,bY⟩ s=_ from by simp only[nU,g0,g1,g2,if_true,if_false,dD];rfl);go_enter Tryz.func93,Tryz.ntmps93;go_wp2_with fail;go_ret;exact⟨hK.out _ HC.out,eW _ _⟩
 rcases Bn s.toList [98]with g3 |g3
 ·have HC:=aa (show nU ⟨mx,ins,aM,outs,aT,aU,az,bY⟩ s=_ from by simp only[nU,g0,g1,g2,g3,if_true,if_false,dD];rfl);go_enter Tryz.func93,Tryz.ntmps93;go_wp2_with fail;go_ret;exact⟨hK.out _ HC.out,eW _ _⟩
 have HC:=aa (show nU ⟨mx,ins,aM,outs,aT,aU,az,bY⟩ s=_ from by simp only[nU,g0,g1,g2,g3,if_false,dD];rfl);go_enter Tryz.func93,Tryz.ntmps93;go_wp2_with fail;go_ret;exact⟨hK.out _ HC.out,eW _ _⟩
theorem TY (c:UInt8): -1<=eB c/\eB c<=4:=by
 simp only[eB,Lib.indexByte]
 repeat' split
 all_goals simp_all
def letter (k:ByteArray):UInt8:=k.data.toList.headD 0
def rX (x:Nm):Int:=eB (letter x.k)*2048+x.i
theorem Gl (w:World) (c:UInt8) (i:Int) (t:ByteArray) (h0:0<=i) (h1:i<=17592186044416):
  Calls Tryz.prog 95 #[.agg #[.string ⟨#[c]⟩, .int .i64 i, .string t]] w fun e w'=>e= .returned (.int .i64 (eB c*2048+i))/\Fr [] w w':=by
 obtain⟨p1,p2⟩:=TY c;have KI:=aa (fun W=>Do W c);generalize eB c=p at *;obtain⟨W1,jO⟩:∃W,w.alloc (.cells #[.string ⟨#[c]⟩, .int .i64 i, .string t] 134)=W:=⟨_,rfl⟩
 have hO:At W1 w.heap.size 134 #[.string ⟨#[c]⟩, .int .i64 i, .string t]:=jO▸At.new _ _ _;have dI:Hid (Fr [] w W1):=jO▸eW _ _;have c0:=hO.cell 0;have c1:=hO.cell 1;simp at c0 c1;have e0:=Ext.cell c0;have e1:=Ext.cell c1;have HW:=aa jO;have m0:IntKind.i64.wrap (p*2048)=p*2048:=IntWalk.i64_in _ (by omega);have m1:IntKind.i64.wrap (p*2048+i)=p*2048+i:=IntWalk.i64_in _ (by omega);clear jO hO c0 c1;go_enter Tryz.func95,Tryz.ntmps95;go_upto_region 1 with fail;rw[HW.out];refine au (by kernel_rfl) (by kernel_rfl) ?_;repeat (go_big_quiet_step (exact bh (KI.out _)))
 refine aak ?_;rintro w2 ⟨u2,b8⟩;have bj:Hid (Fr [] W1 w2):=b8▸u2.fr;clear b8 u2;go_wp2_with fail;go_ret;exact⟨rfl,dI.out.ag bj.out⟩
theorem JL {k:ByteArray} (h:(k.size:Int)=1):∃c,k=⟨#[c]⟩:=by
 obtain⟨⟨l⟩⟩:=k;have hl:l.length=1:=by simp[ByteArray.size]at h;omega
 match l,hl with
 |[c],_=>exact⟨c,rfl⟩
theorem V3 {w:World} {H:Hd} {C:Pc} (h:fH w H C) (k:ByteArray):nU C k<=17592186044416:=by
 have h1:=h.iL;have h2:=h.lL;have h3:=h.oL;have h4:=h.bL;have h5:=h.vL;unfold nU;split
 ·omega
 ·split
  ·omega
  ·split
   ·omega
   ·split<;>omega
def tz (C:Pc) (x:Nm):Bool:=decide ((x.k.size:Int)=1)&&decide (0<=eB (letter x.k))&&decide (0<=x.i)&&decide (x.i<nU C x.k)&&kV x.t
def fu (C:Pc) (k:Nat):Prop:=∀j:Nat,j<k->tz C C.bY[j]! =true/\(0<j->rX C.bY[j-1]! <rX C.bY[j]!)
theorem fu.zero (C:Pc):fu C 0:=fun j hj=>absurd hj (aI _)
theorem fu.step {C:Pc} {k:Nat} (h:fu C k) (h1:tz C C.bY[k]! =true) (h2:0<k->rX C.bY[k-1]! <rX C.bY[k]!):fu C (k+1):=fun j hj=>by
 by_cases e:j=k
 ·subst e;exact⟨h1,h2⟩
 ·exact h j (by omega)
def NmP (C:Pc) (w:World) (e:Ending) (w':World):Prop:=∃b:Bool,e= .returned (.bool b)/\(b=true↔fu C C.bY.length)/\Fr [] w w'
theorem DN (w:World) (H:Hd) (C:Pc) (h:fH w H C):
  Calls Tryz.prog 50 #[dj H C] w (NmP C w):=by
 have HH:=aa h;have hnL:=h.nL;have AJ:=aa (fun k=>V3 h k);clear h;have NO:Hid (∀W,¬fu C C.bY.length->Fr [] w W->NmP C w (.returned (.bool false)) W):=fun W h1 h2=>⟨false,rfl,by simp[h1],h2⟩
 have oh:Hid (∀W,fu C C.bY.length->Fr [] w W->NmP C w (.returned (.bool true)) W):=fun W h1 h2=>⟨true,rfl,by simp[h1],h2⟩
 have HS:=aa (Cx.start w H C);have KC:=aa (fun W s=>By W H C s);have RK:=aa (fun W c i t h0 h1=>Gl W c i t h0 h1);have NBD:Hid (∀k:Nat,k<C.bY.length->tz C C.bY[k]! =false->¬fu C C.bY.length):=fun k hk hb hn=>by have :=(hn k hk).1;rw[hb]at this;cases this
 have NBR:Hid (∀k:Nat,k<C.bY.length->0<k->¬rX C.bY[k-1]! <rX C.bY[k]! ->¬fu C C.bY.length):=fun k hk h0 hb hn=>hb ((hn k hk).2 h0);obtain⟨mx,ins,aM,outs,aT,aU,az,bY⟩:=C;obtain⟨iA,iC,lA,lC,oA,oC,bA,bC,vA,vC,gA,gC,nA,nC⟩:=H;simp only[dj,iz]at *;go_enter Tryz.func50,Tryz.ntmps50;go_wp2_with fail;go_loopg [8] bY.length (fun g i wr=>∃k:Nat,k+g=bY.length/\i= .int .i64 k/\Cx w wr ⟨iA,iC,lA,lC,oA,oC,bA,bC,vA,vC,gA,gC,nA,nC⟩ ⟨mx,ins,aM,outs,aT,aU,az,bY⟩/\fu ⟨mx,ins,aM,outs,aT,aU,az,bY⟩ k);case atStart=>exact⟨0,by omega,rfl,HS.out,fu.zero _⟩
 case round=>
  obtain⟨k,hk,rfl,hx,hn⟩:=hrel;have HK:=aa hk;have HX:=aa hx;have HN:=aa hn;have jg:k<=bY.length:=by omega
  obtain⟨c0,c1,c2,c3,c4,c5,c6,c7⟩:=hx.cells;clear hk hx hn;simp only at c0 c1 c2 c3 c4 c5 c6 c7;by_cases bw:k<bY.length
  ·obtain⟨b,o,x,y,z,hA,he,cx,cy,cz,fN,⟨iP,lE⟩,nN⟩:=(HH.out.keep HX.out.fr).n.one HH.out.nr bw;simp only at hA;subst hA;go_upto_region 4 with fail;obtain⟨W1,jO⟩:∃W,wr.alloc (.cells #[.string x, .int .i64 y, .string z] 134)=W:=⟨_,rfl⟩
   rw[jO];have hO:At W1 wr.heap.size 134 #[.string x, .int .i64 y, .string z]:=jO▸At.new _ _ _;have dI:Hid (Fr [] wr W1):=jO▸eW _ _;clear jO c0 c1 c2 c3 c4 c5 c6 c7 cx cy cz;generalize wr.heap.size=ob at hO⊢;have jH:=aa (HX.out.keep dI.out);have HO:=aa hO;clear hO;obtain⟨hb,HB⟩:∃hb,Hid (tz ⟨mx,ins,aM,outs,aT,aU,az,bY⟩ ⟨x,y,z⟩=hb):=⟨_,rfl⟩
   obtain⟨tb,HTB⟩:∃tb,Hid (kV z=tb):=⟨_,rfl⟩
   have KT0:=fun W=>F9 W z nN;rw[HTB.out]at KT0;have KT:=aa KT0;obtain⟨n,mv⟩:∃n,Hid (nU ⟨mx,ins,aM,outs,aT,aU,az,bY⟩ x=n):=⟨_,rfl⟩
   have KQ0:=fun W=>KC.out W x;rw[mv.out]at KQ0;have KQ:=aa KQ0;clear KQ0 KT0;have GR:=fN;unfold maxLen at GR
   go_cut [42] (fun st wx=>st= .bool (!hb)/\Fr [] W1 wx)
   case first =>
    have nx:W1.cell? ⟨ob,0,none⟩=some (.string x):=by rw[HO.out.cell];rfl
    have ny:W1.cell? ⟨ob,1,none⟩=some (.int .i64 y):=by rw[HO.out.cell];rfl
    have nz:W1.cell? ⟨ob,2,none⟩=some (.string z):=by rw[HO.out.cell];rfl
    have ex:=Ext.cell nx;have ey:=Ext.cell ny;have ez:=Ext.cell nz;obtain⟨e0,e1,e2,e3,e4,e5,e6,e7⟩:=jH.out.ext;simp only at e0 e1 e2 e3 e4 e5 e6 e7;by_cases s1:(x.size:Int)=1
    ·obtain⟨c,hc⟩:=JL s1;subst hc;have KS:=aa (fun W=>Dp W c);clear s1;by_cases p0:0<=eB c
     ·have p0b:decide (0<=eB c)=true:=aai p0;have PL:Hid (eB (letter ⟨#[c]⟩)=eB c):=rfl;by_cases h0:0<=y
      ·have d0:decide (y<0)=false:=aah (by omega);by_cases h1:y<n
       ·have d1:decide (n<=y)=false:=aah (by omega);go_wp2_with fail;refine au (by kernel_rfl) (by kernel_rfl) ?_;repeat (go_big_quiet_step (first | (go_at_call 92;exact bh (KS.out _)) | (go_at_call 93;exact bX (KQ.out _)) | (go_at_call 94;exact bX (KT.out _))))
        refine aak ?_;rintro w2 ⟨u2,b8⟩;have bj:Hid (Fr [] W1 w2):=b8▸u2.fr;clear b8 u2;go_wp2_with fail;go_meet;exact⟨by rw[<-HB.out];simp[tz,PL.out,p0,h0,mv.out,h1,HTB.out,ByteArray.size],bj.out⟩
       ·have d1:decide (n<=y)=true:=aai (by omega);go_wp2_with fail;refine au (by kernel_rfl) (by kernel_rfl) ?_;repeat (go_big_quiet_step (first | (go_at_call 92;exact bh (KS.out _)) | (go_at_call 93;exact bX (KQ.out _)) | (go_at_call 94;exact bX (KT.out _))))
        refine aak ?_;rintro w2 ⟨u2,b8⟩;have bj:Hid (Fr [] W1 w2):=b8▸u2.fr;clear b8 u2;go_wp2_with fail;go_meet;exact⟨by rw[<-HB.out];simp[tz,mv.out,h1],bj.out⟩
      ·have d0:decide (y<0)=true:=aai (by omega);go_wp2_with fail;refine au (by kernel_rfl) (by kernel_rfl) ?_;repeat (go_big_quiet_step (first | (go_at_call 92;exact bh (KS.out _)) | (go_at_call 93;exact bX (KQ.out _)) | (go_at_call 94;exact bX (KT.out _))))
       refine aak ?_;rintro w2 ⟨u2,b8⟩;have bj:Hid (Fr [] W1 w2):=b8▸u2.fr;clear b8 u2;go_wp2_with fail;go_meet;exact⟨by rw[<-HB.out];simp[tz,show ¬0<=y from by omega],bj.out⟩
     ·have p0b:decide (0<=eB c)=false:=aah p0;have PL:Hid (eB (letter ⟨#[c]⟩)=eB c):=rfl;go_wp2_with fail;refine au (by kernel_rfl) (by kernel_rfl) ?_;repeat (go_big_quiet_step (first | (go_at_call 92;exact bh (KS.out _)) | (go_at_call 93;exact bX (KQ.out _)) | (go_at_call 94;exact bX (KT.out _))))
      refine aak ?_;rintro w2 ⟨u2,b8⟩;have bj:Hid (Fr [] W1 w2):=b8▸u2.fr;clear b8 u2;go_wp2_with fail;go_meet;exact⟨by rw[<-HB.out];simp[tz,PL.out,p0],bj.out⟩
    ·have s1b:((x.size:Int) !=1)=true:=(by simp[s1])
     have S1:=aa s1;clear s1;go_wp2_with fail;refine au (by kernel_rfl) (by kernel_rfl) ?_;repeat (go_big_quiet_step (fail))
     refine aak ?_;rintro w2 ⟨u2,b8⟩;have bj:Hid (Fr [] W1 w2):=b8▸u2.fr;clear b8 u2;go_wp2_with fail;go_meet;exact⟨by rw[<-HB.out];simp[tz,S1.out],bj.out⟩
   case rest=>
    obtain⟨rfl,hfc⟩:=hcut;have HFC:=aa hfc;clear hfc;have gh:=aa (jH.out.keep HFC.out);have vk:=aa (HO.out.keep HFC.out);cases hb with
    |false=>
     go_wp2_with fail;go_ret;exact NO.out _ (NBD.out k bw (by rw[he.out];exact HB.out)) gh.out.fr
    |true=>
     have Om:=HB.out;simp only[tz,ax,aal]at Om;obtain⟨⟨⟨⟨s1,p0⟩,h0⟩,h1⟩,_⟩:=Om;obtain⟨c,hc⟩:=JL s1;have h2:=AJ.out x;subst hc;have Tc:y<=17592186044416:=(by omega)
     clear s1 p0 h1 h2;have nx:wc.cell? ⟨ob,0,none⟩=some (.string ⟨#[c]⟩):=by rw[vk.out.cell];rfl
     have ny:wc.cell? ⟨ob,1,none⟩=some (.int .i64 y):=by rw[vk.out.cell];rfl
     have nz:wc.cell? ⟨ob,2,none⟩=some (.string z):=by rw[vk.out.cell];rfl
     have ex:=Ext.cell nx;have ey:=Ext.cell ny;have ez:=Ext.cell nz;obtain⟨e0,e1,e2,e3,e4,e5,e6,e7⟩:=gh.out.ext;simp only at e0 e1 e2 e3 e4 e5 e6 e7;by_cases M0:0<k
     ·obtain⟨j,rfl⟩:∃j,k=j+1:=⟨k-1,by omega⟩
      obtain⟨b',o',x',y',z',CT,eK,Ru,rH,cz',YU,⟨aj8,aj7⟩,arR⟩:=(HH.out.keep gh.out.fr).n.one HH.out.nr (show j<bY.length by omega);simp only[Option.some.injEq,Addr.mk.injEq,and_true]at CT;obtain⟨rfl,rfl⟩:=CT;have Om:=(HN.out j (by omega)).1;simp only[eK.out]at Om;simp only[tz,ax,aal]at Om;obtain⟨⟨⟨⟨s1,p0⟩,Kp⟩,h1⟩,_⟩:=Om;obtain⟨c',hc'⟩:=JL s1;have h2:=AJ.out x';subst hc';have arT:y'<=17592186044416:=(by omega)
      clear s1 p0 h1 h2;have ex':=Ext.cell Ru;have ey':=Ext.cell rH;have ez':=Ext.cell cz';clear Ru rH cz' nx ny nz;by_cases hr:eB c*2048+y<=eB c'*2048+y'
      ·have dr:decide (eB c*2048+y<=eB c'*2048+y')=true:=aai hr;have HR:=aa hr;clear hr;go_wp2_with fail;refine au (by kernel_rfl) (by kernel_rfl) ?_;repeat (go_big_quiet_step (exact bX (RK.out _ _ _ _ (by omega) (by omega))))
       refine aak ?_;rintro w2 ⟨u2,b8⟩;have bj:Hid (Fr [] wc w2):=b8▸u2.fr;clear b8 u2;go_wp2_with fail;go_ret;exact NO.out _ (NBR.out (j+1) bw M0 (by rw[fl,he.out,eK.out];have :=HR.out;show eB c*2048+y<=eB c'*2048+y';omega)) (gh.out.fr.ag bj.out)
      ·have dr:decide (eB c*2048+y<=eB c'*2048+y')=false:=aah hr;have HR:=aa hr;clear hr;go_wp2_with fail;refine au (by kernel_rfl) (by kernel_rfl) ?_;repeat (go_big_quiet_step (exact bX (RK.out _ _ _ _ (by omega) (by omega))))
       refine aak ?_;rintro w2 ⟨u2,b8⟩;have bj:Hid (Fr [] wc w2):=b8▸u2.fr;clear b8 u2;go_wp2_with fail;go_roundg (gk-1);case measure=>have :=HK.out;omega
       case rel=>exact⟨j+2,by have :=HK.out;omega,by go_num,gh.out.keep bj.out,HN.out.step (by rw[he.out];exact HB.out) (fun h=>by rw[fl,he.out,eK.out];have :=HR.out;show eB c'*2048+y'<eB c*2048+y;omega)⟩
     ·obtain rfl :k=0:=by omega
      go_wp2_with fail;refine au (by kernel_rfl) (by kernel_rfl) ?_;repeat (go_big_quiet_step (fail))
      refine aak ?_;rintro w2 ⟨u2,b8⟩;have bj:Hid (Fr [] wc w2):=b8▸u2.fr;clear b8 u2;go_wp2_with fail;go_roundg (gk-1);case measure=>have :=HK.out;omega
      case rel=>exact⟨1,by have :=HK.out;omega,by go_num,gh.out.keep bj.out,HN.out.step (by rw[he.out];exact HB.out) (fun h=>absurd h (Nat.lt_irrefl _))⟩
  ·have HT:Hid (fu ⟨mx,ins,aM,outs,aT,aU,az,bY⟩ bY.length):=(by rw[show bY.length=k from by omega];exact HN.out:fu ⟨mx,ins,aM,outs,aT,aU,az,bY⟩ bY.length)
   go_wp2_with fail;go_ret;exact oh.out _ HT.out HX.out.fr
def Dk (f:Int->List UInt8) (l:List Int):Prop:=∀v,eh v->((f v).isEmpty=true↔∀x∈l,x/2≠v)
theorem Dk.nil:Dk (fun _=>[]) []:=fun v _=>by simp
theorem Dk.step {f:Int->List UInt8} {l:List Int} (h:Dk f l) (x:Int) (s:List UInt8) (hs:s.isEmpty=false):Dk (fun v=>if v=x/2 then s else f v) (l++[x]):=fun v hv=>by
 show(if v=x/2 then s else f v).isEmpty=true↔_;by_cases e:v=x/2
 ·subst e;rw[aae rfl,hs];constructor
  ·intro h;cases h
  ·intro hh;exact absurd rfl (hh x (by simp))
 ·rw[aac e,h v hv];constructor
  ·intro hh y hy;rcases ah.1 hy with hy |hy
   ·exact hh y hy
   ·simp only[ai]at hy;subst hy;exact fun h=>e h.symm
  ·intro hh y hy;exact hh y (ah.2 (.inl hy))
theorem DH {C:Pc} {l:List Int} {k:Nat} (h:AG C l k) {x:Int} (hx:x∈l.take k):2<=x/\x%2=0/\x<=2*C.mx:=by
 obtain⟨j,hj,e⟩:=List.mem_iff_getElem.1 hx;rw[bp]at hj;have :=h j (by omega);simp only[kZ,ax,aal]at this;have e2:l[j]! =x:=by rw[List.getElem_take]at e;rw[ae,af (by omega),<-e];rfl
 rw[e2]at this;exact⟨this.1.1.1,this.1.1.2,this.1.2⟩
theorem IH {C:Pc} {l:List Int} {k:Nat} {f:Int->List UInt8} (h:AG C l k) (hd:Dk f (l.take k)) (hr:eh l[k]!):vb f l[k]! C.mx=kZ C l k:=by
 unfold vb kZ;generalize hx:l[k]! =x at *;by_cases h1:2<=x
 ·by_cases h2:x%2=0
  ·have e3:decide (x/2<=C.mx)=decide (x<=2*C.mx):=by
    by_cases h3:x<=2*C.mx
    ·rw[aai h3,aai (by omega)]
    ·rw[aah h3,aah (by omega)]
   have e4:(f (x/2)).isEmpty= !decide (x∈l.take k):=by
    have hR:eh (x/2):=by unfold eh at hr⊢;omega
    by_cases hm:x∈l.take k
    ·have :(f (x/2)).isEmpty=false:=by rw[nf];intro h5;exact(hd _ hR).1 h5 x hm rfl
     rw[this,aai hm];rfl
    ·have :(f (x/2)).isEmpty=true:=by
      rw[hd _ hR];intro y hy h5;obtain⟨y1,y2,_⟩:=DH h hy;have :y=x:=(by omega)
      exact hm (this▸hy)
     rw[this,aah hm];rfl
   rw[e3,e4]
  ·rw[aah h2];simp
 ·rw[aah h1];simp
theorem EP (a b:List Int) (k:Nat) (h:k<a.length):(a++b)[k]! =a[k]! :=by simp only[ae,cJ h]
theorem EO (a b:List Int) (k:Nat):(a++b)[a.length+k]! =b[k]! :=by simp only[ae,eO (Nat.le_add_right _ _),Nat.add_sub_cancel_left]
theorem get_map (l:List T3) (k:Nat) (h:k<l.length):(l.map fun x=>x.a)[k]! =(l[k]!).a:=by simp[h]
theorem Bz (C:Pc) (k:Nat) (h:k<C.ins.length):(cK C)[k]! =C.ins[k]! :=by unfold cK;rw[jP,EP _ _ _ h]
theorem T5 (C:Pc) (k:Nat) (h:k<C.aM.length):(cK C)[C.ins.length+k]! =(C.aM[k]!).a:=by unfold cK;rw[jP,EO,EP _ _ _ (by simpa using h),get_map _ _ h]
theorem T7 (C:Pc) (k:Nat) (h:k<C.az.length):(cK C)[C.ins.length+C.aM.length+k]! =(C.az[k]!).a:=by have :=EO (C.ins++C.aM.map fun x=>x.a) (C.az.map fun x=>x.a) k;rw[aj,aq]at this;unfold cK;rw[this,get_map _ _ h]
theorem Pz (C:Pc):(cK C).length=C.ins.length+C.aM.length+C.az.length:=by simp[cK];omega
structure mX (C:Pc):Prop where
 own:∀j:Nat,j<(cK C).length->kZ C (cK C) j=true
 JO:∀j:Nat,j<C.aM.length->uP C.aM[j]! =true
 ris:∀j:Nat,j<C.az.length->0<j->(C.az[j-1]!).a<(C.az[j]!).a
def DfP (C:Pc) (w:World) (e:Ending) (w':World):Prop:=((mX C/\∃g b n f,e= .returned (.pointer (some ⟨g,0,none⟩))/\Ms w' g b n f/\Dk f (cK C))\/(¬mX C/\e=fj))/\Fr [] w w'
structure Df (w wr:World) (H:Hd) (C:Pc) (g b i:Nat) (f:Int->List UInt8):Prop where
 cx:Cx w wr H C
 ms:Ms wr g b i f
 dk:Dk f ((cK C).take i)
 upto:AG C (cK C) i
theorem Df.keep {w wr w':World} {H:Hd} {C:Pc} {g b i:Nat} {f:Int->List UInt8} (h:Df w wr H C g b i f) (hf:Fr [] wr w'):Df w w' H C g b i f:=⟨h.cx.keep hf,h.ms.keep hf,h.dk,h.upto⟩
theorem Df.put {w wr w':World} {H:Hd} {C:Pc} {g b i:Nat} {f:Int->List UInt8} (h:Df w wr H C g b i f) (hi:i<(cK C).length) (hb:w.heap.size<b) (s:List UInt8) (hs:s.isEmpty=false)
  (ho:kZ C (cK C) i=true) (hm:Ms w' g b (i+1) (fun v=>if v=(cK C)[i]! /2 then s else f v)) (hf:Fr [b] wr w'):Df w w' H C g b (i+1) (fun v=>if v=(cK C)[i]! /2 then s else f v):=
 ⟨⟨h.cx.fr.trans hf (fun x hx=> .inr (by simp at hx;omega)),hf.at_ h.cx.bx (by simp;omega)⟩,hm,by rw[mF _ _ hi];exact h.dk.step _ _ hs,h.upto.step ho⟩
theorem LG {x y z:Int} {rb:Bool} (h:uP ⟨x,y,z⟩=rb):(rb=true/\(z=0\/(z≠0/\z=1)\/(z≠0/\z≠1/\z=x)))\/(rb=false/\z≠0/\z≠1/\z≠x):=by
 subst h;by_cases a1:z=0
 ·exact .inl ⟨by simp[uP,a1], .inl a1⟩
 ·by_cases a2:z=1
  ·exact .inl ⟨by simp[uP,a2], .inr (.inl ⟨a1,a2⟩)⟩
  ·by_cases a3:z=x
   ·exact .inl ⟨by simp[uP,a3], .inr (.inr ⟨a1,a2,a3⟩)⟩
   ·exact .inr ⟨by simp[uP,a1,a2,a3],a1,a2,a3⟩
theorem Df.start (w:World) (H:Hd) (C:Pc):Df w (((w.alloc (.cells (iz H C) 27)).alloc (.map #[] 0)).alloc (.cells #[.map (some (w.heap.size+1))] 131)) H C (w.heap.size+1+1) (w.heap.size+1) 0 (fun _=>[]):=by
 refine⟨(((Cx.start w H C).keep (eW _ _)).keep (eW _ _)),⟨?_,?_⟩,?_,fun j hj=>absurd hj (aI _)⟩
 ·have :=At.new ((w.alloc (.cells (iz H C) 27)).alloc (.map #[] 0)) 131 #[.map (some (w.heap.size+1))];simpa using this
 ·have :=(Met.new (w.alloc (.cells (iz H C) 27))).keep (eW _ (.cells #[.map (some (w.heap.size+1))] 131));simpa using this
 ·rw[List.take_zero];exact Dk.nil
theorem zm (w:World) (H:Hd) (C:Pc) (h:fH w H C) (h64:C.ins.length<=64) (h65:C.aM.length<=64) (uY:0<=C.mx) (mz:C.mx<=2048):
  Calls Tryz.prog 47 #[dj H C] w (DfP C w):=by
 have HH:=aa h;have hgL:=h.gL;clear h;have NO:Hid (∀W,¬mX C->Fr [] w W->DfP C w fj W):=fun W h1 h2=>⟨.inr ⟨h1,rfl⟩,h2⟩
 have oh:Hid (∀W g b n f,mX C->Ms W g b n f->Dk f (cK C)->Fr [] w W->DfP C w (.returned (.pointer (some ⟨g,0,none⟩))) W):=fun W g b n f h1 h2 h3 h4=>⟨.inl ⟨h1,g,b,n,f,rfl,h2,h3⟩,h4⟩
 have NOW:Hid (∀j,j<(cK C).length->kZ C (cK C) j=false->¬mX C):=fun j hj hb hd=>by have :=hd.own j hj;rw[hb]at this;cases this
 have NRS:Hid (∀j,j<C.aM.length->uP C.aM[j]! =false->¬mX C):=fun j hj hb hd=>by have :=hd.JO j hj;rw[hb]at this;cases this
 have NRI:Hid (∀j,j<C.az.length->0<j->¬(C.az[j-1]!).a<(C.az[j]!).a->¬mX C):=fun j hj h0 hb hd=>hb (hd.ris j hj h0);have lz:=aa (fun(h1:∀j:Nat,j<(cK C).length->kZ C (cK C) j=true) (h2:∀j:Nat,j<C.aM.length->uP C.aM[j]! =true) (h3:∀j:Nat,j<C.az.length->0<j->(C.az[j-1]!).a<(C.az[j]!).a)=>(⟨h1,h2,h3⟩:mX C));have CZ:=aa (Pz C);have HOI:=aa (Bz C);have HOL:=aa (T5 C);have HOA:=aa (T7 C);have HS:=aa (Cx.start w H C);obtain⟨mx,ins,aM,outs,aT,aU,az,bY⟩:=C;obtain⟨iA,iC,lA,lC,oA,oC,bA,bC,vA,vC,gA,gC,nA,nC⟩:=H;simp only[dj,iz]at *;have yD:=@run_makeMap Tryz.prog;have HDS:=aa (Df.start w ⟨iA,iC,lA,lC,oA,oC,bA,bC,vA,vC,gA,gC,nA,nC⟩ ⟨mx,ins,aM,outs,aT,aU,az,bY⟩);simp only[iz]at HDS;go_enter Tryz.func47,Tryz.ntmps47;go_upto_region 2 with fail;obtain⟨W0,Q3⟩:∃W,((w.alloc (.cells #[.int .i64 mx, .slice iA ins.length iC, .slice lA aM.length lC, .slice oA outs.length oC, .slice bA aT.length bC, .slice vA aU.length vC, .slice gA az.length gC, .slice nA bY.length nC] 27)).alloc (.map #[] 0)).alloc (.cells #[.map (some (w.heap.size+1))] 131)=W:=⟨_,rfl⟩
 rw[Q3]at HDS⊢;obtain⟨gb,XC⟩:∃gb,w.heap.size+1=gb:=⟨_,rfl⟩
 rw[XC]at HDS⊢;obtain⟨ga,pu⟩:∃ga,gb+1=ga:=⟨_,rfl⟩
 rw[pu]at HDS⊢;have aes:ga≠gb:=by omega
 have yE:w.heap.size<gb:=by omega
 have rK:=aa aes;clear Q3 pu XC yD aes;have hx:=HDS.out.cx;obtain⟨c0,c1,c2,c3,c4,c5,c6,c7⟩:=hx.cells;clear hx;simp only at c0 c1 c2 c3 c4 c5 c6 c7;go_wp2_with fail;clear c0 c1 c2 c3 c4 c5 c6 c7;go_loopg [16] ins.length (fun g i wr=>∃(k:Nat) (f:Int->List UInt8),k+g=ins.length/\i= .int .i64 k/\Df w wr ⟨iA,iC,lA,lC,oA,oC,bA,bC,vA,vC,gA,gC,nA,nC⟩ ⟨mx,ins,aM,outs,aT,aU,az,bY⟩ ga gb k f);case atStart=>exact⟨0,_,by omega,rfl,HDS.out⟩
 case round=>
  clear HDS;obtain⟨k,f,hk,rfl,hx⟩:=hrel;have HK:=aa hk;have HX:=aa hx;have jg:k<=ins.length:=by omega
  obtain⟨c0,c1,c2,c3,c4,c5,c6,c7⟩:=hx.cx.cells;clear hk hx;simp only at c0 c1 c2 c3 c4 c5 c6 c7;by_cases bw:k<ins.length
  ·obtain⟨b,o,x,hA,he,cx,fN,gd⟩:=(HH.out.keep HX.out.cx.fr).i.one HH.out.ir bw;simp only at hA;subst hA;have HO:Hid ((cK ⟨mx,ins,aM,outs,aT,aU,az,bY⟩)[k]! =x):=(HOI.out k bw).trans he.out;have HJ:Hid (k<(cK ⟨mx,ins,aM,outs,aT,aU,az,bY⟩).length):=(by rw[CZ.out];omega:k<(cK ⟨mx,ins,aM,outs,aT,aU,az,bY⟩).length)
   have SL:Hid (vb f x mx=kZ ⟨mx,ins,aM,outs,aT,aU,az,bY⟩ (cK ⟨mx,ins,aM,outs,aT,aU,az,bY⟩) k):=(by have :=IH HX.out.upto HX.out.dk (by rw[HO.out];exact⟨fN,gd⟩);rw[HO.out]at this;exact this:vb f x mx=kZ ⟨mx,ins,aM,outs,aT,aU,az,bY⟩ (cK ⟨mx,ins,aM,outs,aT,aU,az,bY⟩) k)
   obtain⟨q,HQ⟩:∃q,Hid (kZ ⟨mx,ins,aM,outs,aT,aU,az,bY⟩ (cK ⟨mx,ins,aM,outs,aT,aU,az,bY⟩) k=q):=⟨_,rfl⟩
   go_wp2_with fail;cases q with
   |true=>
    refine(tU wr ga gb k f x mx _ HX.out.ms rK.out ⟨fN,gd⟩ (SL.out.trans HQ.out) (by simp[ByteArray.size]) (by omega)).mono ?_;rintro e w2 ⟨rfl,hm,hf⟩;have gh:=aa (HX.out.put HJ.out yE [105] rfl HQ.out (by rw[HO.out];exact hm) hf);clear hm hf c0 c1 c2 c3 c4 c5 c6 c7 cx;go_wp2_with fail;go_roundg (gk-1);case measure=>have :=HK.out;omega
    case rel=>exact⟨k+1,_,by have :=HK.out;omega,by go_num,gh.out⟩
   |false=>
    refine(rr wr ga gb k f x mx _ HX.out.ms ⟨fN,gd⟩ (SL.out.trans HQ.out)).mono ?_;unfold fj;rintro e w2 ⟨rfl,rfl⟩;go_wp2_with fail;exact⟨rfl,NO.out _ (NOW.out k HJ.out HQ.out) HX.out.cx.fr⟩
  ·obtain rfl :k=ins.length:=by omega
   have zJ:=HX;clear HX HK jg bw;go_wp2_with fail;clear c0 c1 c2 c3 c4 c5 c6 c7;go_loopg [29] aM.length (fun g i wr=>∃(k:Nat) (f:Int->List UInt8),k+g=aM.length/\i= .int .i64 k/\Df w wr ⟨iA,iC,lA,lC,oA,oC,bA,bC,vA,vC,gA,gC,nA,nC⟩ ⟨mx,ins,aM,outs,aT,aU,az,bY⟩ ga gb (ins.length+k) f/\(∀j,j<k->uP aM[j]! =true));case atStart=>exact⟨0,_,by omega,rfl,zJ.out,fun j hj=>absurd hj (aI _)⟩
   case round=>
    clear zJ f;obtain⟨k,f,hk,rfl,hx,iy⟩:=hrel;have HK:=aa hk;have HX:=aa hx;have oN:=aa iy;have jg:k<=aM.length:=(by omega)
    obtain⟨c0,c1,c2,c3,c4,c5,c6,c7⟩:=hx.cx.cells;clear hk hx iy;simp only at c0 c1 c2 c3 c4 c5 c6 c7;by_cases bw:k<aM.length
    ·obtain⟨b,o,x,y,z,hA,he,cx,cy,cz,⟨fN,gd⟩,⟨iP,lE⟩,_,_⟩:=(HH.out.keep HX.out.cx.fr).l.one HH.out.lr bw;simp only at hA;subst hA;have HO:Hid ((cK ⟨mx,ins,aM,outs,aT,aU,az,bY⟩)[ins.length+k]! =x):=(HOL.out k bw).trans (by rw[he.out]);have HJ:Hid (ins.length+k<(cK ⟨mx,ins,aM,outs,aT,aU,az,bY⟩).length):=(by rw[CZ.out];omega:ins.length+k<(cK ⟨mx,ins,aM,outs,aT,aU,az,bY⟩).length)
     have SL:Hid (vb f x mx=kZ ⟨mx,ins,aM,outs,aT,aU,az,bY⟩ (cK ⟨mx,ins,aM,outs,aT,aU,az,bY⟩) (ins.length+k)):=(by have :=IH HX.out.upto HX.out.dk (by rw[HO.out];exact⟨fN,gd⟩);rw[HO.out]at this;exact this:vb f x mx=kZ ⟨mx,ins,aM,outs,aT,aU,az,bY⟩ (cK ⟨mx,ins,aM,outs,aT,aU,az,bY⟩) (ins.length+k))
     obtain⟨q,HQ⟩:∃q,Hid (kZ ⟨mx,ins,aM,outs,aT,aU,az,bY⟩ (cK ⟨mx,ins,aM,outs,aT,aU,az,bY⟩) (ins.length+k)=q):=⟨_,rfl⟩
     go_upto_region 10 with fail;obtain⟨W1,jO⟩:∃W,wr.alloc (.cells #[.int .i64 x, .int .i64 y, .int .i64 z] 63)=W:=⟨_,rfl⟩
     rw[jO];have hO:At W1 wr.heap.size 63 #[.int .i64 x, .int .i64 y, .int .i64 z]:=jO▸At.new _ _ _;have jH:Hid (Fr [] wr W1):=jO▸eW _ _;have HOB:Hid (wr.heap.size≠gb):=fun e=>Nat.lt_irrefl _ (e▸HX.out.ms.met.lt);clear jO c0 c1 c2 c3 c4 c5 c6 c7 cx cy cz;generalize wr.heap.size=ob at hO HOB⊢;have gh:=aa (HX.out.keep jH.out);have kt:=aa hO;have n0:W1.cell? ⟨ob,0,none⟩=some (.int .i64 x):=by rw[hO.cell];rfl
     clear hO;obtain⟨c0,c1,c2,c3,c4,c5,c6,c7⟩:=gh.out.cx.cells;simp only at c0 c1 c2 c3 c4 c5 c6 c7;go_wp2_with fail;cases q with
     |true=>
      refine(tU W1 ga gb (ins.length+k) f x mx _ gh.out.ms rK.out ⟨fN,gd⟩ (SL.out.trans HQ.out) (by simp[ByteArray.size]) (by omega)).mono ?_;rintro e w2 ⟨rfl,hm,hf⟩;have vk:=aa (hf.at_ kt.out (by simp;exact HOB.out));have ly:=aa (gh.out.put HJ.out yE [108] rfl HQ.out (by rw[HO.out];exact hm) hf);clear hm hf c0 c1 c2 c3 c4 c5 c6 c7 n0;have n0:w2.cell? ⟨ob,0,none⟩=some (.int .i64 x):=by rw[vk.out.cell];rfl
      have n2:w2.cell? ⟨ob,2,none⟩=some (.int .i64 z):=by rw[vk.out.cell];rfl
      obtain⟨rb,ON⟩:∃rb,Hid (uP ⟨x,y,z⟩=rb):=⟨_,rfl⟩
      go_upto_region 11 with fail;have hz:=LG ON.out;rcases hz with⟨rfl,z0 |⟨z0,z1⟩ |⟨z0,z1,z2⟩⟩ |⟨rfl,z0,z1,z2⟩
      ·have b0:(z==0)=true:=(by simp[z0])
       clear z0;go_wp2_with fail;refine(ik _).mono ?_;rintro e w3 ⟨rfl,rfl⟩;go_wp2_with fail;go_roundg (gk-1);case measure=>have :=HK.out;omega
       case rel=>exact⟨k+1,_,by have :=HK.out;omega,by go_num,ly.out,fun j hj=>by
        by_cases ej:j=k
        ·subst ej;rw[he.out];exact ON.out
        ·exact oN.out j (by omega)⟩
      ·have b0:(z==0)=false:=(by simp[z0])
       have b1:(z==1)=true:=(by simp[z1])
       clear z0 z1;go_wp2_with fail;refine(ik _).mono ?_;rintro e w3 ⟨rfl,rfl⟩;go_wp2_with fail;go_roundg (gk-1);case measure=>have :=HK.out;omega
       case rel=>exact⟨k+1,_,by have :=HK.out;omega,by go_num,ly.out,fun j hj=>by
        by_cases ej:j=k
        ·subst ej;rw[he.out];exact ON.out
        ·exact oN.out j (by omega)⟩
      ·have b0:(z==0)=false:=(by simp[z0])
       have b1:(z==1)=false:=(by simp[z1])
       have b2:(z==x)=true:=(by simp[z2])
       clear z0 z1 z2;go_wp2_with fail;refine(ik _).mono ?_;rintro e w3 ⟨rfl,rfl⟩;go_wp2_with fail;go_roundg (gk-1);case measure=>have :=HK.out;omega
       case rel=>exact⟨k+1,_,by have :=HK.out;omega,by go_num,ly.out,fun j hj=>by
        by_cases ej:j=k
        ·subst ej;rw[he.out];exact ON.out
        ·exact oN.out j (by omega)⟩
      ·have b0:(z==0)=false:=(by simp[z0])
       have b1:(z==1)=false:=(by simp[z1])
       have b2:(z==x)=false:=(by simp[z2])
       clear z0 z1 z2;go_wp2_with fail;refine(eC _).mono ?_;unfold fj;rintro e w3 ⟨rfl,rfl⟩;go_wp2_with fail;exact⟨rfl,NO.out _ (NRS.out k bw (by rw[he.out];exact ON.out)) ly.out.cx.fr⟩
     |false=>
      refine(rr W1 ga gb (ins.length+k) f x mx _ gh.out.ms ⟨fN,gd⟩ (SL.out.trans HQ.out)).mono ?_;unfold fj;rintro e w2 ⟨rfl,rfl⟩;go_wp2_with fail;exact⟨rfl,NO.out _ (NOW.out _ HJ.out HQ.out) gh.out.cx.fr⟩
    ·obtain rfl :k=aM.length:=by omega
     have zJ:=HX;have HRT:=oN;clear HX HK jg bw oN;go_wp2_with fail;clear c0 c1 c2 c3 c4 c5 c6 c7;go_loopg [59] az.length (fun g i wr=>∃(k:Nat) (f:Int->List UInt8),k+g=az.length/\i= .int .i64 k/\Df w wr ⟨iA,iC,lA,lC,oA,oC,bA,bC,vA,vC,gA,gC,nA,nC⟩ ⟨mx,ins,aM,outs,aT,aU,az,bY⟩ ga gb (ins.length+aM.length+k) f/\(∀j,j<k->0<j->(az[j-1]!).a<(az[j]!).a));case atStart=>exact⟨0,_,by omega,rfl,zJ.out,fun j hj=>absurd hj (aI _)⟩
     case round=>
      clear zJ f;obtain⟨k,f,hk,rfl,hx,iy⟩:=hrel;have HK:=aa hk;have HX:=aa hx;have oN:=aa iy;have jg:k<=az.length:=(by omega)
      obtain⟨c0,c1,c2,c3,c4,c5,c6,c7⟩:=hx.cx.cells;clear hk hx iy;simp only at c0 c1 c2 c3 c4 c5 c6 c7;by_cases bw:k<az.length
      ·obtain⟨b,o,x,y,z,hA,he,cx,cy,cz,⟨fN,gd⟩,⟨iP,lE⟩,_,_⟩:=(HH.out.keep HX.out.cx.fr).g.one HH.out.gr bw;simp only at hA;subst hA;have HO:Hid ((cK ⟨mx,ins,aM,outs,aT,aU,az,bY⟩)[ins.length+aM.length+k]! =x):=(HOA.out k bw).trans (by rw[he.out]);have HJ:Hid (ins.length+aM.length+k<(cK ⟨mx,ins,aM,outs,aT,aU,az,bY⟩).length):=(by rw[CZ.out];omega:ins.length+aM.length+k<(cK ⟨mx,ins,aM,outs,aT,aU,az,bY⟩).length)
       have SL:Hid (vb f x mx=kZ ⟨mx,ins,aM,outs,aT,aU,az,bY⟩ (cK ⟨mx,ins,aM,outs,aT,aU,az,bY⟩) (ins.length+aM.length+k)):=(by have :=IH HX.out.upto HX.out.dk (by rw[HO.out];exact⟨fN,gd⟩);rw[HO.out]at this;exact this:vb f x mx=kZ ⟨mx,ins,aM,outs,aT,aU,az,bY⟩ (cK ⟨mx,ins,aM,outs,aT,aU,az,bY⟩) (ins.length+aM.length+k))
       obtain⟨q,HQ⟩:∃q,Hid (kZ ⟨mx,ins,aM,outs,aT,aU,az,bY⟩ (cK ⟨mx,ins,aM,outs,aT,aU,az,bY⟩) (ins.length+aM.length+k)=q):=⟨_,rfl⟩
       go_upto_region 16 with fail;obtain⟨W1,jO⟩:∃W,wr.alloc (.cells #[.int .i64 x, .int .i64 y, .int .i64 z] 93)=W:=⟨_,rfl⟩
       rw[jO];have hO:At W1 wr.heap.size 93 #[.int .i64 x, .int .i64 y, .int .i64 z]:=jO▸At.new _ _ _;have jH:Hid (Fr [] wr W1):=jO▸eW _ _;have HOB:Hid (wr.heap.size≠gb):=fun e=>Nat.lt_irrefl _ (e▸HX.out.ms.met.lt);clear jO c0 c1 c2 c3 c4 c5 c6 c7 cx cy cz;generalize wr.heap.size=ob at hO HOB⊢;have gh:=aa (HX.out.keep jH.out);have kt:=aa hO;have n0:W1.cell? ⟨ob,0,none⟩=some (.int .i64 x):=by rw[hO.cell];rfl
       clear hO;obtain⟨c0,c1,c2,c3,c4,c5,c6,c7⟩:=gh.out.cx.cells;simp only at c0 c1 c2 c3 c4 c5 c6 c7;go_wp2_with fail;cases q with
       |true=>
        refine(tU W1 ga gb (ins.length+aM.length+k) f x mx _ gh.out.ms rK.out ⟨fN,gd⟩ (SL.out.trans HQ.out) (by simp[ByteArray.size]) (by omega)).mono ?_;rintro e w2 ⟨rfl,hm,hf⟩;have vk:=aa (hf.at_ kt.out (by simp;exact HOB.out));have ly:=aa (gh.out.put HJ.out yE [97] rfl HQ.out (by rw[HO.out];exact hm) hf);clear hm hf c0 c1 c2 c3 c4 c5 c6 c7 n0;have n0:w2.cell? ⟨ob,0,none⟩=some (.int .i64 x):=by rw[vk.out.cell];rfl
        obtain⟨c0,c1,c2,c3,c4,c5,c6,c7⟩:=ly.out.cx.cells;simp only at c0 c1 c2 c3 c4 c5 c6 c7;go_upto_region 17 with fail;by_cases M0:0<k
        ·have hkz:((k:Int)==0)=false:=by rw[aar];omega
         obtain⟨j,rfl⟩:∃j,k=j+1:=⟨k-1,by omega⟩
         obtain⟨b',o',x',y',z',CT,eK,Ru,rH,cz',⟨YU,adx⟩,_,_,_⟩:=(HH.out.keep ly.out.cx.fr).g.one HH.out.gr (show j<az.length by omega);simp only[Option.some.injEq,Addr.mk.injEq,and_true]at CT;obtain⟨rfl,rfl⟩:=CT;clear rH cz';have wj:IntKind.i64.wrap (j:Int)=j:=IntWalk.i64_in _ (by omega);have wj1:IntKind.i64.wrap ((j:Int)+1-1)=j:=by rw[Int.add_sub_cancel];exact wj
         have hj1:j<az.length:=(by omega)
         have QI:(j:Int)<(az.length:Int):=(by omega)
         have hj3:0<=(j:Int):=(by omega)
         have asv:((j:Int)+1==0)=false:=by rw[aar];omega
         clear wj1;by_cases hr:x'<x
         ·have dr:decide (x'<x)=true:=aai hr;have HR:=aa hr;clear hr
          go_still_tail 14,(by kernel_rfl)
          change wpList _ _ _ _ _ w2.drew
          have jV:=aa (ly.out.keep (Fr.refl [] w2).drew);generalize w2.drew=w4 at jV⊢;clear c0 c1 c2 c3 c4 c5 c6 c7 n0 Ru;go_wp2_with fail;refine(ik _).mono ?_;rintro e w5 ⟨rfl,rfl⟩;go_wp2_with fail;have OL:Hid (∀i,i<j+2->0<i->(az[i-1]!).a<(az[i]!).a):=fun i hi h0=>by
           by_cases ei:i=j+1
           ·subst ei;rw[fl,he.out,eK.out];exact HR.out
           ·exact oN.out i (by omega) h0
          have uH:Hid (Df w w4 _ ⟨mx,ins,aM,outs,aT,aU,az,bY⟩ ga gb (ins.length+aM.length+(j+2)) _):=jV.out;go_roundg (gk-1);case measure=>have :=HK.out;omega
          case rel=>
           refine⟨j+2,_,?_,?_,uH.out,OL.out⟩
           ·have :=HK.out;omega
           ·go_num
         ·have dr:decide (x'<x)=false:=aah hr;have HR:Hid (¬(az[j+1-1]!).a<(az[j+1]!).a):=(by rw[fl,he.out,eK.out];exact hr:¬(az[j+1-1]!).a<(az[j+1]!).a)
          have HND:=aa (NRI.out (j+1) bw M0 (Int.not_lt.1 HR.out));clear hr
          go_still_tail 14,(by kernel_rfl)
          change wpList _ _ _ _ _ w2.drew
          have jV:=aa (ly.out.keep (Fr.refl [] w2).drew);generalize w2.drew=w4 at jV⊢;clear c0 c1 c2 c3 c4 c5 c6 c7 n0 Ru;go_wp2_with fail;refine(eC _).mono ?_;unfold fj;rintro e w5 ⟨rfl,rfl⟩;go_wp2_with fail;exact⟨rfl,NO.out _ HND.out jV.out.cx.fr⟩
        ·obtain rfl :k=0:=by omega
         refine au (by kernel_rfl) (by kernel_rfl) ?_;repeat (go_big_quiet_step (exact bh (ik _)))
         refine aak ?_;rintro w4 ⟨u2,b8⟩;have cG:Hid (Fr [] w2 w4):=b8▸u2.fr;clear b8 u2;have jV:=aa (ly.out.keep cG.out);clear c0 c1 c2 c3 c4 c5 c6 c7 n0;go_wp2_with fail;go_roundg (gk-1);case measure=>have :=HK.out;omega
         case rel=>
          refine⟨1,_,?_,?_,jV.out,fun i hi h0=>absurd h0 (by omega)⟩
          ·have :=HK.out;omega
          ·go_num
       |false=>
        refine(rr W1 ga gb (ins.length+aM.length+k) f x mx _ gh.out.ms ⟨fN,gd⟩ (SL.out.trans HQ.out)).mono ?_;unfold fj;rintro e w2 ⟨rfl,rfl⟩;go_wp2_with fail;exact⟨rfl,NO.out _ (NOW.out _ HJ.out HQ.out) gh.out.cx.fr⟩
      ·obtain rfl :k=az.length:=by omega
       have HT:Hid (∀j:Nat,j<(cK ⟨mx,ins,aM,outs,aT,aU,az,bY⟩).length->kZ ⟨mx,ins,aM,outs,aT,aU,az,bY⟩ (cK ⟨mx,ins,aM,outs,aT,aU,az,bY⟩) j=true):=fun j hj=>HX.out.upto j (by rw[CZ.out]at hj;exact hj);have HDK:Hid (Dk f (cK ⟨mx,ins,aM,outs,aT,aU,az,bY⟩)):=(by have :=HX.out.dk;rw[<-CZ.out,cN]at this;exact this:Dk f (cK ⟨mx,ins,aM,outs,aT,aU,az,bY⟩))
       go_wp2_with fail;go_ret;exact oh.out _ _ _ _ _ (lz.out HT.out HRT.out oN.out) HX.out.ms HDK.out HX.out.cx.fr
theorem IV (w:World):(Instr.typeAssert (.iface 32 (.int .i64 9)) 20 32 true).run Tryz.prog w= .ok (.tuple #[.int .i64 9, .bool true]) w:=by kernel_rfl
theorem NE (w:World):(Instr.typeAssert .nilIface 20 32 true).run Tryz.prog w= .ok (.tuple #[.int .i64 0, .bool false]) w:=by kernel_rfl
theorem ve (p:Addr) (x:Value) (WY:List PanicEntry) (w:World) (hc:w.cell? p=some x) (hz:w.frozen? p=false):
  CallsD Tryz.prog 45 #[.pointer (some p)] (.panicking ({ v:= .iface 32 (.int .i64 9),recovered:=false }::WY)) w fun e u' w'=>
   e= .returned (.tuple #[])/\u'= .panicking ({ v:= .iface 32 (.int .i64 9),recovered:=true }::WY)/\w'=w.setCell p (.int .i64 9):=by
 refine callsD_of_wpS Tryz.func45 rfl fun c₀ cs hu=> ?_;apply wpS_seq;apply wpS_region;simp[wpOpsS,go_sem,recoverD,hu,Tryz.ntmps45,Exit.thenS,IV];apply wpS_seq;apply wpS_region;simp[wpOpsS,go_sem,Exit.thenS];refine wpS_cond (t:=true) (by simp[Act.eval,Array.replicate]) ?_;simp only[if_true];apply wpS_region;simp[wpOpsS,go_sem,hc,hz,bodyPostS,results,Tryz.results45]
theorem IQ (p:Addr) (w:World):
  CallsD Tryz.prog 45 #[.pointer (some p)] .returning w fun e u' w'=>e= .returned (.tuple #[])/\u'= .returning/\w'=w:=by
 refine callsD_of_wpS Tryz.func45 rfl fun c₀ cs hu=> ?_;apply wpS_seq;apply wpS_region;simp[wpOpsS,go_sem,recoverD,hu,Tryz.ntmps45,Exit.thenS,NE];apply wpS_seq;apply wpS_region;simp[wpOpsS,go_sem,Exit.thenS];refine wpS_cond (t:=false) (by simp[Act.eval,Array.replicate]) ?_;simp only[dD,if_false];refine wpS_of_wp (wp_skip ?_);cases c₀
 simp_all [bodyPostS,results,Tryz.results45]
theorem rZ {c:UInt8} (h:0<=eB c):c=105\/c=108\/c=111\/c=98\/c=99:=by
 by_cases e1:c=105
 ·exact .inl e1
 ·by_cases e2:c=108
  ·exact .inr (.inl e2)
  ·by_cases e3:c=111
   ·exact .inr (.inr (.inl e3))
   ·by_cases e4:c=98
    ·exact .inr (.inr (.inr (.inl e4)))
    ·by_cases e5:c=99
     ·exact .inr (.inr (.inr (.inr e5)))
     ·exfalso;have n1:((105:UInt8)==c)=false:=by rw[aar];exact fun h=>e1 h.symm
      have n2:((108:UInt8)==c)=false:=by rw[aar];exact fun h=>e2 h.symm
      have n3:((111:UInt8)==c)=false:=by rw[aar];exact fun h=>e3 h.symm
      have n4:((98:UInt8)==c)=false:=by rw[aar];exact fun h=>e4 h.symm
      have n5:((99:UInt8)==c)=false:=by rw[aar];exact fun h=>e5 h.symm
      simp[eB,Lib.indexByte,n1,n2,n3,n4,n5]at h
theorem wZ (C:Pc) (k:ByteArray):(∃c,k=⟨#[c]⟩/\0<=eB c/\nU C k=iW C k/\rk k=eB c)\/(iW C k= -1/\¬((k.size:Int)=1/\0<=eB (letter k))):=by
 by_cases h:(k.size:Int)=1/\0<=eB (letter k)
 ·obtain⟨c,hc⟩:=JL h.1;subst hc;have hp:0<=eB c:=h.2;refine .inl ⟨c,rfl,hp,?_,?_⟩
  ·rcases rZ hp with rfl |rfl |rfl |rfl |rfl <;>simp[nU,iW]
  ·rcases rZ hp with rfl |rfl |rfl |rfl |rfl <;>simp[rk,eB,Lib.indexByte]
 ·refine .inr ⟨?_,h⟩;have ne:∀c:UInt8,0<=eB c->(k.toList==[c])=false:=fun c hc=>by
   rw[aar];intro e;apply h;rw[ByteArray.toList_eq]at e;have hs:k=⟨#[c]⟩:=by obtain⟨⟨l⟩⟩:=k;simp only at e;rw[e]
   subst hs;exact⟨rfl,hc⟩
  have p1:0<=eB 105:=by decide
  have p2:0<=eB 108:=by decide
  have p3:0<=eB 111:=by decide
  have p4:0<=eB 98:=by decide
  have p5:0<=eB 99:=by decide
  simp[iW,ne 105 p1,ne 108 p2,ne 111 p3,ne 98 p4,ne 99 p5]
theorem wM (C:Pc) (x:Nm):tz C x=uh C x:=by
 unfold tz uh QO kV;rcases wZ C x.k with⟨c,hk,hp,hc,_⟩ |⟨hc,hn⟩
 ·have h1:decide ((x.k.size:Int)=1)=true:=by rw[hk];rfl
  have h2:decide (0<=eB (letter x.k))=true:=by rw[hk];exact aai hp
  rw[h1,h2,hc];simp only[fX,Bool.and_assoc]
 ·have h1:(decide ((x.k.size:Int)=1)&&decide (0<=eB (letter x.k)))=false:=by rw[nf];intro h;simp only[ax,aal]at h;exact hn h
  rw[h1,hc];by_cases h0:0<=x.i
  ·rw[aah (show ¬x.i< -1 by omega)];simp
  ·rw[aah h0];simp
theorem Rw {C:Pc} (h1:C.ins.length<=64) (h2:C.aM.length<=64) (h3:C.outs.length<=64) (h4:C.aT.length<=64) (h5:C.aU.length<=64) (k:ByteArray):iW C k<=64:=by
 unfold iW;split
 ·omega
 ·split
  ·omega
  ·split
   ·omega
   ·split
    ·omega
    ·split<;>omega
theorem wP {C:Pc} {x:Nm} (h:uh C x=true):∃c,x.k=⟨#[c]⟩/\0<=eB c/\rk x.k=eB c/\0<=x.i/\x.i<iW C x.k:=by
 simp only[uh,QO,ax,aal]at h;obtain⟨⟨⟨⟨h0,h1⟩,_⟩,_⟩,_⟩:=h;rcases wZ C x.k with⟨c,hk,hp,_,hr⟩ |⟨hc,_⟩
 ·exact⟨c,hk,hp,hr,h0,h1⟩
 ·omega
theorem Ab {C:Pc} {y x:Nm} (hl:∀k,iW C k<=64) (hy:uh C y=true) (hx:uh C x=true):(rX y<rX x↔vv y x=false):=by
 obtain⟨c1,k1,p1,r1,i1,j1⟩:=wP hy;obtain⟨c2,k2,p2,r2,i2,j2⟩:=wP hx;have l1:=hl y.k;have l2:=hl x.k;have e1:letter y.k=c1:=by rw[k1];rfl
 have e2:letter x.k=c2:=by rw[k2];rfl
 have ek:(y.k.toList==x.k.toList)=decide (eB c1=eB c2):=by rw[k1,k2,JF,JF];rcases rZ p1 with rfl |rfl |rfl |rfl |rfl <;>rcases rZ p2 with rfl |rfl |rfl |rfl |rfl <;>decide
 unfold rX vv;rw[e1,e2,r1,r2,ek];simp only[dX,Bool.and_eq_false_iff,decide_eq_false_iff_not];omega
theorem ug {C:Pc} (hl:∀k,iW C k<=64):fu C C.bY.length↔BE C=true:=by
 rw[LV];constructor
 ·intro h j hj;obtain⟨h1,h2⟩:=h j hj;rw[wM]at h1;refine⟨h1,fun h0=> ?_⟩;have h3:=(h (j-1) (by omega)).1;rw[wM]at h3;exact(Ab hl h3 h1).1 (h2 h0)
 ·intro h j hj;obtain⟨h1,h2⟩:=h j hj;refine⟨by rw[wM];exact h1,fun h0=> ?_⟩;exact(Ab hl (h (j-1) (by omega)).1 h1).2 (h2 h0)
theorem T2 {C:Pc} (h:∀j:Nat,j<(cK C).length->kZ C (cK C) j=true) {x:Int} (hx:x∈cK C):2<=x:=by have :=DH (k:=(cK C).length) h (x:=x) (by rw[cN];exact hx);exact this.1
theorem Mg (C:Pc) (h:∀x,x∈cK C->2<=x) (v:Int) (hv:v≠0):rg C v=true↔∃x∈cK C,x/2=v:=by
 unfold rg;rw[aah hv];simp only[Bool.false_or,jt,cq];have hh:∀x,x∈cK C->(hit v x=true↔x/2=v):=fun x hx=>by have :=h x hx;simp[hit,show 0<=x by omega]
 constructor
 ·rintro((⟨x,hx,e⟩ |⟨x,hx,e⟩) |⟨x,hx,e⟩)
  ·have hm:x∈cK C:=by unfold cK;simp[hx]
   exact⟨x,hm,(hh x hm).1 e⟩
  ·have hm:x.a∈cK C:=by unfold cK;simp only[ah,aG];exact .inl (.inr ⟨x,hx,rfl⟩)
   exact⟨x.a,hm,(hh _ hm).1 e⟩
  ·have hm:x.a∈cK C:=by unfold cK;simp only[ah,aG];exact .inr ⟨x,hx,rfl⟩
   exact⟨x.a,hm,(hh _ hm).1 e⟩
 ·rintro⟨x,hm,e⟩;have e':=(hh x hm).2 e;unfold cK at hm;simp only[ah,aG]at hm;rcases hm with(hx |⟨y,hy,rfl⟩) |⟨y,hy,rfl⟩
  ·exact .inl (.inl ⟨x,hx,e'⟩)
  ·exact .inl (.inr ⟨y,hy,e'⟩)
  ·exact .inr ⟨y,hy,e'⟩
theorem YQ {C:Pc} {f:Int->List UInt8} (h:mX C) (hd:Dk f (cK C)) {l:Int} (hr:eh l):um f l=io C l:=by
 unfold um io;by_cases h0:0<=l
 ·rw[aai h0,fX,fX];by_cases h2:l<2
  ·have e:l/2=0:=by omega
   rw[aai h2,e];simp[rg]
  ·rw[aah h2,Bool.false_or];have hv:l/2≠0:=by omega
   have hR:eh (l/2):=by unfold eh at hr⊢;omega
   have h3:=Mg C (fun x hx=>T2 h.own hx) (l/2) hv;cases hk:rg C (l/2)with
   |true=>
    obtain⟨x,hx,e⟩:=h3.1 hk;have :(f (l/2)).isEmpty=false:=by rw[nf];intro h5;exact(hd _ hR).1 h5 x hx e
    rw[this];rfl
   |false=>
    have :(f (l/2)).isEmpty=true:=by rw[hd _ hR];intro x hx e;have :=h3.2 ⟨x,hx,e⟩;rw[hk]at this;cases this
    rw[this];rfl
 ·rw[aah h0];rfl
structure ReB (C:Pc):Prop where
 aM:∀j:Nat,j<C.aM.length->io C (C.aM[j]!).b=true
 az:∀j:Nat,j<C.az.length->io C (C.az[j]!).b=true/\io C (C.az[j]!).c=true/\(C.az[j]!).b<(C.az[j]!).a/\(C.az[j]!).c<(C.az[j]!).a
 o:C.outs.all (io C)=true
 b:C.aT.all (io C)=true
 v:C.aU.all (io C)=true
 n:fu C C.bY.length
structure Wg (C:Pc):Prop where
 m0:0<=C.mx
 m1:C.mx<=2048
 i:C.ins.length<=64
 l:C.aM.length<=64
 o:C.outs.length<=64
 b:C.aT.length<=64
 v:C.aU.length<=64
theorem Valid.lens {C:Pc} (h:Valid C):Wg C:=by have h1:=h.o;have h2:=h.b;have h3:=h.v;simp only[tX,ax,aal]at h1 h2 h3;exact⟨h.m0,h.m1,h.i,h.l,by omega,by omega,by omega⟩
theorem Valid.afk {C:Pc} (h:Valid C):mX C:=by
 refine⟨h.own,fun j hj=> ?_,fun j hj h0=> ?_⟩
 ·have :=h.aM j hj;simp only[Mf,ax]at this;exact this.1
 ·have :=h.az j hj;simp only[Fd,prv,aac (show ¬j=0 by omega),ax,aal]at this;exact this.1.1.1.1
theorem Valid.reB {C:Pc} (h:Valid C):ReB C:=by
 have h1:=h.o;have h2:=h.b;have h3:=h.v;have hL:=h.lens;simp only[tX,ax,aal]at h1 h2 h3;refine⟨fun j hj=> ?_,fun j hj=> ?_,h1.1,h2.1,h3.1,(ug (fun k=>Rw hL.i hL.l hL.o hL.b hL.v k)).2 h.n⟩
 ·have :=h.aM j hj;simp only[Mf,ax]at this;exact this.2
 ·have :=h.az j hj;simp only[Fd,ax,aal]at this;exact⟨this.1.2,this.2,this.1.1.1.2,this.1.1.2⟩
theorem O0 {C:Pc} (hL:Wg C) (hd:mX C) (hr:ReB C):Valid C:=by
 refine⟨hL.m0,hL.m1,hL.i,hL.l,(ug (fun k=>Rw hL.i hL.l hL.o hL.b hL.v k)).1 hr.n,fun j hj=> ?_,fun j hj=> ?_,hd.own,?_,?_,?_⟩
 ·simp only[Mf,ax];exact⟨hd.JO j hj,hr.aM j hj⟩
 ·obtain⟨h1,h2,h3,h4⟩:=hr.az j hj;by_cases h0:j=0
  ·simp[Fd,prv,h0]at h1 h2 h3 h4⊢;subst h0;exact⟨⟨⟨h3,h4⟩,h1⟩,h2⟩
  ·have h5:=hd.ris j hj (by omega);simp only[Fd,prv,aac h0,ax,aal];exact⟨⟨⟨⟨h5,h3⟩,h4⟩,h1⟩,h2⟩
 ·have :=hL.o;simp only[tX,hr.o,fX,aal];omega
 ·have :=hL.b;simp only[tX,hr.b,fX,aal];omega
 ·have :=hL.v;simp only[tX,hr.v,fX,aal];omega
def YI (x y:Int):Int:=if y>x then y else x
def mx5 (a b c d e:Int):Int:=YI (YI (YI (YI a b) c) d) e
theorem YH (x y n:Int):YI x y<=n↔x<=n/\y<=n:=by unfold YI;split<;>omega
theorem PN (a b c d e n:Int):mx5 a b c d e<=n↔(((a<=n/\b<=n)/\c<=n)/\d<=n)/\e<=n:=by simp only[mx5,YH]
theorem Pq (w:World) (ts:Array TypeId) (t:TypeId) (a b c d e:Int):(Builtin.max_ ts t #[.int .i64 a, .int .i64 b, .int .i64 c, .int .i64 d, .int .i64 e]).run Tryz.prog w= .ok (.int .i64 (mx5 a b c d e)) w:=by simp[Builtin.max_,Builtin.max2,mx5,YI]
structure Kx (w wr:World) (H:Hd) (C:Pc) (r:Nat):Prop where
 cx:Cx w wr H C
 rs:At wr r 32 #[.int .i64 0]
theorem Kx.keep {w wr w':World} {H:Hd} {C:Pc} {r:Nat} (h:Kx w wr H C r) (hf:Fr [] wr w'):Kx w w' H C r:=⟨h.cx.keep hf,h.rs.keep hf⟩
theorem Kx.start (w:World) (H:Hd) (C:Pc):Kx w ((w.alloc (.cells (iz H C) 27)).alloc (.cells #[.int .i64 0] 32)) H C (w.heap.size+1):=by refine⟨(Cx.start w H C).keep (eW _ _),?_⟩;have :=At.new (w.alloc (.cells (iz H C) 27)) 32 #[.int .i64 0];simpa using this
theorem eJ (R:Ending->World->Prop) (tmps:Array Value) (r:Nat) (wx:World) (h2:tmps.getD 2 undef= .pointer (some ⟨r,0,none⟩)) (hc:At wx r 32 #[.int .i64 0])
  (hR:R (.returned (.int .i64 9)) (wx.setCell ⟨r,0,none⟩ (.int .i64 9))):
  bodyPostD Tryz.prog Tryz.f23 R (Exit.panic [{ v:= .iface 32 (.int .i64 9),recovered:=false }])
   { tmps:=tmps,defers:=[{ target:=Target.fn (Fn.func 45) #[.pointer (some ⟨r,0,none⟩)],args:=#[] }] } wx:=by
 refine leaves_cons (f:=45) (args:=#[.pointer (some ⟨r,0,none⟩)]) (by simp) (by simp[go_sem]) ?_;refine(ve ⟨r,0,none⟩ (.int .i64 0) [] _ (by rw[hc.cell];rfl) (hc.frozen 0)).mono ?_;rintro e u' yx ⟨rfl,rfl,rfl⟩;have yH:(wx.setCell ⟨r,0,none⟩ (.int .i64 9)).cell? ⟨r,0,none⟩=some (.int .i64 9):=by have :=(hc.eu 0 (.int .i64 9)).cell 0;rw[this];rfl
 have rm:(results Tryz.f23 tmps).run Tryz.prog (wx.setCell ⟨r,0,none⟩ (.int .i64 9))= .ok (.int .i64 9) (wx.setCell ⟨r,0,none⟩ (.int .i64 9)):=by simp only[Array.getD_eq_getD_getElem?]at h2;simp[results,Tryz.results23,go_sem,h2,yH]
 exact⟨_,rm,hR⟩
theorem VZ (R:Ending->World->Prop) (tmps:Array Value) (r:Nat) (wx:World) (h2:tmps.getD 2 undef= .pointer (some ⟨r,0,none⟩)) (hc:At wx r 32 #[.int .i64 0])
  (hR:R (.returned (.int .i64 0)) wx):
  bodyPostD Tryz.prog Tryz.f23 R Exit.ret
   { tmps:=tmps,defers:=[{ target:=Target.fn (Fn.func 45) #[.pointer (some ⟨r,0,none⟩)],args:=#[] }] } wx:=by
 refine leaves_cons (f:=45) (args:=#[.pointer (some ⟨r,0,none⟩)]) (by simp) (by simp[go_sem]) ?_;refine(IQ ⟨r,0,none⟩ _).mono ?_;rintro e u' yx ⟨rfl,rfl,rfl⟩;have yH:yx.cell? ⟨r,0,none⟩=some (.int .i64 0):=by rw[hc.cell];rfl
 have rm:(results Tryz.f23 tmps).run Tryz.prog yx= .ok (.int .i64 0) yx:=by simp only[Array.getD_eq_getD_getElem?]at h2;simp[results,Tryz.results23,go_sem,h2,yH]
 exact⟨_,rm,hR⟩
theorem IW {f:Int->List UInt8} {C:Pc} {xs:List Int} (hr:Ra xs) (h:∀l,eh l->um f l=io C l):xs.all (um f)=xs.all (io C):=by
 rw[Bool.eq_iff_iff,ep,ep];have hh:∀x∈xs,um f x=io C x:=fun x hx=>by obtain⟨j,hj,e⟩:=List.mem_iff_getElem.1 hx;have :=hr j hj;rw[ae,af hj,e]at this;exact h x this
 exact⟨fun h1 x hx=>by rw[<-hh x hx];exact h1 x hx,fun h1 x hx=>by rw[hh x hx];exact h1 x hx⟩
theorem l8 (w:World) (H:Hd) (C:Pc) (h:fH w H C):
  Calls Tryz.prog 23 #[dj H C] w (SX C w):=by
 have HH:=aa h;have hmr:=h.mr;have hiL:=h.iL;have hlL:=h.lL;have hoL:=h.oL;have hbL:=h.bL;have hvL:=h.vL;have hgL:=h.gL;unfold eh at hmr;obtain⟨mz,sm⟩:=hmr;clear h;have N8:Hid (∀r wx,w.heap.size<r->Kx w wx H C r->¬Valid C->SX C w (.returned (.int .i64 9)) (wx.setCell ⟨r,0,none⟩ (.int .i64 9))):=fun r wx hr hk hv=>aaA hv (hk.cx.fr.setCell (.inr (Nat.le_of_lt hr)) _);have oh:Hid (∀r wx,w.heap.size<r->Kx w wx H C r->Valid C->SX C w (.returned (.int .i64 0)) (wx.setCell ⟨r,0,none⟩ (.int .i64 0))):=fun r wx hr hk hv=>V5 hv (hk.cx.fr.setCell (.inr (Nat.le_of_lt hr)) _);have NZ:=aa (Kx.start w H C);have VL:=aa (fun h:Valid C=>h.lens);have VD:=aa (fun h:Valid C=>h.afk);have VR:=aa (fun h:Valid C=>h.reB);have VO:=aa (fun(h1:Wg C) (h2:mX C) (h3:ReB C)=>O0 h1 h2 h3);have KD:=aa (fun W hW h1 h2 h3 h4=>zm W H C hW h1 h2 h3 h4);have KN:=aa (fun W hW=>DN W H C hW);have KL:Hid (∀(f:Int->List UInt8),mX C->Dk f (cK C)->∀l,eh l->um f l=io C l):=fun f h1 h2 l hl=>YQ h1 h2 hl;have hmf:∀(fn:Fn) (first cap:Array Value) (w:World),(Instr.makeFunc fn first cap).run Tryz.prog w= .ok (.func fn first cap) w:=fun _ _ _ _=>rfl;have ad7:=fun w ts t=>Pq w ts t C.ins.length C.aM.length C.outs.length C.aT.length C.aU.length;simp only[iz]at NZ;obtain⟨mx,ins,aM,outs,aT,aU,az,bY⟩:=C;obtain⟨iA,iC,lA,lC,oA,oC,bA,bC,vA,vC,gA,gC,nA,nC⟩:=H;simp only[dj,iz]at *
 go_enter_defers Tryz.func23,Tryz.ntmps23
 go_upto_region 2 with fail;obtain⟨W0,Q3⟩:∃W,(w.alloc (.cells #[.int .i64 mx, .slice iA ins.length iC, .slice lA aM.length lC, .slice oA outs.length oC, .slice bA aT.length bC, .slice vA aU.length vC, .slice gA az.length gC, .slice nA bY.length nC] 27)).alloc (.cells #[.int .i64 0] 32)=W:=⟨_,rfl⟩
 rw[Q3]at NZ⊢;obtain⟨r,kp⟩:∃r,w.heap.size+1=r:=⟨_,rfl⟩
 rw[kp]at NZ⊢;have hr:w.heap.size<r:=by omega
 clear Q3 kp;have hx:=NZ.out.cx;obtain⟨c0,c1,c2,c3,c4,c5,c6,c7⟩:=hx.cells;clear hx;simp only at c0 c1 c2 c3 c4 c5 c6 c7;by_cases m0:0<=mx
 ·have d0:decide (0<=mx)=true:=aai m0;by_cases m1:mx<=2048
  ·have d1:decide (mx<=2048)=true:=aai m1;obtain⟨M,NY⟩:∃M,Hid (mx5 ins.length aM.length outs.length aT.length aU.length=M):=⟨_,rfl⟩
   rw[NY.out]at ad7;by_cases m2:M<=64
   ·have d2:decide (M<=64)=true:=aai m2;have hm5:=(PN ins.length aM.length outs.length aT.length aU.length 64).1 (by rw[NY.out];exact m2);obtain⟨⟨⟨⟨a1,a2⟩,a3⟩,a4⟩,a5⟩:=hm5;have b1:ins.length<=64:=(by omega)
    have b2:aM.length<=64:=(by omega)
    have b3:outs.length<=64:=(by omega)
    have b4:aT.length<=64:=(by omega)
    have b5:aU.length<=64:=(by omega)
    have CI:Hid (Wg ⟨mx,ins,aM,outs,aT,aU,az,bY⟩):=⟨m0,m1,b1,b2,b3,b4,b5⟩
    clear a1 a2 a3 a4 a5;go_wp2_with fail;refine(ik _).mono ?_;rintro e w9 ⟨rfl,rfl⟩;clear ad7 hmf;go_wp2_with fail;refine(KD.out _ (HH.out.keep NZ.out.cx.fr) b1 b2 m0 m1).mono ?_;rintro e w1 ⟨aeQ,hf⟩;have Fv:=aa (NZ.out.keep hf);clear hf NZ c0 c1 c2 c3 c4 c5 c6 c7;rcases aeQ with⟨hdo,g,b,n,f,rfl,Oq,hdk⟩ |⟨hdo,rfl⟩
    ·have HDO:=aa hdo;have Yd:=aa Oq;have HKL:=aa (KL.out f hdo hdk);clear hdo Oq hdk;have hx:=Fv.out.cx;obtain⟨c0,c1,c2,c3,c4,c5,c6,c7⟩:=hx.cells;clear hx;simp only at c0 c1 c2 c3 c4 c5 c6 c7;go_wp2_with fail;clear c0 c1 c2 c3 c4 c5 c6 c7;go_loopg [42] aM.length (fun gg i wr=>∃k:Nat,k+gg=aM.length/\i= .int .i64 k/\Kx w wr ⟨iA,iC,lA,lC,oA,oC,bA,bC,vA,vC,gA,gC,nA,nC⟩ ⟨mx,ins,aM,outs,aT,aU,az,bY⟩ r/\Ms wr g b n f/\(∀j,j<k->io ⟨mx,ins,aM,outs,aT,aU,az,bY⟩ (aM[j]!).b=true));case atStart=>exact⟨0,by omega,rfl,Fv.out,Yd.out,fun j hj=>absurd hj (aI _)⟩
     case round=>
      clear Fv Yd;obtain⟨k,hk,rfl,hkx,Oq,hl⟩:=hrel;have HK:=aa hk;have HX:=aa hkx;have HM:=aa Oq;have HL:=aa hl;have jg:k<=aM.length:=(by omega)
      clear hk hkx Oq hl;by_cases bw:k<aM.length
      ·obtain⟨bb,o,x,y,z,hA,he,cx,cy,cz,_,⟨iP,lE⟩,_,_⟩:=(HH.out.keep HX.out.cx.fr).l.one HH.out.lr bw;simp only at hA;subst hA;go_upto_region 7 with fail;obtain⟨W1,jO⟩:∃W,wr.alloc (.cells #[.int .i64 x, .int .i64 y, .int .i64 z] 63)=W:=⟨_,rfl⟩
       rw[jO];have hO:At W1 wr.heap.size 63 #[.int .i64 x, .int .i64 y, .int .i64 z]:=jO▸At.new _ _ _;have dI:Hid (Fr [] wr W1):=jO▸eW _ _;clear jO cx cy cz;generalize wr.heap.size=ob at hO⊢;have n1:W1.cell? ⟨ob,1,none⟩=some (.int .i64 y):=by rw[hO.cell];rfl
       have jH:=aa (HX.out.keep dI.out);have OQ:=aa (HM.out.keep dI.out);clear hO;go_wp2_with fail;refine(lU W1 g b n f y OQ.out ⟨iP,lE⟩).mono ?_;rw[HKL.out y ⟨iP,lE⟩];obtain⟨q,HQ⟩:∃q,Hid (io ⟨mx,ins,aM,outs,aT,aU,az,bY⟩ y=q):=⟨_,rfl⟩
       rw[HQ.out];rintro e w2 ⟨rfl,hf⟩;have gh:=aa (jH.out.keep hf);have Jk:=aa (OQ.out.keep hf);clear hf n1;cases q with
       |true=>
        go_wp2_with fail;refine(ik _).mono ?_;rintro e w9 ⟨rfl,rfl⟩;have abg:Hid (∀j,j<k+1->io ⟨mx,ins,aM,outs,aT,aU,az,bY⟩ (aM[j]!).b=true):=fun j hj=>by
         by_cases ej:j=k
         ·subst ej;rw[he.out];exact HQ.out
         ·exact HL.out j (by omega)
        go_wp2_with fail;go_roundg (gk-1);case measure=>have :=HK.out;omega
        case rel=>exact⟨k+1,by have :=HK.out;omega,by go_num,gh.out,Jk.out,abg.out⟩
       |false=>
        go_wp2_with fail;refine(eC _).mono ?_;unfold fj;rintro e w9 ⟨rfl,rfl⟩;go_wp2_with fail;exact eJ _ _ r _ rfl gh.out.rs (N8.out r _ hr gh.out (fun hv=>by have :=(VR.out hv).aM k bw;rw[he.out]at this;rw[HQ.out]at this;cases this))
      ·obtain rfl :k=aM.length:=by omega
       have Fv:=HX;have Yd:=HM;have OM:=HL;clear HX HM HL HK jg bw;have hx:=Fv.out.cx;obtain⟨c0,c1,c2,c3,c4,c5,c6,c7⟩:=hx.cells;clear hx;simp only at c0 c1 c2 c3 c4 c5 c6 c7;go_wp2_with fail;clear c0 c1 c2 c3 c4 c5 c6 c7;go_loopg [55] az.length (fun gg i wr=>∃k:Nat,k+gg=az.length/\i= .int .i64 k/\Kx w wr ⟨iA,iC,lA,lC,oA,oC,bA,bC,vA,vC,gA,gC,nA,nC⟩ ⟨mx,ins,aM,outs,aT,aU,az,bY⟩ r/\Ms wr g b n f/\(∀j,j<k->io ⟨mx,ins,aM,outs,aT,aU,az,bY⟩ (az[j]!).b=true/\io ⟨mx,ins,aM,outs,aT,aU,az,bY⟩ (az[j]!).c=true/\(az[j]!).b<(az[j]!).a/\(az[j]!).c<(az[j]!).a));case atStart=>exact⟨0,by omega,rfl,Fv.out,Yd.out,fun j hj=>absurd hj (aI _)⟩
       case round=>
        clear Fv Yd;obtain⟨k,hk,rfl,hkx,Oq,hl⟩:=hrel;have HK:=aa hk;have HX:=aa hkx;have HM:=aa Oq;have HL:=aa hl;have jg:k<=az.length:=(by omega)
        clear hk hkx Oq hl;by_cases bw:k<az.length
        ·obtain⟨bb,o,x,y,z,hA,he,cx,cy,cz,_,⟨iP,lE⟩,nN,za⟩:=(HH.out.keep HX.out.cx.fr).g.one HH.out.gr bw;simp only at hA;subst hA;have HVA:Hid (Valid ⟨mx,ins,aM,outs,aT,aU,az,bY⟩->io ⟨mx,ins,aM,outs,aT,aU,az,bY⟩ y=true/\io ⟨mx,ins,aM,outs,aT,aU,az,bY⟩ z=true/\y<x/\z<x):=fun hv=>by have :=(VR.out hv).az k bw;rw[he.out]at this;exact this
         go_upto_region 12 with fail;obtain⟨W1,jO⟩:∃W,wr.alloc (.cells #[.int .i64 x, .int .i64 y, .int .i64 z] 93)=W:=⟨_,rfl⟩
         rw[jO];have hO:At W1 wr.heap.size 93 #[.int .i64 x, .int .i64 y, .int .i64 z]:=jO▸At.new _ _ _;have dI:Hid (Fr [] wr W1):=jO▸eW _ _;clear jO cx cy cz;generalize wr.heap.size=ob at hO⊢;have HO:=aa hO;have n1:W1.cell? ⟨ob,1,none⟩=some (.int .i64 y):=by rw[hO.cell];rfl
         have jH:=aa (HX.out.keep dI.out);have OQ:=aa (HM.out.keep dI.out);clear hO;go_wp2_with fail;refine(lU W1 g b n f y OQ.out ⟨iP,lE⟩).mono ?_;rw[HKL.out y ⟨iP,lE⟩];obtain⟨q,HQ⟩:∃q,Hid (io ⟨mx,ins,aM,outs,aT,aU,az,bY⟩ y=q):=⟨_,rfl⟩
         rw[HQ.out];rintro e w2 ⟨rfl,hf⟩;have gh:=aa (jH.out.keep hf);have Jk:=aa (OQ.out.keep hf);have vk:=aa (HO.out.keep hf);clear hf n1;have n0:w2.cell? ⟨ob,0,none⟩=some (.int .i64 x):=by rw[vk.out.cell];rfl
         have n1:w2.cell? ⟨ob,1,none⟩=some (.int .i64 y):=by rw[vk.out.cell];rfl
         have n2:w2.cell? ⟨ob,2,none⟩=some (.int .i64 z):=by rw[vk.out.cell];rfl
         cases q with
         |true=>
          go_wp2_with fail;refine(lU w2 g b n f z Jk.out ⟨nN,za⟩).mono ?_;rw[HKL.out z ⟨nN,za⟩];obtain⟨p,HP⟩:∃p,Hid (io ⟨mx,ins,aM,outs,aT,aU,az,bY⟩ z=p):=⟨_,rfl⟩
          rw[HP.out];rintro e w3 ⟨rfl,hf⟩;have ly:=aa (gh.out.keep hf);have HM3:=aa (Jk.out.keep hf);have ua:=aa (vk.out.keep hf);clear hf n0 n1 n2;have n0:w3.cell? ⟨ob,0,none⟩=some (.int .i64 x):=by rw[ua.out.cell];rfl
          have n1:w3.cell? ⟨ob,1,none⟩=some (.int .i64 y):=by rw[ua.out.cell];rfl
          have n2:w3.cell? ⟨ob,2,none⟩=some (.int .i64 z):=by rw[ua.out.cell];rfl
          cases p with
          |true=>
           by_cases l1:y<x
           ·have t1:decide (y<x)=true:=aai l1;by_cases l2:z<x
            ·have t2:decide (z<x)=true:=aai l2;go_wp2_with fail;refine(ik _).mono ?_;rintro e w9 ⟨rfl,rfl⟩;have abg:Hid (∀j,j<k+1->io ⟨mx,ins,aM,outs,aT,aU,az,bY⟩ (az[j]!).b=true/\io ⟨mx,ins,aM,outs,aT,aU,az,bY⟩ (az[j]!).c=true/\(az[j]!).b<(az[j]!).a/\(az[j]!).c<(az[j]!).a):=fun j hj=>by
              by_cases ej:j=k
              ·subst ej;rw[he.out];exact⟨HQ.out,HP.out,l1,l2⟩
              ·exact HL.out j (by omega)
             go_wp2_with fail;go_roundg (gk-1);case measure=>have :=HK.out;omega
             case rel=>exact⟨k+1,by have :=HK.out;omega,by go_num,ly.out,HM3.out,abg.out⟩
            ·have t2:decide (z<x)=false:=aah l2;go_wp2_with fail;refine(eC _).mono ?_;unfold fj;rintro e w9 ⟨rfl,rfl⟩;go_wp2_with fail;exact eJ _ _ r _ rfl ly.out.rs (N8.out r _ hr ly.out (fun hv=>absurd (HVA.out hv).2.2.2 (by omega)))
           ·have t1:decide (y<x)=false:=aah l1;go_wp2_with fail;refine(eC _).mono ?_;unfold fj;rintro e w9 ⟨rfl,rfl⟩;go_wp2_with fail;exact eJ _ _ r _ rfl ly.out.rs (N8.out r _ hr ly.out (fun hv=>absurd (HVA.out hv).2.2.1 (by omega)))
          |false=>
           go_wp2_with fail;refine(eC _).mono ?_;unfold fj;rintro e w9 ⟨rfl,rfl⟩;go_wp2_with fail;exact eJ _ _ r _ rfl ly.out.rs (N8.out r _ hr ly.out (fun hv=>by have :=(HVA.out hv).2.1;rw[HP.out]at this;cases this))
         |false=>
          go_wp2_with fail;refine(eC _).mono ?_;unfold fj;rintro e w9 ⟨rfl,rfl⟩;go_wp2_with fail;exact eJ _ _ r _ rfl gh.out.rs (N8.out r _ hr gh.out (fun hv=>by have :=(HVA.out hv).1;rw[HQ.out]at this;cases this))
        ·obtain rfl :k=az.length:=by omega
         have rD:=HL;clear HL HK jg bw;have hx:=HX.out.cx;obtain⟨c0,c1,c2,c3,c4,c5,c6,c7⟩:=hx.cells;clear hx;simp only at c0 c1 c2 c3 c4 c5 c6 c7;go_wp2_with fail;refine(tW wr g b n f oA oC outs HM.out (HH.out.keep HX.out.cx.fr).o HH.out.or_ HH.out.oL).mono ?_;rw[IW HH.out.or_ HKL.out];obtain⟨qo,HQO⟩:∃q,Hid (outs.all (io ⟨mx,ins,aM,outs,aT,aU,az,bY⟩)=q):=⟨_,rfl⟩
         rw[HQO.out];rintro e w2 ⟨rfl,hf⟩;have gh:=aa (HX.out.keep hf);have Jk:=aa (HM.out.keep hf);clear hf c0 c1 c2 c3 c4 c5 c6 c7;have hx:=gh.out.cx;obtain⟨c0,c1,c2,c3,c4,c5,c6,c7⟩:=hx.cells;clear hx;simp only at c0 c1 c2 c3 c4 c5 c6 c7;cases qo with
         |false=>
          go_wp2_with fail;refine(eC _).mono ?_;unfold fj;rintro e w9 ⟨rfl,rfl⟩;go_wp2_with fail;exact eJ _ _ r _ rfl gh.out.rs (N8.out r _ hr gh.out (fun hv=>by have :=(VR.out hv).o;simp only at this;rw[HQO.out]at this;cases this))
         |true=>
          go_wp2_with fail;refine(tW w2 g b n f bA bC aT Jk.out (HH.out.keep gh.out.cx.fr).b HH.out.br HH.out.bL).mono ?_;rw[IW HH.out.br HKL.out];obtain⟨qb,HQB⟩:∃q,Hid (aT.all (io ⟨mx,ins,aM,outs,aT,aU,az,bY⟩)=q):=⟨_,rfl⟩
          rw[HQB.out];rintro e w3 ⟨rfl,hf⟩;have ly:=aa (gh.out.keep hf);have HM3:=aa (Jk.out.keep hf);clear hf c0 c1 c2 c3 c4 c5 c6 c7;have hx:=ly.out.cx;obtain⟨c0,c1,c2,c3,c4,c5,c6,c7⟩:=hx.cells;clear hx;simp only at c0 c1 c2 c3 c4 c5 c6 c7;cases qb with
          |false=>
           go_wp2_with fail;refine(eC _).mono ?_;unfold fj;rintro e w9 ⟨rfl,rfl⟩;go_wp2_with fail;exact eJ _ _ r _ rfl ly.out.rs (N8.out r _ hr ly.out (fun hv=>by have :=(VR.out hv).b;simp only at this;rw[HQB.out]at this;cases this))
          |true=>
           go_wp2_with fail;refine(tW w3 g b n f vA vC aU HM3.out (HH.out.keep ly.out.cx.fr).v HH.out.vr HH.out.vL).mono ?_;rw[IW HH.out.vr HKL.out];obtain⟨qv,HQV⟩:∃q,Hid (aU.all (io ⟨mx,ins,aM,outs,aT,aU,az,bY⟩)=q):=⟨_,rfl⟩
           rw[HQV.out];rintro e w4 ⟨rfl,hf⟩;have jV:=aa (ly.out.keep hf);clear hf c0 c1 c2 c3 c4 c5 c6 c7;have hx:=jV.out.cx;obtain⟨c0,c1,c2,c3,c4,c5,c6,c7⟩:=hx.cells;clear hx;simp only at c0 c1 c2 c3 c4 c5 c6 c7;cases qv with
           |false=>
            go_wp2_with fail;refine(eC _).mono ?_;unfold fj;rintro e w9 ⟨rfl,rfl⟩;go_wp2_with fail;exact eJ _ _ r _ rfl jV.out.rs (N8.out r _ hr jV.out (fun hv=>by have :=(VR.out hv).v;simp only at this;rw[HQV.out]at this;cases this))
           |true=>
            go_wp2_with fail;refine(KN.out w4 (HH.out.keep jV.out.cx.fr)).mono ?_;rintro e w5 ⟨qn,rfl,hqn,hf⟩;have HQN:=aa hqn;have uH:=aa (jV.out.keep hf);clear hf hqn c0 c1 c2 c3 c4 c5 c6 c7;cases qn with
            |false=>
             go_wp2_with fail;refine(eC _).mono ?_;unfold fj;rintro e w9 ⟨rfl,rfl⟩;go_wp2_with fail;exact eJ _ _ r _ rfl uH.out.rs (N8.out r _ hr uH.out (fun hv=>by have :=HQN.out.2 (VR.out hv).n;cases this))
            |true=>
             go_wp2_with fail;refine(ik _).mono ?_;rintro e w9 ⟨rfl,rfl⟩;have hc:=uH.out.rs.cell 0;have hz:=uH.out.rs.frozen 0;simp at hc;go_wp2_with fail;have oN:=uH.out.rs.eu 0 (.int .i64 0);simp at oN;exact VZ _ _ r _ rfl oN (oh.out r _ hr uH.out (VO.out CI.out HDO.out ⟨OM.out,rD.out,HQO.out,HQB.out,HQV.out,HQN.out.1 (by simp)⟩))
    ·unfold fj;go_wp2_with fail;exact eJ _ _ r _ rfl Fv.out.rs (N8.out r _ hr Fv.out (fun hv=>hdo (VD.out hv)))
   ·have d2:decide (M<=64)=false:=aah m2;have HNV:Hid (¬Valid ⟨mx,ins,aM,outs,aT,aU,az,bY⟩):=fun hv=>by have hl:=VL.out hv;have h1:=hl.i;have h2:=hl.l;have h3:=hl.o;have h4:=hl.b;have h5:=hl.v;simp only at h1 h2 h3 h4 h5;exact m2 (by rw[<-NY.out,PN];omega)
    go_wp2_with fail;refine(eC _).mono ?_;unfold fj;rintro e w9 ⟨rfl,rfl⟩;go_wp2_with fail;exact eJ _ _ r _ rfl NZ.out.rs (N8.out r _ hr NZ.out (HNV.out))
  ·have d1:decide (mx<=2048)=false:=aah m1;have HNV:Hid (¬Valid ⟨mx,ins,aM,outs,aT,aU,az,bY⟩):=fun hv=>by have hl:=(VL.out hv).m1;simp only at hl;omega
   go_wp2_with fail;refine(eC _).mono ?_;unfold fj;rintro e w9 ⟨rfl,rfl⟩;go_wp2_with fail;exact eJ _ _ r _ rfl NZ.out.rs (N8.out r _ hr NZ.out (HNV.out))
 ·have d0:decide (0<=mx)=false:=aah m0;have HNV:Hid (¬Valid ⟨mx,ins,aM,outs,aT,aU,az,bY⟩):=fun hv=>by have hl:=(VL.out hv).m0;simp only at hl;omega
  go_wp2_with fail;refine(eC _).mono ?_;unfold fj;rintro e w9 ⟨rfl,rfl⟩;go_wp2_with fail;exact eJ _ _ r _ rfl NZ.out.rs (N8.out r _ hr NZ.out (HNV.out))
def uR (fm x:Int):Bool:=decide (x<0) ||decide (fm<x/2)
theorem Un (w:World) (a b:Nat) (fm x:Int) (h1:w.cell? ⟨a,0,none⟩=some (.bool false)) (h2:w.cell? ⟨b,0,none⟩=some (.int .i64 fm)) (hr:eh x):
  Calls Tryz.prog 96 #[.int .i64 x, .pointer (some ⟨a,0,none⟩), .pointer (some ⟨b,0,none⟩)] w fun e w'=>e= .returned (.bool (uR fm x))/\Fr [] w w':=by
 unfold eh at hr;obtain⟨Zq,rm⟩:=hr;have e1:=Ext.cell h1;have e2:=Ext.cell h2;have hK:Hid (∀s,uR fm x=s->Ending.returned (.bool s)= .returned (.bool (uR fm x))):=fun s h=>by rw[h]
 by_cases l0:x<0
 ·have d0:decide (x<0)=true:=aai l0;have HB:Hid (uR fm x=true):=(by simp[uR,d0]:uR fm x=true)
  have KV:=aa (fun W=>wT W x l0);go_enter Tryz.func96,Tryz.ntmps96;go_wp2_with fail;refine au (by kernel_rfl) (by kernel_rfl) ?_;repeat (go_big_quiet_step (exact bh (KV.out _)))
  refine aak ?_;rintro w2 ⟨u2,b8⟩;have bj:Hid (Fr [] w w2):=b8▸u2.fr;clear b8 u2;go_wp2_with fail;go_ret;exact⟨hK.out _ HB.out,bj.out⟩
 ·have d0:decide (x<0)=false:=aah l0;have KV:=aa (fun W=>jc W x (by omega) rm);obtain⟨q,HQ⟩:∃q,Hid (decide (fm<x/2)=q):=⟨_,rfl⟩
  have HB:Hid (uR fm x=q):=(by simp only[uR,d0,HQ.out,Bool.false_or]:uR fm x=q)
  have dq:=HQ.out;cases q with
  |true=>
   go_enter Tryz.func96,Tryz.ntmps96;go_wp2_with fail;refine au (by kernel_rfl) (by kernel_rfl) ?_;repeat (go_big_quiet_step (exact bh (KV.out _)))
   refine aak ?_;rintro w2 ⟨u2,b8⟩;have bj:Hid (Fr [] w w2):=b8▸u2.fr;clear b8 u2;go_wp2_with fail;go_ret;exact⟨hK.out _ HB.out,bj.out⟩
  |false=>
   go_enter Tryz.func96,Tryz.ntmps96;go_wp2_with fail;refine au (by kernel_rfl) (by kernel_rfl) ?_;repeat (go_big_quiet_step (exact bh (KV.out _)))
   refine aak ?_;rintro w2 ⟨u2,b8⟩;have bj:Hid (Fr [] w w2):=b8▸u2.fr;clear b8 u2;go_wp2_with fail;go_ret;exact⟨hK.out _ HB.out,bj.out⟩
def Uv (fm:Int) (xs:List Int):Bool:=xs.all fun x=>decide (0<=x)&&decide (x<=2*fm+1)
theorem YE (fm:Int) (xs:List Int):(xs.any (uR fm))= !Uv fm xs:=by unfold Uv;rw[List.not_all_eq_any_not];congr 1;funext x;unfold uR;rw[Bool.eq_iff_iff];simp;omega
def lcI (b:Bool):Int:=if b then 0 else 4
theorem BI (w:World) (fm:Int) (A:Option Addr) (c:Nat) (xs:List Int) (h0:0<=fm) (h1:fm<=2048) (hx:Rd w A xs) (hr:Ra xs) (hl:xs.length<=17592186044416):
  Calls Tryz.prog 53 #[.int .i64 fm, .slice A xs.length c] w fun e w'=>e= .returned (.int .i64 (lcI (Uv fm xs)))/\Fr [] w w':=by
 have hmf:∀(fn:Fn) (first cap:Array Value) (w:World),(Instr.makeFunc fn first cap).run Tryz.prog w= .ok (.func fn first cap) w:=fun _ _ _ _=>rfl;have d0:decide (fm<0)=false:=aah (by omega);have d1:decide (2048<fm)=false:=aah (by omega);have hK:Hid (∀s,lcI (Uv fm xs)=s->Ending.returned (.int .i64 s)= .returned (.int .i64 (lcI (Uv fm xs)))):=fun s h=>by rw[h]
 have HX:=aa hx;have HR:=aa hr;clear hx hr;go_enter Tryz.func53,Tryz.ntmps53;go_upto_region 2 with fail;obtain⟨W0,Q3⟩:∃W,(w.alloc (.cells #[.int .i64 fm] 3)).alloc (.cells #[.bool false] 4)=W:=⟨_,rfl⟩
 rw[Q3];have Fx:Hid (Fr [] w W0):=Q3▸((eW _ _).ag (eW _ _));have hb:At W0 w.heap.size 3 #[.int .i64 fm]:=Q3▸(At.new w _ _).alloc _;have ha:At W0 (w.heap.size+1) 4 #[.bool false]:=by rw[<-Q3];have :=At.new (w.alloc (.cells #[.int .i64 fm] 3)) 4 #[.bool false];simpa using this
 have KC:=aa (fV W0 A c xs 96 #[.pointer (some ⟨w.heap.size+1,0,none⟩), .pointer (some ⟨w.heap.size,0,none⟩)] (uR fm) Ro (HX.out.keep Fx.out) HR.out hl
  (fun W hW x _ hx=>Un W _ _ fm x (hW.aN (by rw[ha.cell];rfl)) (hW.aN (by rw[hb.cell];rfl)) hx))
 clear Q3 ha hb;go_wp2_with fail;refine KC.out.mono ?_;rw[YE];obtain⟨q,HQ⟩:∃q,Hid (Uv fm xs=q):=⟨_,rfl⟩
 rw[HQ.out];rintro e w2 ⟨rfl,hf⟩;have HF:=aa (Fx.out.ag hf);clear hf;cases q with
 |true=>
  go_wp2_with fail;go_ret;exact⟨hK.out _ (by rw[HQ.out];rfl),HF.out⟩
 |false=>
  go_wp2_with fail;go_ret;exact⟨hK.out _ (by rw[HQ.out];rfl),HF.out⟩
end Go.Proofs.YtjmmpfjcpdepjaaGreatDoor
