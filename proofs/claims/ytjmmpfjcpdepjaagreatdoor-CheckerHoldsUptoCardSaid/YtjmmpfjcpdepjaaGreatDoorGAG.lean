/- Parts of a proof. -/
import Derived.Test.YtjmmpfjcpdepjaaGreatDoorGAE
import Derived.Maps.OwnOps
import Derived.Maps.OwnSet
import Derived.Shelf.Abstract
set_option linter.unusedVariables false
set_option linter.unusedSimpArgs false
set_option maxHeartbeats 8000000
set_option maxRecDepth 100000
namespace Go.Proofs.YtjmmpfjcpdepjaaGreatDoor
open Go.RowKit
theorem acA (w:World):(zeroValue 4).run Tryz.prog w= .ok (.bool false) w:=by kernel_rfl
theorem Ns {P:Program} {e:TypeId} (he:P.underlying e=some .bool) {v:Value} {z:DataW Unit×List MemPlace} (h:plainElem P e v=some z):∃b:Bool,v= .bool b/\z=(.lit (.bool b),[]):=by unfold plainElem at h;rw[he]at h;cases v<;>simp at h;subst h;exact⟨_,rfl,rfl⟩
def Lg (w:World) (b n:Nat) (f:Int->Bool):Prop:=∃D:DataW Unit,w.ownsMap Tryz.prog 3 (plainElem Tryz.prog 4) b n D/\∀v,eh v->D.atKey (.int .i64 v) (.lit (.bool false))= .lit (.bool (f v))
theorem Lg.lt {w:World} {b n:Nat} {f:Int->Bool} (h:Lg w b n f):b<w.heap.size:=by obtain⟨D,h1,_⟩:=h;exact h1.lt
theorem Lg.fr {w w':World} {S:List Nat} {b n:Nat} {f:Int->Bool} (h:Lg w b n f) (hf:Fr S w w') (hn:b∉S):Lg w' b n f:=by have bw:=h.lt;obtain⟨D,⟨es,clock,hb,F,hs,hD⟩,h2⟩:=h;exact⟨D,⟨es,clock,(hf.block b bw hn).trans hb,F,hs,hD⟩,h2⟩
theorem Lg.new (w:World):Lg (w.alloc (.map #[] 0)) w.heap.size 0 (fun _=>false):=
 ⟨.map [],World.ownsMap_made w _ _ _,fun v _=>rfl⟩
theorem LZ {P:Program} {k e t:TypeId} (K:Maps.Keyed P k) (ht:P.underlying t=some (.map k e)) (he:P.underlying e=some .bool) {w:World} (hz:(zeroValue e).run P w= .ok (.bool false) w) {b n:Nat} {D:DataW Unit}
  (h1:w.ownsMap P k (plainElem P e) b n D) {key:Value} {kl:Lit} (ZU:keyOf P k key=some kl) {s:Bool} (h2:D.atKey kl (.lit (.bool false))= .lit (.bool s)):
  (Instr.lookup t (.map (some b)) key false).run P w= .ok (.bool s) w:=by
 obtain⟨x,ps,hr,hx⟩:=h1.lookup K ht hz (plainElem_bool he false) ZU;obtain⟨y,rfl,hz⟩:=Ns he hx;have h4:=(Prod.mk.inj hz).1;refine hr.trans ?_;have h5:(DataW.lit (H:=Unit) (.bool y))= .lit (.bool s):=by rw[<-h4];exact h2
 injection h5 with h5;injection h5 with h5;rw[<-h5]
theorem Lg.look {w:World} {b n:Nat} {f:Int->Bool} (h:Lg w b n f) {v:Int} (hv:eh v):
  (Instr.lookup 221 (.map (some b)) (.int .i64 v) false).run Tryz.prog w= .ok (.bool (f v)) w:=by
 obtain⟨D,h1,h2⟩:=h;exact LZ (Maps.int_keyed Tryz.underlying3) Tryz.underlying221 Tryz.underlying4 (acA w) h1 (Ur hv) (h2 v hv)
theorem TX {D:DataW Unit} (hD:Maps.IsMap D) {v x:Int} {d:DataW Unit} {f:Int->Bool} {s:Bool} (hd:d= .lit (.bool s)) (h:eh x->D.atKey (.int .i64 x) (.lit (.bool false))= .lit (.bool (f x))) (hx:eh x):
  (D.put (.int .i64 v) d).atKey (.int .i64 x) (.lit (.bool false))= .lit (.bool (if x=v then s else f x)):=by
 by_cases e:x=v
 ·subst e;rw[aae rfl,Maps.atKey_put_same hD (by simp[WideAt.IsKeyLit]),hd]
 ·rw[aac e,Maps.atKey_put_other (by simpa using e),h hx]
theorem eD {α:Type} [Inhabited α] {l:List α} {p:α->Prop}:(∀j:Nat,j<l.length->p l[j]!)↔∀x∈l,p x:=by
 constructor
 ·intro h x hx;obtain⟨j,hj,e⟩:=List.mem_iff_getElem.1 hx;have :=h j hj;rwa[ae,af hj,e]at this
 ·intro h j hj;exact h _ (by rw[ae,af hj];simp)
theorem Dt (w:World) (A:Option Addr) (c:Nat) (xs:List Int) (n:Int) (h:Rd w A xs) (hr:Ra xs) (hl:xs.length<=17592186044416):
  Calls Tryz.prog 217 #[.slice A xs.length c, .int .i64 n] w (zA (xs.any (n== ·)) w):=by
 have HH:=aa h;have HR:=aa hr;have oh:Hid (∀(k:Nat) W,k<=17592186044416->xs.any (n== ·)=true->Fr [] w W->zA (xs.any (n== ·)) w (.returned (.int .i64 (k:Int))) W):=fun k W h1 h2 h3=>⟨k,rfl,by omega,by omega,by rw[h2];exact aai (by omega),h3⟩
 have NO:Hid (∀W,xs.any (n== ·)=false->Fr [] w W->zA (xs.any (n== ·)) w (.returned (.int .i64 (-1))) W):=fun W h2 h3=>⟨-1,rfl,by omega,by omega,by rw[h2];rfl,h3⟩
 clear h hr;go_enter Tryz.func217,Tryz.ntmps217;go_wp2_with fail;go_loopg [8] xs.length (fun g i wr=>∃k:Nat,k+g=xs.length/\i= .int .i64 k/\Fr [] w wr/\dF xs (n== ·) k);case atStart=>exact⟨0,by omega,rfl,Fr.refl _ _,dF.zero _ _⟩
 case round=>
  obtain⟨k,hk,rfl,hx,hn⟩:=hrel;have HK:=aa hk;have HX:=aa hx;have HN:=aa hn;have jg:k<=xs.length:=by omega
  clear hk hx hn;by_cases bw:k<xs.length
  ·obtain⟨b,o,x,hA,he,cx,fN,gd⟩:=(HH.out.keep HX.out).one HR.out bw;subst hA;obtain⟨q,HQ⟩:∃q:Bool,Hid ((n==x)=q):=⟨(n==x),aa rfl⟩
   have hq:=HQ.out;cases q with
   |true=>
    go_wp2_with fail;go_ret;exact oh.out k _ (by omega) (kM _ _ k bw (by rw[he.out];exact HQ.out)) HX.out
   |false=>
    go_wp2_with fail;go_roundg (gk-1);case measure=>have :=HK.out;omega
    case rel=>exact⟨k+1,by have :=HK.out;omega,by go_num,HX.out,HN.out.step (by rw[he.out];exact HQ.out)⟩
  ·have HT:=aa (HN.out.all bw);clear HN HK;go_wp2_with fail;go_ret;exact NO.out _ HT.out HX.out
theorem wy (w:World) (A:Option Addr) (c:Nat) (xs:List Int) (n:Int) (h:Rd w A xs) (hr:Ra xs) (hl:xs.length<=17592186044416):
  Calls Tryz.prog 203 #[.slice A xs.length c, .int .i64 n] w fun e w'=>e= .returned (.bool (xs.any (n== ·)))/\Fr [] w w':=by
 have HC:=aa (Dt w A c xs n h hr hl);clear h hr;go_enter Tryz.func203,Tryz.ntmps203;go_wp2_with fail;refine HC.out.mono ?_;rintro e w2 ⟨n,rfl,h1,h2,h3,hf⟩;have H3:=aa h3;have HF:=aa hf;clear h3 hf;go_wp2_with fail;go_ret;exact⟨by rw[<-H3.out];rfl,HF.out⟩
theorem Lg.store {w:World} {b n:Nat} {f:Int->Bool} (h:Lg w b n f) (hn:n<maxLen) {v:Int} (hv:eh v) (s:Bool):
  ∃w',(Instr.mapUpdate 221 (.map (some b)) (.int .i64 v) (.bool s)).run Tryz.prog w= .ok () w'/\Lg w' b (n+1) (fun x=>if x=v then s else f x)/\Fr [b] w w':=by
 obtain⟨D,h1,h2⟩:=h;obtain⟨w',hr,g1,g2⟩:=h1.update (Maps.int_keyed Tryz.underlying3) Tryz.underlying221 hn (Ur hv) (plainElem_bool Tryz.underlying4 s);exact⟨w',hr,⟨_,g1,fun x hx=>TX h1.isMap rfl (fun hr=>h2 x hr) hx⟩,(Fr.refl _ w).grown g2 (fun k hk=>by cases hk;exact .inl (by simp))⟩
def rI (w:World) (b n:Nat) (l:List Int):Prop:=∃f,Lg w b n f/\∀x,f x=true↔x∈l
theorem rI.new (w:World):rI (w.alloc (.map #[] 0)) w.heap.size 0 []:=⟨_,Lg.new w,fun x=>by simp⟩
theorem rI.look {w:World} {b n:Nat} {l:List Int} (h:rI w b n l) {v:Int} (hv:eh v):
  (Instr.lookup 221 (.map (some b)) (.int .i64 v) false).run Tryz.prog w= .ok (.bool (decide (v∈l))) w:=by
 obtain⟨f,h1,h2⟩:=h;have e:decide (v∈l)=f v:=by rw[Bool.eq_iff_iff,decide_eq_true_iff];exact(h2 v).symm
 rw[e];exact h1.look hv
theorem rI.store {w:World} {b n:Nat} {l:List Int} (h:rI w b n l) (hn:n<maxLen) {v:Int} (hv:eh v):
  ∃w',(Instr.mapUpdate 221 (.map (some b)) (.int .i64 v) (.bool true)).run Tryz.prog w= .ok () w'/\rI w' b (n+1) (v::l)/\Fr [b] w w':=by
 obtain⟨f,h1,h2⟩:=h;obtain⟨w',hr,g1,g2⟩:=h1.store hn hv true;refine⟨w',hr,⟨_,g1,fun x=> ?_⟩,g2⟩;simp only[av];by_cases e:x=v
 ·simp[e]
 ·rw[aac e,h2 x];simp[e]
theorem rI.fr {w w':World} {S:List Nat} {b n:Nat} {l:List Int} (h:rI w b n l) (hf:Fr S w w') (hn:b∉S):rI w' b n l:=by obtain⟨f,h1,h2⟩:=h;exact⟨f,h1.fr hf hn,h2⟩
theorem rI.keep {w w':World} {b n:Nat} {l:List Int} (h:rI w b n l) (hf:Fr [] w w'):rI w' b n l:=h.fr hf (by simp)
theorem rI.congr {w:World} {b n:Nat} {l l':List Int} (h:rI w b n l) (he:∀x,x∈l↔x∈l'):rI w b n l':=by obtain⟨f,h1,h2⟩:=h;exact⟨f,h1,fun x=>(h2 x).trans (he x)⟩
theorem rI.lt {w:World} {b n:Nat} {l:List Int} (h:rI w b n l):b<w.heap.size:=by obtain⟨f,h1,h2⟩:=h;exact h1.lt
theorem aX.aaj {w:World} {L:aO} {S:Sv} (h:aX w L S) {k:Nat} (hk:L.has k):k<w.heap.size:=by
 rcases hk with rfl |hk |hk |hk |hk |hk |hk |hk |⟨n,hn,hk⟩ |⟨c,hc,hk⟩
 ·exact h.obj.lt
 ·exact h.tr.lt k hk
 ·exact h.hp.lt k hk
 ·exact dZ h.vt k hk
 ·exact dZ h.rws k hk
 ·exact dZ h.vp k hk
 ·exact dZ h.yz k hk
 ·exact h.uQ.lt k hk
 ·exact(h.ql n hn).lt k hk
 ·exact(h.sD c hc).lt k hk
def aO.shut (L:aO) (w:World):aO:={ L with cY:=fun k=>if k<w.heap.size then L.cY k else(L.id+1,0,0) }
theorem aX.shut {w:World} {L:aO} {S:Sv} (h:aX w L S):aX w (L.shut w) S:=h.JS _ (fun k hk=>aae (h.aaj hk))
theorem aO.mI (L:aO) (w:World):L.ext (L.shut w) w:=⟨rfl,rfl,fun k hk e=>by simp only[aO.shut]at e;rwa[aae hk]at e⟩
theorem aO.jR {L:aO} {w:World} {k:Nat} (h:w.heap.size<=k):((L.shut w).cY k).1≠(L.shut w).id:=by simp only[aO.shut];rw[aac (by omega)];simp
theorem aO.ww {L:aO} {w:World} {k:Nat} (h:k<w.heap.size):(L.shut w).cY k=L.cY k:=by simp only[aO.shut];rw[aae h]
def aO.gN (L:aO) (A:Option Addr):Prop:=∀k,k∈ak A->(L.cY k).1≠L.id
theorem aO.nI {L:aO} {w:World} {k:Nat} (h:(L.cY k).1≠L.id):k∉L.own w:=fun hm=>h (aO.bT.1 hm).2
theorem Rd.frF {w w':World} {A:Option Addr} {xs:List Int} {F:List Nat} (h:Rd w A xs) (hf:Fr F w w') (hn:∀k,k∈ak A->k∉F):Rd w' A xs:=by intro h0;obtain⟨b,o,rfl,hx⟩:=h h0;exact⟨b,o,rfl,fun j hj=>hf.bK (hn b (by simp[ak])) (hx j hj)⟩
theorem Rd.blk {w:World} {A:Option Addr} {xs:List Int} (h:Rd w A xs) (h0:0<xs.length):∀k,k∈ak A->k<w.heap.size:=by obtain⟨b,o,rfl,hx⟩:=h h0;intro k hk;simp[ak]at hk;subst hk;exact bM (hx 0 h0)
theorem aX.pJ {w w1:World} {L:aO} {S:Sv} (h:aX w L S) {A':Option Addr} {c':Nat} {F:List Nat} {ls:List Int} (hi:Ints w1 A' c' ls) (hf:Fr F w w1) (hF:∀k,k∈F->k<w.heap.size->L.cY k=(L.id,7,0))
  (hA:∀k,k∈ak A'->(k<w.heap.size/\L.cY k=(L.id,7,0))\/w.heap.size<=k):
  ∃L',aX (w1.setCell ⟨L.a,7,none⟩ (.slice A' ls.length c')) L' { S with core:=ls }/\L.ext L' w/\Fr (L.own w) w (w1.setCell ⟨L.a,7,none⟩ (.slice A' ls.length c'))/\L'={ L with oA:=A',oC:=c',cY:=L.re w (7,0) }:=by
 have bW:Fr (L.a::F) w (w1.setCell ⟨L.a,7,none⟩ (.slice A' ls.length c')):=(hf.mono (fun k hk=> .inl (by simp[hk]))).setCell (.inl (by simp)) _;have CS:∀k,k∈L.a::F->k<w.heap.size->∃t,(t=(7,0)\/t=(0,0))/\L.cY k=(L.id,t):=by
  intro k hk hl;rcases av.1 hk with rfl |hk
  ·exact⟨_, .inr rfl,h.t0⟩
  ·exact⟨_, .inl rfl,hF k hk hl⟩
 have o:=h.off (P:=fun t=>t=(7,0)\/t=(0,0)) bW CS;have o1:=h.off (P:=(· =(7,0))) hf (fun k hk hl=>⟨_,rfl,hF k hk hl⟩);have g:=h.tags (7,0);have dS:L.a∉ak A':=fun hk=>by
  rcases hA _ hk with⟨_,h2⟩ |h2
  ·rw[h.t0]at h2;simp at h2
  ·have :=h.obj.lt;omega
 refine⟨{ L with oA:=A',oC:=c',cY:=L.re w (7,0) },⟨?_,o.tr (by simp),o.hp (by simp),h.iQ,h.Cb,h.B9,o.vt (by simp),o.rws (by simp),o.vp (by simp),o.yz (by simp),?_,fun n hn=>o.ql n hn (by simp),fun c hc=>o.sD c hc (by simp),
  g.t0,g.t1,g.t2,g.t3,g.t4,g.t5,g.t6,fun k hk=>aO.nv (hA k hk),g.t8,g.t9⟩,⟨rfl,rfl,fun k hk e=>aO.o7 hk e⟩,aO.gS bW (fun k hk hl=>by obtain⟨t,_,e⟩:=CS k hk hl;rw[e]),rfl⟩
 ·have :=(o1.obj (by simp)).eu 7 (.slice A' ls.length c');simpa[pM]using this
 ·exact hi.gN (p:=⟨L.a,7,none⟩) dS _
theorem Sv.Ok.pJ {S:Sv} {m:Nat} (ok:S.Ok m) (l:List Int):({ S with core:=l }:Sv).Ok m:=⟨ok.vl,ok.tr,ok.hi,ok.hl,ok.ph,ok.wl,ok.ll,ok.wb,ok.wt,ok.lr,ok.ln,ok.lb,ok.hd,ok.rs⟩
theorem O3 {x:Int} {v:Nat} (h0: -(v:Int)<=x) (h1:x<=v) (hv:v<=262143):0<=tv x/\tv x<=v:=by unfold tv;split<;>omega
theorem wR {x:Int} {v:Nat} (h0: -(v:Int)<=x) (h1:x<=v) (hv:v<=262143):(if x< -x then -x else x)=tv x/\IntKind.i64.wrap (-x)= -x:=⟨GA (by omega),IntWalk.i64_in _ (by omega)⟩
namespace Sv
theorem uD {S:Sv} {l:Int} {r g met:List Int} (h:tv l∉g\/S.T.dp (tv l)=0):dL S (l::r) g met=dL S r g met:=by rw[dL,aae h]
theorem IU {S:Sv} {l:Int} {r g met:List Int} (h:tv l∈g) (h1:S.T.dp (tv l)≠0) (h2:S.T.fy (tv l)-1<0):dL S (l::r) g met=dL S r g (l::met):=by rw[dL,aac (by rintro(x |x);exact x h;exact h1 x),aae h2]
theorem Nz {S:Sv} {l:Int} {r g met:List Int} (h:tv l∈g) (h1:S.T.dp (tv l)≠0) (h2:¬S.T.fy (tv l)-1<0):dL S (l::r) g met=dL S r ((S.rc (S.T.fy (tv l)-1).toNat).lits.map tv++g) met:=by rw[dL,aac (by rintro(x |x);exact x h;exact h1 x),aac h2]
end Sv
theorem BF {l:List Int} {j:Nat} (hj:j<l.length) (g:List Int) (x:Int):x∈tv l[j]! ::((l.take j).map tv++g)↔x∈(l.take (j+1)).map tv++g:=by
 rw[List.take_add_one,af hj,fI];simp only[ae,af hj,ay,bH,ah,av,cj,dv,cd,or_false];constructor
 ·rintro(h |h |h)
  ·exact .inl (.inr h)
  ·exact .inl (.inl h)
  ·exact .inr h
 ·rintro((h |h) |h)
  ·exact .inr (.inl h)
  ·exact .inl h
  ·exact .inr (.inr h)
theorem E9 (w:World) (L:aO) (S:Sv) (h:aX w L S) (m:Nat) (ok:S.Ok m) (a:Int) (ha0: -(S.vars:Int)<=a) (Q2:a<=S.vars) (A:Option Addr) (c:Nat) (us:List Int) (hi:Rd w A us) (mi:∀x∈us,-(S.vars:Int)<=x/\x<=S.vars) (hal:us.length<=1099511627776) (aew:L.gN A) (gZ:S.core=[]):
  Calls Tryz.prog 172 #[.pointer (some ⟨L.a,0,none⟩), .int .i64 a, .slice A us.length c] w (pz (.tuple #[]) (S.yd a us) L w):=by
 have lx:=ok.vl;obtain⟨Ts,VU⟩:∃Ts,Sv.dL S S.T.lits.reverse [tv a] [a]=Ts:=⟨_,rfl⟩
 obtain⟨RC,hRC⟩:∃RC,Sv.hJ Ts us S.core=RC:=⟨_,rfl⟩
 have de:S.yd a us={ S with core:=RC }:=by unfold Sv.yd;rw[VU,hRC]
 rw[de];have na:Hid (∀W L',aX W L' { S with core:=RC }->L.ext L' w->Fr (L.own w) w W->pz (.tuple #[]) { S with core:=RC } L w (.returned (.tuple #[])) W):=fun W L' g1 g2 g3=>⟨rfl,L',g1,g2,g3⟩
 have yD:=@run_makeMap Tryz.prog;obtain⟨va,YW⟩:∃va,tv a=va:=⟨_,rfl⟩
 obtain⟨rF,nO⟩:=wR ha0 Q2 lx;have xg:=O3 ha0 Q2 lx;rw[YW]at rF xg VU;obtain⟨w1,Ka,mz,cX⟩:=(rI.new w).store (v:=va) (by decide) ⟨by omega,by omega⟩;have dI:Hid (Fr [] w w1):=((Fr.refl [] w).alloc _).trans cX (fun k hk=>by simp at hk;subst hk;exact .inr (ap _));obtain⟨w2,Xn,sm,bW⟩:=(rI.new w1).store (v:=a) (by decide) ⟨by omega,by omega⟩;have agB:Hid (Fr [] w1 w2):=((Fr.refl [] w1).alloc _).trans bW (fun k hk=>by simp at hk;subst hk;exact .inr (ap _));have cw:Hid (Fr [] w w2):=dI.out.ag agB.out;have OQ:=aa (mz.keep agB.out);have Jk:=aa sm;have oI:w.heap.size<w1.heap.size:=mz.lt;have NX:=aa oI;obtain⟨bm,VN⟩:∃bm,w1.heap.size=bm:=⟨_,rfl⟩
 obtain⟨bg,QY⟩:∃bg,w.heap.size=bg:=⟨_,rfl⟩
 rw[VN]at oI Xn Jk;rw[QY]at oI Ka OQ;have HH:=aa h;have lz:=aa ok;have agd:=aa VU;have Sd:=aa hRC;have HBG:=aa QY;have HBM:=aa VN;have Ll:=aa oI;have HI:=aa hi;have rD:=aa mi;have agA:=aa aew;have HCO:=aa gZ;obtain⟨c0,-,-,c3,-⟩:=h.cells;have vS:=aa c0;have FA:=aa c3;have Sp:=aa ok.ic;have c0:=cw.out.aN vS.out;have KL:=aa (kQ w2 L.tL S.T (h.tr.fr cw.out (by simp)));have qh:=ok.ic;have Eu:=h.ot;have aso:=ok.ll;have eZ:Hid (∀x,∀n:Nat,∀k,x=S.T.lits[k]! ->k<S.T.lits.length->n=n):=fun _ _ _ _ _=>rfl;clear cX bW mz sm c3 h ok VU hRC hi mi aew gZ ha0 Q2 YW de eZ;go_enter Tryz.func172,Tryz.ntmps172;go_wp2_with fail;refine KL.out.mono ?_;clear KL;rintro e w3 ⟨rfl,rfl⟩;clear Ka Xn c0 rF nO;have dP:IntKind.i64.wrap ((S.T.lits.length:Int)-1)=(S.T.lits.length:Int)-1:=IntWalk.i64_in _ (by omega);go_wp2_with fail;clear dP;go_loopg [8] S.T.lits.length (fun g x8 wr=>∃(n1 n2:Nat) (g1 k9:List Int),g<=S.T.lits.length/\x8= .int .i64 ((g:Int)-1)/\Hid (Sv.dL S (S.T.lits.take g).reverse g1 k9=Ts)/\Hid (rI wr bg n1 g1)/\Hid (rI wr bm n2 k9)/\n1+1048577*g<=300000000000/\n2+g<=262145/\Hid (Fr [] w wr));case atStart=>exact⟨1,1,[va],[a],ap _,rfl,by show _=_;rw[cN];exact agd.out,OQ.out,Jk.out,by omega,by omega,cw.out⟩
 case round=>
  obtain⟨n1,n2,g1,k9,hk,rfl,HB,HG,HT,ke,qE,HF⟩:=hrel;have th:=aa ke;have jw:=aa qE;clear ke qE;cases gk with
  |zero=>
   have HME:Hid (k9=Ts):=by have :=HB.out;show _=_;simpa[Sv.dL]using this
   clear HB th HG;go_wp2_with fail;have H1:=aa (HH.out.shut.keep HF.out);have fa:=aa (L.mI w);have HFO:Hid (Fr (L.own w) w wr):=HF.out.mono (fun k hk=>by cases hk);have Fq:Hid (((L.shut w).cY bm).1≠(L.shut w).id):=aO.jR (by have :=Ll.out;have :=HBG.out;omega);have tf:=aa (HI.out.keep HF.out);have HFA:Hid ((L.shut w).gN A):=fun k hk=>by
    rcases bv k w.heap.size with h1 |h1
    ·rw[aO.ww h1];exact agA.out k hk
    ·exact aO.jR h1
   have Vj:=HME.out;subst Vj;have HSC:Hid (({ S with core:=[] }:Sv)=S):=(aao (fun l=>({ S with core:=l }:Sv)) HCO.out).symm;have aa8:Hid (Ra us):=(eD (p:=eh)).2 fun x hx=>by have :=rD.out x hx;constructor<;>omega
   have amL:Hid (Sv.hJ k9 us []=RC):=by have :=Sd.out;rw[HCO.out]at this;exact this
   clear HF HI agA agd OQ Jk vS FA Sd HME;go_loopg [90] us.length (fun g x90 wi=>∃(k:Nat) (c1:List Int) (L1:aO),k+g=us.length/\x90= .int .i64 k/\Hid (Sv.hJ k9 (us.drop k) c1=RC)/\Hid (aX wi L1 { S with core:=c1 })/\Hid (L.ext L1 w)/\Hid (Fr (L.own w) w wi)/\Hid (rI wi bm n2 k9)/\Hid ((L1.cY bm).1≠L1.id)/\Hid (Rd wi A us)/\Hid (L1.gN A)/\c1.length<=k/\Hid (Ra c1));case atStart=>exact⟨0,[],L.shut w,by omega,rfl,amL.out,HSC.out.symm▸H1.out,fa.out,HFO.out,HT.out,Fq.out,tf.out,HFA.out,ap _,fun j hj=>absurd hj (aI _)⟩
   case round=>
    obtain⟨k,c1,L1,hk,rfl,HB,H2,dn,SI,OK,Wz,qc,WJ,od,Fo⟩:=hrel;have HK:=aa hk;have oJ:k<=us.length:=(by omega)
    clear hk;by_cases bw:k<us.length
    ·obtain⟨b,o,x,hA,he,cx,fN,gd⟩:=qc.out.one aa8.out bw;subst hA;have u0:us.drop k=x::us.drop (k+1):=by rw[List.drop_eq_getElem_cons bw,<-he.out];simp only[ae,af bw,ay]
     have TC:=aa u0;have jZ:=OK.out.look (v:=x) ⟨fN,gd⟩;clear u0;by_cases hm:x∈k9
     ·have sq:decide (x∈k9)=true:=aai hm;rw[sq]at jZ;have HM:=aa hm;obtain⟨-,-,-,-,-,-,-,c7,-⟩:=H2.out.cells;rw[dn.out.1]at c7;simp only at c7;have HC7:=aa c7;have KC:=aa (wy wr L1.oA L1.oC c1 x H2.out.uQ.rd Fo.out (by omega));obtain⟨q,hq⟩:∃q,c1.any (x== ·)=q:=⟨_,rfl⟩
      rw[hq]at KC;have HQ:=aa hq;clear hm sq hq;go_wp2_with fail;refine KC.out.mono ?_;clear KC jZ cx c7;rintro e w3 ⟨rfl,hf⟩;have db:=aa hf;have c7:=db.out.aN HC7.out;clear hf;cases q with
      |true=>
       have pF:Hid (Sv.hJ k9 (us.drop (k+1)) c1=RC):=by have :=HB.out;rw[TC.out,Sv.hJ,aac (by rintro⟨_,h2⟩;have :=HQ.out;rw[cq]at this;obtain⟨y,iP,lE⟩:=this;exact h2 ((beq_iff_eq.1 lE)▸iP))]at this;exact this
       clear c7;go_wp2_with fail;go_roundg (gk-1);case measure=>have :=HK.out;omega
       case rel=>exact⟨k+1,c1,L1,by have :=HK.out;omega,by go_num,pF.out,H2.out.keep db.out,dn.out,SI.out.ag (db.out.mono (fun k hk=>by cases hk)),OK.out.keep db.out,Wz.out,qc.out.keep db.out,WJ.out,by omega,Fo.out⟩
      |false=>
       have pF:Hid (Sv.hJ k9 (us.drop (k+1)) (c1++[x])=RC):=by have :=HB.out;rw[TC.out,Sv.hJ,aae ⟨HM.out,by intro h2;have :=HQ.out;rw[List.any_eq_false]at this;exact this x h2 (beq_self_eq_true x)⟩]at this;exact this
       have H3:=aa (H2.out.keep db.out);have ad2:L.a∉ak L1.oA:=fun hm=>by have e1:=H2.out.t7 _ hm;rw[<-dn.out.1,H2.out.t0]at e1;simp at e1
       have HN7:=aa ad2;have m9:Hid (Fr [] w3 (w3.alloc (.cells #[.int .i64 x] 3))):=aH _ _;have SP:Hid ((w3.alloc (.cells #[.int .i64 x] 3)).cell? ⟨w3.heap.size,0,none⟩=some (.int .i64 x)):=(At.new w3 _ _).cell 0;have Sx:=aa (H3.out.uQ.fD m9.out);have mE:Hid (∀w5,Fr (ak L1.oA) (w3.alloc (.cells #[.int .i64 x] 3)) w5->w5.cell? ⟨L.a,7,none⟩=some (.slice L1.oA c1.length L1.oC)/\w5.frozen? ⟨L.a,7,none⟩=false):=fun w5 ev=>by have c7':=m9.out.aN (db.out.aN HC7.out);have f7:=(H3.out.keep m9.out).obj.frozen 7;rw[dn.out.1]at f7;exact⟨ev.bK HN7.out c7',(World.frozen?_of_block (ev.block L.a (bM c7') HN7.out)).trans f7⟩
       have B4:c1.length<17592186044416:=(by omega)
       have Yh:=aa B4;clear ad2 B4;go_wp2_with (at_builtin;(refine dd _ rfl _ _ rfl L1.oA L1.oC c1 _ rfl rfl Sx.out ⟨w3.heap.size,0,none⟩ 1 x rfl SP.out Yh.out ?_;intro g5 aaC w5 ze ev Vv hs5;obtain⟨s7,f7⟩:=mE.out w5 ev))
       have aeA:Fr (ak L1.oA) w3 w5:=(m9.out.mono (fun k hk=>by cases hk)).ag ev;obtain⟨L6,h6,QP,gW,hL6⟩:=H3.out.pJ ze aeA (fun k hk hl=>H3.out.t7 k hk) (fun k hk=>by
        simp[ak]at hk;subst hk;rcases Vv with h5 |h5
        ·exact .inl ⟨H3.out.uQ.lt _ h5,H3.out.t7 _ h5⟩
        ·right
         rw[h5];simp)
       rw[dn.out.1,aj,bN]at h6 gW;have H6:=aa h6;have adI:w.heap.size<=w3.heap.size:=aE SI.out.size db.out.size;have qQ:=aa (aO.aV dn.out QP adI);have jo:=aa (aO.aQ dn.out (SI.out.ag (db.out.mono (fun k hk=>by cases hk))) gW);have Ng:bm<w3.heap.size:=aK OK.out.lt db.out.size;have HT6:=aa ((OK.out.keep db.out).fr gW (aO.nI Wz.out));have amY:Hid ((L6.cY bm).1≠L6.id):=by show _≠_;rw[hL6];simp only;rw[aO.iG Ng];exact Wz.out
       have Jh:=aa ((qc.out.keep db.out).frF gW (fun k hk=>aO.nI (WJ.out k hk)));have anx:Hid (L6.gN (some ⟨b,o,none⟩)):=fun k hk=>by rw[hL6];simp only;rw[aO.iG ((qc.out.keep db.out).blk (by omega) k hk)];exact WJ.out k hk
       have amN:Hid (Ra (c1++[x])):=(eD (p:=eh)).2 fun y hy=>by
        rcases ah.1 hy with h5 |h5
        ·exact(eD (p:=eh)).1 Fo.out y h5
        ·simp at h5;rw[h5];exact⟨fN,gd⟩
       clear h6 QP gW hL6 aeA ze ev Vv hs5 Ng adI s7 f7;go_roundg (gk-1);case measure=>have :=HK.out;omega
       case rel=>exact⟨k+1,c1++[x],L6,by have :=HK.out;omega,by go_num,pF.out,H6.out,qQ.out,jo.out,HT6.out,amY.out,Jh.out,anx.out,by simp;omega,amN.out⟩
     ·have sq:decide (x∈k9)=false:=aah hm;rw[sq]at jZ;have pF:Hid (Sv.hJ k9 (us.drop (k+1)) c1=RC):=by have :=HB.out;rw[TC.out,Sv.hJ,aac (fun h=>hm h.1)]at this;exact this
      clear hm sq;go_wp2_with fail;go_roundg (gk-1);case measure=>have :=HK.out;omega
      case rel=>exact⟨k+1,c1,L1,by have :=HK.out;omega,by go_num,pF.out,H2.out,dn.out,SI.out,OK.out,Wz.out,qc.out,WJ.out,by omega,Fo.out⟩
    ·obtain rfl :k=us.length:=by omega
     have HFN:Hid (c1=RC):=by have :=HB.out;rw[List.drop_length]at this;exact this
     have Ki:=HFN.out;subst Ki;have FF:=aa (na.out _ L1 H2.out dn.out SI.out);clear HB HK;go_wp2_with fail;go_end0;exact FF.out
  |succ i=>
   have m7:i<S.T.lits.length:=by omega
   obtain⟨fN,gd,BP,P9,hx5⟩:=lz.out.pK m7;obtain⟨l,hl⟩:∃l,S.T.lits[i]! =l:=⟨_,rfl⟩
   rw[hl]at fN gd BP P9 hx5;have HL:=aa hl;obtain⟨v,hv⟩:∃v,tv l=v:=⟨_,rfl⟩
   obtain⟨rF,nO⟩:=wR BP P9 lx;rw[hv]at rF fN gd;have HV:=aa hv;have m8:((i+1:Nat):Int)-1=(i:Int):=by omega
   have c0:=HF.out.aN vS.out;have KA:=aa (kU wr L.tL S.T (HH.out.tr.fr HF.out (by simp)) (i:Int));rw[qa m7,hl]at KA;have eF:Hid (Sv.dL S (l::(S.T.lits.take i).reverse) g1 k9=Ts):=by have :=HB.out;rw[rW m7,hl]at this;exact this
   rw[m8];clear HB hl hv;go_wp2_with fail;refine KA.out.mono ?_;clear KA;rintro e w4 ⟨rfl,rfl⟩;by_cases hg:v∈g1
   ·have jZ:=HG.out.look (v:=v) ⟨by omega,by omega⟩;have sq:decide (v∈g1)=true:=aai hg;rw[sq]at jZ;have HGM:=aa hg;clear hg sq;have KV:=aa (jQ wr L.tL S.T (HH.out.tr.fr HF.out (by simp)) v);obtain⟨lv,mj⟩:∃lv,S.T.dp v=lv:=⟨_,rfl⟩
    rw[mj]at KV;have abe:=aa mj;clear mj;go_wp2_with fail;refine KV.out.mono ?_;clear KV;rintro e w5 ⟨rfl,rfl⟩;clear jZ rF nO;by_cases hz:lv=0
    ·have hd:(lv==0)=true:=(by simp[hz])
     have HSK:Hid (Sv.dL S (S.T.lits.take i).reverse g1 k9=Ts):=by have :=eF.out;rw[Sv.uD (.inr (by rw[HV.out,abe.out];exact hz))]at this;exact this
     clear hz;go_wp2_with fail;go_roundg i;case measure=>omega
     case rel=>exact⟨n1,n2,g1,k9,by omega,rfl,HSK.out,HG.out,HT.out,by have :=th.out;omega,by have :=jw.out;omega,HF.out⟩
    ·have hd:(lv==0)=false:=(by simp[hz])
     have iy:=lz.out.rs v;have KR:=aa (kw wr L.tL S.T (HH.out.tr.fr HF.out (by simp)) v);obtain⟨r,hr⟩:∃r:Nat,S.T.fy v=r:=⟨(S.T.fy v).toNat,by omega⟩
     rw[hr]at KR iy;have HR:=aa hr;clear hr;cases r with
     |zero=>
      obtain⟨w6,iV,hm6,gW⟩:=HT.out.store (v:=l) (by have :=jw.out;unfold maxLen;omega) ⟨by omega,by omega⟩;have jo:Hid (Fr [] wr w6->True):=fun _=>trivial;have HSK:Hid (Sv.dL S (S.T.lits.take i).reverse g1 (l::k9)=Ts):=by have :=eF.out;rw[Sv.IU (by rw[HV.out];exact HGM.out) (by rw[HV.out,abe.out];exact hz) (by rw[HV.out,HR.out];omega)]at this;exact this
      have HM6:=aa hm6;have WG:=aa (HG.out.fr gW (by simp;have :=Ll.out;omega));have abo:Hid (Fr [] w w6):=HF.out.trans gW (fun k hk=>by simp at hk;subst hk;right;have :=Ll.out;have :=HBG.out;omega);clear hm6 gW hz;go_wp2_with fail;refine KR.out.mono ?_;clear KR;rintro e w5 ⟨rfl,rfl⟩;go_wp2_with fail;go_roundg i;case measure=>omega
      case rel=>exact⟨n1,n2+1,g1,l::k9,by omega,rfl,HSK.out,WG.out,HM6.out,by have :=th.out;omega,by have :=jw.out;omega,abo.out⟩
     |succ n=>
      have ov:n<S.list.length:=(by omega)
      have dP:IntKind.i64.wrap (((n+1:Nat):Int)-1)=(n:Int):=by rw[IntKind.wrap_i64];omega
      have qj:decide ((n:Int)<0)=false:=aah (by omega);obtain⟨gc,jv,x0,-,-⟩:=(HH.out.keep HF.out).qz (n:=n) (by rw[Eu];exact ov);have mV:=aa ((HH.out.keep HF.out).ql n (by rw[Eu];exact ov));have eE:=HH.out.qC (n:=n) (by rw[Eu];exact ov);have jU:=fun k hk=>lz.out.lit (n:=n) (k:=k) hk;have yE:=lz.out.lb n;rw[eE]at jU yE;obtain⟨⟨A9,c9,l9,b9,t9⟩,GS⟩:∃x,L.cs[n]! =x:=⟨_,rfl⟩
      rw[GS]at x0 mV eE jU yE;simp only[Cw.rc]at x0 mV eE jU yE;have Jm:=aa jU;have sl:n<L.cs.length:=(by omega)
      have c3:=HF.out.aN FA.out;rw[jv]at c3;have HSK:Hid (Sv.dL S (S.T.lits.take i).reverse (l9.map tv++g1) k9=Ts):=by have :=eF.out;rw[Sv.Nz (by rw[HV.out];exact HGM.out) (by rw[HV.out,abe.out];exact hz) (by rw[HV.out,HR.out];omega),HV.out,HR.out,show(((n+1:Nat):Int)-1).toNat=n from by omega,eE]at this;exact this
      have X9:Hid (Ints w A9 c9 l9):=by have :=HH.out.ql n sl;rw[GS]at this;exact this
      clear eE jU GS hz jv;go_wp2_with fail;refine KR.out.mono ?_;clear KR;rintro e w5 ⟨rfl,rfl⟩;go_wp2_with fail;clear c0 c3 x0 dP qj mV;go_loopg [78] l9.length (fun g2 x78 wi=>∃(j:Nat),j+g2=l9.length/\x78= .int .i64 j/\Hid (rI wi bg (n1+j) ((l9.take j).map tv++g1))/\Hid (rI wi bm n2 k9)/\Hid (Fr [] w wi));case atStart=>exact⟨0,by omega,rfl,HG.out,HT.out,HF.out⟩
      case round=>
       obtain⟨j,hj,rfl,HGi,HTi,HFi⟩:=hrel;have HJ:=aa hj;have M1:j<=l9.length:=(by omega)
       clear hj;by_cases bw:j<l9.length
       ·obtain⟨jX,iP,lE⟩:=Jm.out j bw;obtain⟨gb,hA9,uy⟩:=X9.out.pos bw;subst hA9;have cy:=(X9.out.fD HFi.out).cell bw;obtain⟨y,hy⟩:∃y,l9[j]! =y:=⟨_,rfl⟩
        rw[hy]at jX iP lE cy;have hty:=O3 iP lE lx;obtain⟨rF,nO⟩:=wR iP lE lx;obtain⟨ty,YX⟩:∃ty,tv y=ty:=⟨_,rfl⟩
        rw[YX]at hty rF;obtain⟨w6,iV,hm6,gW⟩:=HGi.out.store (v:=ty) (by have :=th.out;unfold maxLen;omega) ⟨by omega,by omega⟩;have HM6:Hid (rI w6 bg (n1+(j+1)) ((l9.take (j+1)).map tv++g1)):=hm6.congr (fun x=>by have :=BF bw g1 x;rw[hy,YX]at this;exact this);have HT6:=aa (HTi.out.fr gW (by simp;have :=Ll.out;omega));have abo:Hid (Fr [] w w6):=HFi.out.trans gW (fun k hk=>by simp at hk;subst hk;right;have :=HBG.out;omega);clear hm6 gW YX hy;go_wp2_with fail;go_roundg (gk-1);case measure=>have :=HJ.out;omega
        case rel=>exact⟨j+1,by have :=HJ.out;omega,by go_num,HM6.out,HT6.out,abo.out⟩
       ·obtain rfl :j=l9.length:=by omega
        have HGE:Hid (rI wr bg (n1+l9.length) (l9.map tv++g1)):=by have :=HGi.out;rw[cN]at this;exact this
        clear HJ HGi;go_wp2_with fail;go_roundg i;case measure=>omega
        case rel=>exact⟨n1+l9.length,n2,l9.map tv++g1,k9,by omega,rfl,HSK.out,HGE.out,HTi.out,by have :=th.out;omega,by have :=jw.out;omega,HFi.out⟩
   ·have jZ:=HG.out.look (v:=v) ⟨by omega,by omega⟩;have sq:decide (v∈g1)=false:=aah hg;rw[sq]at jZ;have HSK:Hid (Sv.dL S (S.T.lits.take i).reverse g1 k9=Ts):=by have :=eF.out;rw[Sv.uD (.inl (by rw[HV.out];exact hg))]at this;exact this
    clear hg sq;go_wp2_with fail;go_roundg i;case measure=>omega
    case rel=>exact⟨n1,n2,g1,k9,by omega,rfl,HSK.out,HG.out,HT.out,by have :=th.out;omega,by have :=jw.out;omega,HF.out⟩
def CU (w:World) (L:aO) (A:Option Addr) (us:List Int):Prop:=Rd w A us/\(0<us.length->L.gN A)
theorem B8 {w:World} {L L':aO} {A:Option Addr} (he:L.ext L' w) (hf:L.gN A) (hb:∀k,k∈ak A->k<w.heap.size):L'.gN A:=fun k hk e=>
 hf k hk (he.2.2 k (hb k hk) (e.trans he.2.1))
theorem CU.step {w w':World} {L L':aO} {A:Option Addr} {us:List Int} (h:CU w L A us) (he:L.ext L' w) (hf:Fr (L.own w) w w'):CU w' L' A us:=by refine⟨fun h0=> ?_,fun h0=>B8 he (h.2 h0) (h.1.blk h0)⟩;exact(h.1.frF hf (fun k hk=>aO.nI (h.2 h0 k hk))) h0
theorem CU.keep {w w':World} {L:aO} {A:Option Addr} {us:List Int} (h:CU w L A us) (hf:Fr [] w w'):CU w' L A us:=⟨h.1.keep hf,h.2⟩
theorem rt (w:World) (L:aO) (S:Sv) (h:aX w L S) (m:Nat) (ok:S.Ok m) (hd:S.T.levels.length<17592186044416):
  Calls Tryz.prog 173 #[.pointer (some ⟨L.tL.a,0,none⟩)] w fun e w'=>(∃x,e= .returned x)/\∃L',aX w' L' S.deep/\L.ext L' w/\Fr (L.own w) w w':=by
 obtain⟨R,hR⟩:=ok.tr;have hs:=hR.size;refine(A8 w L.tL S.T h.tr (by omega) hd).mono ?_;rintro e w' ⟨rfl,tL',h1,h2,h3⟩;exact⟨⟨_,rfl⟩,h.vZ h1 h2 h3⟩
theorem mM (w:World) (L:aO) (S:Sv) (h:aX w L S) (m:Nat) (ok:S.Ok m) (l r:Int) (h0: -(S.vars:Int)<=l) (h1:l<=S.vars):
  Calls Tryz.prog 87 #[.pointer (some ⟨L.tL.a,0,none⟩), .int .i64 l, .int .i64 r] w fun e w'=>(∃x,e= .returned x)/\∃L',aX w' L' (S.put l r)/\L.ext L' w/\Fr (L.own w) w w':=by
 have hl:=ok.ic;have hv:=ok.vl;refine(tm w L.tL S.T h.tr l r (by omega) (by omega) (by omega)).mono ?_;rintro e w' ⟨rfl,tL',h1,h2,h3⟩;exact⟨⟨_,rfl⟩,h.vZ h1 h2 h3⟩
namespace Sv
theorem Ok.deep {S:Sv} {m:Nat} (ok:S.Ok m):S.deep.Ok m:=by obtain⟨R,hR⟩:=ok.tr;refine⟨ok.vl,⟨R,?_⟩,ok.hi,ok.hl,ok.ph,ok.wl,ok.ll,ok.wb,ok.wt,ok.lr,ok.ln,ok.lb,ok.hd,ok.rs⟩;have :=hR.deep;simpa[Sv.deep,Tr.xP]using this
theorem dQ (S:Sv):S.deep.T.levels.length=S.T.levels.length+1:=by simp[Sv.deep,Tr.xP]
theorem dO (S:Sv) (l r:Int):(S.put l r).T.levels=S.T.levels:=by unfold Sv.put;simp only;split<;>rfl
theorem Ok.choose {S:Sv} {m:Nat} (ok:S.Ok m):S.choose.1.Ok m/\S.choose.1.vars=S.vars/\S.choose.1.list=S.list/\S.choose.1.T.levels.length<=S.T.levels.length+1:=by
 have hp:=ok.pick;unfold Sv.choose;split
 ·exact⟨hp.1.keep,hp.2.2.1,hp.2.2.2.1,by show S.pick.1.T.levels.length<=_;rw[hp.2.1];omega⟩
 ·refine⟨hp.1.deep.put ⟨by omega,by omega⟩,hp.2.2.1,hp.2.2.2.1,?_⟩;rw[dO,dQ,hp.2.1];omega
theorem Cg {S:Sv} {us:List Int} {f:Nat} (h:¬S.T.levels.length<us.length):bz us f S=S.choose:=by
 cases f with
 |zero=>rfl
 |succ f=>rw[bz,aac h]
theorem Ok.bz {us:List Int} {m:Nat}:∀(f:Nat) (S:Sv),S.Ok m->(Sv.bz us f S).1.Ok m/\(Sv.bz us f S).1.vars=S.vars/\(Sv.bz us f S).1.list=S.list/\(Sv.bz us f S).1.T.levels.length<=max S.T.levels.length us.length+1
 |0,S,ok=>by
  have h:=ok.choose;exact⟨h.1,h.2.1,h.2.2.1,by have :=h.2.2.2;show S.choose.1.T.levels.length<=_;omega⟩
 |f+1,S,ok=>by
  rw[Sv.bz];split
  ·rename_i bw;simp only;split
   ·exact⟨ok.pJ _,rfl,rfl,by show S.T.levels.length<=_;omega⟩
   ·split
    ·refine⟨ok.deep.put ⟨by omega,by omega⟩,rfl,rfl,?_⟩;rw[dO,dQ];omega
    ·have ih:=Ok.bz (us:=us) f S.deep ok.deep;refine⟨ih.1,ih.2.1,ih.2.2.1,?_⟩;have :=ih.2.2.2;rw[dQ]at this;omega
  ·have h:=ok.choose;exact⟨h.1,h.2.1,h.2.2.1,by have :=h.2.2.2;omega⟩
theorem Ok.aR {S:Sv} {m:Nat} (ok:S.Ok m) (us:List Int):(S.aR us).1.Ok m/\(S.aR us).1.vars=S.vars/\(S.aR us).1.list=S.list/\(S.aR us).1.T.levels.length<=max S.T.levels.length us.length+1:=Ok.bz _ S ok
end Sv
theorem kJ (w:World) (L:aO) (S:Sv) (h:aX w L S) (m:Nat) (ok:S.Ok m) (A:Option Addr) (c:Nat) (us:List Int) (ta:CU w L A us) (Am:∀x∈us,-(S.vars:Int)<=x/\x<=S.vars) (zc:us.length<=1099511627776) (gZ:S.core=[]) (Nb:S.T.levels.length<=4398046511104):
  Calls Tryz.prog 140 #[.pointer (some ⟨L.a,0,none⟩), .slice A us.length c] w (pz (.int .i64 (S.aR us).2) (S.aR us).1 L w):=by
 obtain⟨cT,de⟩:∃cT,S.aR us=cT:=⟨_,rfl⟩
 have dM:Hid (Sv.bz us (us.length+1) S=cT):=de;rw[de];have na:Hid (∀(S':Sv) (r:Int),cT=(S',r)->∀W L',aX W L' S'->L.ext L' w->Fr (L.own w) w W->pz (.int .i64 cT.2) cT.1 L w (.returned (.int .i64 r)) W):=fun S' r e W L' g1 g2 g3=>by subst e;exact⟨rfl,L',g1,g2,g3⟩
 have HH:=aa h;have lz:=aa ok;have HRD:=aa ta;have Ty:=aa Am;have HCO:=aa gZ;have lx:=ok.vl;clear de h ok ta Am gZ;go_enter Tryz.func140,Tryz.ntmps140;go_wp2_with fail;go_loopg [] (us.length+1) (fun g wr=>∃(S1:Sv) (L1:aO),Hid (Sv.bz us g S1=cT)/\us.length+1<=g+S1.T.levels.length/\S1.T.levels.length<=8796093022208/\Hid (S1.vars=S.vars)/\Hid (S1.core=[])/\Hid (S1.Ok m)/\Hid (aX wr L1 S1)/\Hid (L.ext L1 w)/\Hid (Fr (L.own w) w wr));case atStart=>exact⟨S,L,dM.out,by omega,by omega,rfl,HCO.out,lz.out,HH.out,aO.cv _ _,Fr.refl _ _⟩
 case round=>
  obtain⟨S1,L1,tf,hg,FJ,HV1,qr,kt,H1,fa,dI⟩:=hrel;have HG:=aa hg;have mB:L1.a=L.a:=fa.out.1;obtain⟨c0,-⟩:=H1.out.cells;rw[mB]at c0;have HEA:=aa mB;have vS:=aa c0;have KD:=aa (lO wr L1.tL S1.T H1.out.tr);obtain⟨d,hd⟩:∃d,S1.T.levels.length=d:=⟨_,rfl⟩
  rw[hd]at KD FJ;have HD:=aa hd;have zE:=aa (HRD.out.step fa.out dI.out);clear mB hg hd;have jL:S1.vars=S.vars:=HV1.out;by_cases bw:d<us.length
  ·obtain⟨f,rfl⟩:∃f,gk=f+1:=⟨gk-1,by have :=HG.out;have :=HD.out;omega⟩
   have aa8:Hid (Ra us):=(eD (p:=eh)).2 fun x hx=>by have :=Ty.out x hx;constructor<;>omega
   obtain⟨b,o,x,hA,he,cx,fN,gd⟩:=zE.out.1.one aa8.out bw;subst hA;have hxb:=Ty.out x (by rw[<-he.out];exact a8 bw);obtain⟨y,hy⟩:∃y,S1.T.lB x=y:=⟨_,rfl⟩
   have KV:=aa (ee wr L1.tL S1.T H1.out.tr x fN gd kt.out.small);rw[hy]at KV;have HY:Hid (S1.val us[S1.T.levels.length]! =y):=by show _=_;rw[HD.out,he.out];exact hy
   clear hy;by_cases iP:y= -1
   ·subst iP;have Av:(((-1:Int))==(-1:Int))=true:=rfl;have KB:=aa (E9 wr L1 S1 H1.out m kt.out x (by omega) (by omega) (some ⟨b,o,none⟩) c us zE.out.1 (fun z hz=>by have :=Ty.out z hz;omega) zc (zE.out.2 (by omega)) qr.out);rw[HEA.out]at KB;have HK:Hid (cT=(S1.yd x us,2)):=by have :=tf.out;rw[Sv.bz,aae (by rw[HD.out];exact bw)]at this;simp only at this;rw[aae HY.out,HD.out,he.out]at this;exact this.symm
    go_wp2_with fail;refine KD.out.mono ?_;rintro e w2 ⟨rfl,rfl⟩;go_wp2_with fail;refine KD.out.mono ?_;rintro e w2 ⟨rfl,rfl⟩;go_wp2_with fail;refine KV.out.mono ?_;rintro e w2 ⟨rfl,rfl⟩;go_wp2_with fail;refine KB.out.mono ?_;rintro e w2 ⟨rfl,L2,h2,jM,bW⟩;have FF:=aa (na.out _ 2 HK.out w2 L2 h2 (aO.aV fa.out jM dI.out.size) (aO.aQ fa.out dI.out bW));clear KB KV KD h2 jM bW c0 cx;go_wp2_with fail;go_ret;exact FF.out
   ·by_cases jX:y=0
    ·subst jX;have R0:=aa (rt wr L1 S1 H1.out m kt.out (by rw[HD.out];omega));have HK:Hid (cT=(S1.deep.put x 0,0)):=by have :=tf.out;rw[Sv.bz,aae (by rw[HD.out];exact bw)]at this;simp only at this;rw[aac (by rw[HY.out];decide),aae HY.out,HD.out,he.out]at this;exact this.symm
     go_wp2_with fail;refine KD.out.mono ?_;rintro e w2 ⟨rfl,rfl⟩;go_wp2_with fail;refine KD.out.mono ?_;rintro e w2 ⟨rfl,rfl⟩;go_wp2_with fail;refine KV.out.mono ?_;rintro e w2 ⟨rfl,rfl⟩;go_wp2_with fail;refine R0.out.mono ?_;rintro e w2 ⟨⟨x2,rfl⟩,L2,h2,jM,bW⟩;have H2:=aa h2;have dn:=aa (aO.aV fa.out jM dI.out.size);have cw:=aa (aO.aQ fa.out dI.out bW);obtain⟨c0,-⟩:=H2.out.cells;rw[dn.out.1]at c0;have KP:=aa (mM w2 L2 S1.deep H2.out m kt.out.deep x 0 (by show -(S1.vars:Int)<=x;omega) (by show x<=(S1.vars:Int);omega));clear R0 KV KD h2 jM bW cx;go_wp2_with fail;refine KP.out.mono ?_;rintro e w3 ⟨⟨x3,rfl⟩,L3,h3,yF,dh⟩;have FF:=aa (na.out _ 0 HK.out w3 L3 h3 (aO.aV dn.out yF cw.out.size) (aO.aQ dn.out cw.out dh));clear KP h3 yF dh c0;go_wp2_with fail;go_ret;exact FF.out
    ·have Av:(y==(-1:Int))=false:=(by simp[iP])
     have hd0:(y==(0:Int))=false:=(by simp[jX])
     have R0:=aa (rt wr L1 S1 H1.out m kt.out (by rw[HD.out];omega));have HK:Hid (Sv.bz us f S1.deep=cT):=by have :=tf.out;rw[Sv.bz,aae (by rw[HD.out];exact bw)]at this;simp only at this;rw[aac (by rw[HY.out];exact iP),aac (by rw[HY.out];exact jX)]at this;exact this
     go_wp2_with fail;refine KD.out.mono ?_;rintro e w2 ⟨rfl,rfl⟩;go_wp2_with fail;refine KD.out.mono ?_;rintro e w2 ⟨rfl,rfl⟩;go_wp2_with fail;refine KV.out.mono ?_;rintro e w2 ⟨rfl,rfl⟩;go_wp2_with fail;refine R0.out.mono ?_;rintro e w2 ⟨⟨x2,rfl⟩,L2,h2,jM,bW⟩;have H2:=aa h2;have dn:=aa (aO.aV fa.out jM dI.out.size);have cw:=aa (aO.aQ fa.out dI.out bW);have aeK:S1.deep.T.levels.length<=8796093022208:=by rw[Sv.dQ,HD.out];omega
     have anA:=aa aeK;clear R0 KV KD h2 jM bW cx aeK;go_wp2_with fail;go_roundg f;case measure=>omega
     case rel=>exact⟨S1.deep,L2,HK.out,by have :=HG.out;rw[Sv.dQ];omega,anA.out,HV1.out,qr.out,kt.out.deep,H2.out,dn.out,cw.out⟩
  ·have HK:Hid (cT=S1.choose):=by have :=tf.out;rw[Sv.Cg (by rw[HD.out];exact bw)]at this;exact this.symm
   have KP:=aa (Gq wr L1 S1 H1.out m kt.out);rw[HEA.out]at KP;have Se:=aa kt.out.pick;obtain⟨PK,hPK⟩:∃PK,S1.pick=PK:=⟨_,rfl⟩
   have QU:S1.choose=if PK.2=0 then(PK.1.keep,1)else(PK.1.deep.put PK.2 0,0):=by unfold Sv.choose;rw[hPK]
   rw[hPK]at KP Se;obtain⟨S2,p⟩:=PK;simp only at QU KP Se;have HCH:=aa QU;clear QU hPK;go_wp2_with fail;refine KD.out.mono ?_;rintro e w2 ⟨rfl,rfl⟩;go_wp2_with fail;refine KP.out.mono ?_;rintro e w2 ⟨rfl,L2,h2,jM,bW⟩;have H2:=aa h2;have dn:=aa (aO.aV fa.out jM dI.out.size);have cw:=aa (aO.aQ fa.out dI.out bW);have Zn:S2.vars=S1.vars:=Se.out.2.2.1;have adO:S2.T.levels.length<=8796093022208:=by rw[Se.out.2.1,HD.out];exact FJ
   have hpr:=Se.out.2.2.2.2.2;obtain⟨c0,-⟩:=H2.out.cells;rw[dn.out.1]at c0;clear KP KD h2 jM bW;by_cases Qj:p=0
   ·subst Qj;have HK:Hid (cT=(S2.keep,1)):=by have :=HCH.out;rw[aae rfl]at this;exact HK.out.trans this
    have KK:=aa (GN w2 L2 S2 H2.out m Se.out.1);rw[dn.out.1]at KK;clear Zn adO hpr;go_wp2_with fail;refine KK.out.mono ?_;rintro e w3 ⟨rfl,L3,h3,yF,dh⟩;have FF:=aa (na.out _ 1 HK.out w3 L3 h3 (aO.aV dn.out yF cw.out.size) (aO.aQ dn.out cw.out dh));clear KK h3 yF dh c0;go_wp2_with fail;go_ret;exact FF.out
   ·have hpb:(p==(0:Int))=false:=by simp[Qj]
    have HK:Hid (cT=(S2.deep.put p 0,0)):=by have :=HCH.out;rw[aac Qj]at this;exact HK.out.trans this
    have R0:=aa (rt w2 L2 S2 H2.out m Se.out.1 (by omega));have HP1:Hid (-(S2.vars:Int)<=p/\p<=S2.vars):=by rw[Zn];exact hpr
    clear Zn adO hpr;go_wp2_with fail;refine R0.out.mono ?_;rintro e w3 ⟨⟨x3,rfl⟩,L3,h3,yF,dh⟩;have H3:=aa h3;have iU:=aa (aO.aV dn.out yF cw.out.size);have db:=aa (aO.aQ dn.out cw.out dh);obtain⟨c0,-⟩:=H3.out.cells;rw[iU.out.1]at c0;have KPU:=aa (mM w3 L3 S2.deep H3.out m Se.out.1.deep p 0 HP1.out.1 HP1.out.2);clear R0 h3 yF dh;go_wp2_with fail;refine KPU.out.mono ?_;rintro e w4 ⟨⟨x4,rfl⟩,L4,h4,XG,eS⟩;have FF:=aa (na.out _ 0 HK.out w4 L4 h4 (aO.aV iU.out XG db.out.size) (aO.aQ iU.out db.out eS));clear KPU h4 XG eS c0;go_wp2_with fail;go_ret;exact FF.out
namespace Sv
def rest (S:Sv):Hp×Nat×List Bool×List Bool×List Int×Nat×Nat×Int×Nat×Bool×Bool×List Int×Nat:=
 (S.H,S.vars,S.phase,S.model,S.core,S.used,S.bump,S.many,S.bQ,S.bad,S.has,S.T.levels,S.list.length)
theorem zZ (S:Sv) (n:Nat) (l:List Int):(S.eI n l).rest=S.rest:=by simp[rest,eI]
theorem pO (S:Sv) (n:Nat) (l:List Nat):(S.cm n l).rest=S.rest:=rfl
theorem LJ (S:Sv) (n k:Nat):(S.ii n k).rest=S.rest:=rfl
theorem Pr (S:Sv) (l r:Int):(S.put l r).rest=S.rest:=by unfold rest;rw[dO];rfl
theorem Gi (S:Sv) (n:Nat):(S.dz n).1.rest=S.rest:=by
 unfold dz pP;split
 ·rw[LJ,zZ]
 ·rfl
theorem lQ (S:Sv) (n:Nat) (off:Int):(S.cP n off).rest=S.rest:=by
 unfold cP;split
 ·rw[zZ]
 ·rfl
theorem wD (S:Sv) (n:Nat) (off:Int):(S.dg n off).1.rest=S.rest:=by
 unfold dg;split
 ·rfl
 ·unfold fZ;simp only;split
  ·exact lQ S n off
  ·split
   ·rw[Gi,lQ]
   ·split
    ·exact lQ S n off
    ·rw[Pr,lQ]
theorem o6 (off:Int):∀(ws keep:List Nat) (S:Sv),(bU off ws keep S).1.rest=S.rest
 |[],keep,S=>by rw[bU,pO]
 |n::r,keep,S=>by
  rw[bU];try simp only
  split
  ·rw[o6 off r,wD]
  ·rw[pO,wD]
theorem xD {S:Sv} {f:Nat} (h:S.head<S.T.lits.length):di (f+1) S=
  if(bU (-(S.T.lits[S.head]!)) (S.fY (aS (-(S.T.lits[S.head]!)))) [] (S.cm (aS (-(S.T.lits[S.head]!))) [])).2.isSome=true
  then((bU (-(S.T.lits[S.head]!)) (S.fY (aS (-(S.T.lits[S.head]!)))) [] (S.cm (aS (-(S.T.lits[S.head]!))) [])).1,(bU (-(S.T.lits[S.head]!)) (S.fY (aS (-(S.T.lits[S.head]!)))) [] (S.cm (aS (-(S.T.lits[S.head]!))) [])).2)
  else di f { (bU (-(S.T.lits[S.head]!)) (S.fY (aS (-(S.T.lits[S.head]!)))) [] (S.cm (aS (-(S.T.lits[S.head]!))) [])).1 with head:=(bU (-(S.T.lits[S.head]!)) (S.fY (aS (-(S.T.lits[S.head]!)))) [] (S.cm (aS (-(S.T.lits[S.head]!))) [])).1.head+1 }:=by
 simp only[di];rw[aae h];generalize bU (-(S.T.lits[S.head]!)) (S.fY (aS (-(S.T.lits[S.head]!)))) [] (S.cm (aS (-(S.T.lits[S.head]!))) [])=q;obtain⟨S1,o⟩:=q;cases o<;>simp
theorem Ok.di:∀(f:Nat) (S:Sv),S.Ok 0->(Sv.di f S).1.Ok 0/\(Sv.di f S).1.rest=S.rest/\∀n,(Sv.di f S).2=some n->n<S.list.length
 |0,S,ok=>⟨ok,rfl,fun n h=>by cases h⟩
 |f+1,S,ok=>by
  by_cases h:S.head<S.T.lits.length
  ·rw[xD h];generalize ho: -(S.T.lits[S.head]!)=off;have hb:=ok.pK h;have hc:aS off<S.watch.length:=by rw[ok.wl];exact gX (by omega) (by omega)
   have o2:(S.cm (aS off) []).Ok (([]:List Nat).length+(S.fY (aS off)).length):=ok.cm hc (fun n hn=>by cases hn) (by simp);have hv:=o2.oU off (S.fY (aS off)) [] _ (fun n hn=>ok.wb _ n hn) (fun n hn=>by cases hn) (by show _<(S.watch.set _ _).length;rw[ao];exact hc);have hr:=o6 off (S.fY (aS off)) [] (S.cm (aS off) []);have hl:=lM off (S.fY (aS off)) [] (S.cm (aS off) []);rw[pO]at hr;generalize bU off (S.fY (aS off)) [] (S.cm (aS off) [])=q at *;split
   ·exact⟨hv.1,hr,hv.2.2.2.2⟩
   ·have o:=hv.1;have hh:q.1.head=S.head:=hv.2.2.1;have m6:S.T.lits.length<=q.1.T.lits.length:=hl;have ok9:({ q.1 with head:=q.1.head+1 }:Sv).Ok 0:=⟨o.vl,o.tr,o.hi,o.hl,o.ph,o.wl,o.ll,o.wb,o.wt,o.lr,o.ln,o.lb,by show q.1.head+1<=q.1.T.lits.length;omega,o.rs⟩
    have ih:=Ok.di f _ ok9;have hl3:q.1.list.length=S.list.length:=hv.2.2.2.1;exact⟨ih.1,ih.2.1.trans hr,fun n hn=>by have :=ih.2.2 n hn;show n<_;have e:({ q.1 with head:=q.1.head+1 }:Sv).list.length=S.list.length:=hl3;omega⟩
  ·rw[nR h];exact⟨ok,rfl,fun n h=>by cases h⟩
theorem Ok.follow {S:Sv} (ok:S.Ok 0):S.follow.1.Ok 0/\S.follow.1.rest=S.rest/\∀n,S.follow.2=some n->n<S.list.length:=Ok.di _ S ok
theorem yf (level:Int):∀(r:List Int) (S:Sv),(dY level r S).core=S.core/\(dY level r S).used=S.used/\(dY level r S).many=S.many/\(dY level r S).bQ=S.bQ/\(dY level r S).bad=S.bad/\(dY level r S).T=S.T/\(dY level r S).bump=S.bump
 |[],S=>⟨rfl,rfl,rfl,rfl,rfl,rfl,rfl⟩
 |l::r,S=>by
  rw[dY];split
  ·exact⟨rfl,rfl,rfl,rfl,rfl,rfl,rfl⟩
  ·exact yf level r _
theorem jF (S:Sv) (level:Nat):(S.back level).core=S.core/\(S.back level).used=S.used/\(S.back level).many=S.many/\(S.back level).bQ=S.bQ/\(S.back level).bad=S.bad/\(S.back level).T.levels.length<=S.T.levels.length/\(S.back level).bump=S.bump:=by
 unfold back;split
 ·exact⟨rfl,rfl,rfl,rfl,rfl,ap _,rfl⟩
 ·have h:=yf level S.T.lits.reverse S;refine⟨h.1,h.2.1,h.2.2.1,h.2.2.2.1,h.2.2.2.2.1,?_,h.2.2.2.2.2.2⟩;try simp only
  rw[h.2.2.2.2.2.1];simp only[Tr.df];try split
  all_goals first |exact ap _ | (simp only[Tr.xS,bp];omega)
theorem qW:∀(f:Nat) (S:Sv),(cQ f S).1.core=S.core/\(cQ f S).1.used=S.used/\(cQ f S).1.many=S.many/\(cQ f S).1.bQ=S.bQ/\(cQ f S).1.bad=S.bad
 |0,S=>⟨rfl,rfl,rfl,rfl,rfl⟩
 |f+1,S=>by
  rw[cQ];split
  ·exact⟨rfl,rfl,rfl,rfl,rfl⟩
  ·simp only;split
   ·exact qW f _
   ·exact⟨rfl,rfl,rfl,rfl,rfl⟩
theorem gI (S:Sv):S.choose.1.core=S.core/\S.choose.1.used=S.used/\S.choose.1.many=S.many/\S.choose.1.bQ=S.bQ/\S.choose.1.bad=S.bad:=by
 have h:=qW (S.H.items.length+1) S;unfold choose;split
 ·exact h
 ·exact h
theorem sH (us:List Int):∀(f:Nat) (S:Sv),((bz us f S).2=0->(bz us f S).1.core=S.core)/\(bz us f S).1.used=S.used/\(bz us f S).1.many=S.many/\(bz us f S).1.bQ=S.bQ/\(bz us f S).1.bad=S.bad
 |0,S=>⟨fun _=>(gI S).1,(gI S).2⟩
 |f+1,S=>by
  rw[bz];split
  ·simp only;split
   ·exact⟨fun h=>by simp at h,rfl,rfl,rfl,rfl⟩
   ·split
    ·exact⟨fun _=>rfl,rfl,rfl,rfl,rfl⟩
    ·exact sH us f _
  ·exact⟨fun _=>(gI S).1,(gI S).2⟩
end Sv
theorem oZ {T:Tr} {f k:Nat} {l:List Int} {ct:Int} (h:¬k<l.length):Sv.second T f k l ct=(l,ct):=by
 cases f with
 |zero=>rfl
 |succ f=>rw[Sv.second,aac h]
theorem LE {T:Tr} {f k:Nat} {l:List Int} {ct:Int} (h:k<l.length) (hv:ct<T.dp (tv l[k]!)):Sv.second T (f+1) k l ct=Sv.second T f (k+1) (cS l 1 k) (T.dp (tv l[k]!)):=by rw[Sv.second,aae h,aae hv]
theorem LF {T:Tr} {f k:Nat} {l:List Int} {ct:Int} (h:k<l.length) (hv:¬ct<T.dp (tv l[k]!)):Sv.second T (f+1) k l ct=Sv.second T f (k+1) l ct:=by rw[Sv.second,aae h,aac hv]
theorem rS (w:World) (L:aO) (S:Sv) (h:aX w L S) (m:Nat) (ok:S.Ok m) (A:Option Addr) (c:Nat) (l:List Int) (hi:Ints w A c l) (hA:∀k,k∈ak A->(L.cY k).1≠L.id) (xm:∀x∈l,-(S.vars:Int)<=x/\x<=S.vars) (hlen:l.length<=17592186044416):
  Calls Tryz.prog 201 #[.pointer (some ⟨L.a,0,none⟩), .slice A l.length c] w fun e w'=>e= .returned (.int .i64 (Sv.second S.T l.length 1 l 0).2)/\Ints w' A c (Sv.second S.T l.length 1 l 0).1/\Fr (ak A) w w':=by
 obtain⟨cT,de⟩:∃cT,Sv.second S.T l.length 1 l 0=cT:=⟨_,rfl⟩
 rw[de];have na:Hid (∀(l1:List Int) (r:Int),(l1,r)=cT->∀W,Ints W A c l1->Fr (ak A) w W->(Ending.returned (.int .i64 r)= .returned (.int .i64 cT.2)/\Ints W A c cT.1/\Fr (ak A) w W)):=fun l1 r e W g1 g2=>by subst e;exact⟨rfl,g1,g2⟩
 have dM:=aa de;have lx:=ok.vl;obtain⟨c0,-⟩:=h.cells;have vS:=aa c0;have HI:=aa hi;have sV:=aa xm;have Yc:Hid (L.a∉ak A):=fun hm=>hA _ hm (by rw[h.t0]);have HTR:Hid (∀W,Fr (ak A) w W->TrAt W L.tL S.T):=fun W hW=>h.tr.fr hW (fun k hk hm=>hA _ hm (by rw[h.t1 k hk]));clear de h ok hi hA xm c0;go_enter Tryz.func201,Tryz.ntmps201;go_wp2_with fail;go_loopg [5,6] l.length (fun g x5 x6 wr=>∃(k:Nat) (l1:List Int) (ct:Int),k+g=l.length+1/\1<=k/\x5= .int .i64 ct/\x6= .int .i64 k/\Hid (Sv.second S.T g k l1 ct=cT)/\Hid (l1.length=l.length)/\Hid (∀x∈l1,-(S.vars:Int)<=x/\x<=S.vars)/\Hid (Ints wr A c l1)/\Hid (Fr (ak A) w wr));case atStart=>exact⟨1,l,0,by omega,by omega,rfl,rfl,dM.out,rfl,sV.out,HI.out,Fr.refl _ _⟩
 case round=>
  obtain⟨k,l1,ct,hk,Id,rfl,rfl,HR,HL,HB,Sx,HF⟩:=hrel;have HK:=aa hk;have oJ:k<=l.length+1:=by omega
  clear hk;by_cases bw:k<l.length
  ·obtain⟨f,rfl⟩:∃f,gk=f+1:=⟨gk-1,by have :=HK.out;omega⟩
   have QA:k<l1.length:=by rw[HL.out];exact bw
   have Jl:=aa QA;obtain⟨gb,CT,uy⟩:=Sx.out.pos QA;subst CT;have c0:=HF.out.bK Yc.out vS.out;have cy:=Sx.out.cell QA;obtain⟨y,hy⟩:∃y,l1[k]! =y:=⟨_,rfl⟩
   have Tc:=HB.out y (by rw[<-hy];exact get_mem QA);rw[hy]at cy;have HY:=aa hy;obtain⟨iP,lE⟩:=Tc;obtain⟨rF,nO⟩:=wR iP lE lx;have e0:=Ext.cell c0;have ey:=Ext.cell cy;obtain⟨lv,mj⟩:∃lv,S.T.dp (tv y)=lv:=⟨_,rfl⟩
   have Sp:=aa mj;have KV:=aa (fun u:Ext wr=>jQ u.v L.tL S.T ((HTR.out wr HF.out).fr u.fr (by simp)) (tv y));simp only[mj]at KV;clear hy mj QA uy;by_cases hgt:ct<lv
   ·have hd:decide (ct<lv)=true:=aai hgt;have qc:Hid (Sv.second S.T f (k+1) (cS l1 1 k) lv=cT):=by have :=HR.out;rw[LE Jl.out (by rw[HY.out,Sp.out];exact hgt),HY.out,Sp.out]at this;exact this
    clear hgt;go_wp2_with fail;refine au (by kernel_rfl) (by kernel_rfl) ?_;repeat (go_big_quiet_step (exact bh (KV.out _)))
    refine aak ?_;rintro w2 ⟨u2,b8⟩;have bj:Hid (Fr [] wr w2):=b8▸u2.fr;clear b8 u2;clear e0 ey c0 cy rF nO;have oo:=aa (HF.out.ag (bj.out.mono (fun k hk=>by cases hk)));have nZ:=aa (Sx.out.fD bj.out);have cy:=nZ.out.cell Jl.out;have c1:=nZ.out.cell (i:=1) (by have :=Jl.out;omega);rw[HY.out]at cy;obtain⟨z,hz⟩:∃z,l1[1]! =z:=⟨_,rfl⟩
    rw[hz]at c1;have HZ:=aa hz;have f1:=nZ.out.frozen 1;have fk:=nZ.out.frozen k;have zd:1<l.length:=(by omega)
    have FN:=(nZ.out.eu 1 y).drew;have cA:=FN.cell (i:=k) (by rw[ao];exact Jl.out);have eA:(l1.set 1 y)[k]! =y:=by
     rw[ef];split
     ·rfl
     ·exact HY.out
    rw[eA]at cA;have fA:=FN.frozen k;clear hz FN eA;go_upto_region 8 with fail;go_region;have tZ:=aa (((nZ.out.eu 1 l1[k]!).eu k l1[1]!).drew);rw[HY.out,HZ.out]at tZ;have Jg:Hid (Ints ((w2.setCell ⟨gb,1,none⟩ (.int .i64 y)).setCell ⟨gb,k,none⟩ (.int .i64 z)).drew (some ⟨gb,0,none⟩) c (cS l1 1 k)):=by have :=tZ.out;unfold cS;rw[HY.out,HZ.out];exact this
    have cw:Hid (Fr (ak (some ⟨gb,0,none⟩)) w ((w2.setCell ⟨gb,1,none⟩ (.int .i64 y)).setCell ⟨gb,k,none⟩ (.int .i64 z)).drew):=((oo.out.setCell (.inl (by simp[ak])) _).setCell (.inl (by simp[ak])) _).drew;clear cy c1 f1 fk cA fA;go_wp2_with fail;go_roundg f;case measure=>omega
    case rel=>exact⟨k+1,cS l1 1 k,lv,by have :=HK.out;omega,by omega,rfl,by go_num,qc.out,by rw[fO];exact HL.out,fun x hx=>HB.out x (rR (by have :=Jl.out;omega) Jl.out hx),Jg.out,cw.out⟩
   ·have hd:decide (ct<lv)=false:=aah hgt;have qc:Hid (Sv.second S.T f (k+1) l1 ct=cT):=by have :=HR.out;rw[LF Jl.out (by rw[HY.out,Sp.out];exact hgt)]at this;exact this
    clear hgt;go_wp2_with fail;refine au (by kernel_rfl) (by kernel_rfl) ?_;repeat (go_big_quiet_step (exact bh (KV.out _)))
    refine aak ?_;rintro w2 ⟨u2,b8⟩;have bj:Hid (Fr [] wr w2):=b8▸u2.fr;clear b8 u2;clear e0 ey c0 cy rF nO;have oo:=aa (HF.out.ag (bj.out.mono (fun k hk=>by cases hk)));have nZ:=aa (Sx.out.fD bj.out);go_wp2_with fail;go_roundg f;case measure=>omega
    case rel=>exact⟨k+1,l1,ct,by have :=HK.out;omega,by omega,rfl,by go_num,qc.out,HL.out,HB.out,nZ.out,oo.out⟩
  ·have HE:Hid ((l1,ct)=cT):=by have :=HR.out;rw[oZ (by rw[HL.out];exact bw)]at this;exact this
   have FF:=aa (na.out _ _ HE.out wr Sx.out HF.out);clear HR HB;go_wp2_with fail;go_ret;exact FF.out
theorem aX.M8 {w w':World} {L:aO} {S:Sv} (h:aX w L S) {H':Hp} (ht:cI w' L.hL H') (hf:Fr L.hL.fp w w'):aX w' L { S with H:=H' }:=by
 have hF:∀k,k∈L.hL.fp->k<w.heap.size->L.cY k=(L.id,2,0):=fun k hk _=>h.t2 k hk;have o:=h.off (P:=(· =(2,0))) hf (fun k hk hl=>⟨_,rfl,hF k hk hl⟩);exact⟨o.obj (by decide),o.tr (by decide),ht,h.iQ,h.Cb,h.B9,o.vt (by decide),o.rws (by decide),o.vp (by decide),o.yz (by decide),o.uQ (by decide),fun n hn=>o.ql n hn (by simp),fun n hn=>o.sD n hn (by simp),
  h.t0,h.t1,h.t2,h.t3,h.t4,h.t5,h.t6,h.t7,h.t8,h.t9⟩
structure ma where
 gb:Nat
 bm:Nat
 A:Option Addr
 c:Nat
def ma.own (X:ma):List Nat:=X.gb::X.bm::ak X.A
structure iw (w:World) (L:aO) (X:ma) (n:Nat) (G:Sv.Gr):Prop where
 sv:aX w L G.S
 obj:At w X.gb 223 #[.pointer (some ⟨L.a,0,none⟩), .map (some X.bm), .int .i64 G.fP, .slice X.A G.bt.length X.c]
 sn:rI w X.bm n G.seen
 ln:Ints w X.A X.c G.bt
 f1:(L.cY X.gb).1≠L.id
 f2:(L.cY X.bm).1≠L.id
 f3:∀k,k∈ak X.A->(L.cY k).1≠L.id
 fs:∀k,w.heap.size<=k->(L.cY k).1≠L.id
 d12:X.gb≠X.bm
 d3:∀k,k∈ak X.A->k≠X.gb/\k≠X.bm
theorem iw.gN {w:World} {L:aO} {X:ma} {n:Nat} {G:Sv.Gr} (h:iw w L X n G):∀k,k∈X.own->(L.cY k).1≠L.id:=by
 intro k hk;simp only[ma.own,av]at hk;rcases hk with rfl |rfl |hk
 ·exact h.f1
 ·exact h.f2
 ·exact h.f3 k hk
theorem iw.keep {w w':World} {L:aO} {X:ma} {n:Nat} {G:Sv.Gr} (h:iw w L X n G) (hf:Fr [] w w'):iw w' L X n G:=
 ⟨h.sv.keep hf,h.obj.keep hf,h.sn.keep hf,h.ln.fD hf,h.f1,h.f2,h.f3,fun k hk=>h.fs k (aE hf.size hk),h.d12,h.d3⟩
theorem iw.acL {w w':World} {L:aO} {X:ma} {n n':Nat} {G:Sv.Gr} {s:List Int} (h:iw w L X n G) (hm:rI w' X.bm n' s) (hf:Fr [X.bm] w w'):iw w' L X n' { G with seen:=s }:=
 ⟨h.sv.fr hf (fun k hk _=>by simp at hk;subst hk;exact h.f2),hf.at_ h.obj (by simpa using h.d12),hm,h.ln.fr hf (fun k hk hm=>by simp at hm;exact(h.d3 k hk).2 hm),h.f1,h.f2,h.f3,fun k hk=>h.fs k (aE hf.size hk),h.d12,h.d3⟩
theorem iw.aeE {w w':World} {L:aO} {X:ma} {n:Nat} {G:Sv.Gr} {H':Hp} (h:iw w L X n G) (hp:cI w' L.hL H') (hf:Fr L.hL.fp w w'):iw w' L X n { G with S:={ G.S with H:=H' } }:=
 have hn:∀k,k∈X.own->k∉L.hL.fp:=fun k hk hm=>h.gN k hk (by rw[h.sv.t2 k hm])
 ⟨h.sv.M8 hp hf,hf.at_ h.obj (hn _ (by simp[ma.own])),h.sn.fr hf (hn _ (by simp[ma.own])),h.ln.fr hf (fun k hk=>hn _ (by simp[ma.own,hk])),h.f1,h.f2,h.f3,fun k hk=>h.fs k (aE hf.size hk),h.d12,h.d3⟩
theorem iw.YG {w:World} {L:aO} {X:ma} {n:Nat} {G:Sv.Gr} (h:iw w L X n G) (v:Int):iw (w.setCell ⟨X.gb,2,none⟩ (.int .i64 v)) L X n { G with fP:=v }:=by have hf:Fr [X.gb] w (w.setCell ⟨X.gb,2,none⟩ (.int .i64 v)):=(Fr.refl _ w).setCell (.inl (by simp)) _;refine⟨h.sv.fr hf (fun k hk _=>by simp at hk;subst hk;exact h.f1),?_,h.sn.fr hf (by simpa using h.d12.symm),h.ln.fr hf (fun k hk hm=>by simp at hm;exact(h.d3 k hk).1 hm),h.f1,h.f2,h.f3,fun k hk=>h.fs k (aE hf.size hk),h.d12,h.d3⟩;have :=h.obj.eu 2 (.int .i64 v);simpa using this
theorem iw.YN {w w1:World} {L:aO} {X:ma} {n:Nat} {G:Sv.Gr} (h:iw w L X n G) {A':Option Addr} {c':Nat} {ls:List Int} (hi:Ints w1 A' c' ls) (hf:Fr (ak X.A) w w1) (hA:∀k,k∈ak A'->k∈ak X.A\/w.heap.size<=k):
  iw (w1.setCell ⟨X.gb,3,none⟩ (.slice A' ls.length c')) L ⟨X.gb,X.bm,A',c'⟩ n { G with bt:=ls }:=by
 have bW:Fr (X.gb::ak X.A) w (w1.setCell ⟨X.gb,3,none⟩ (.slice A' ls.length c')):=(hf.mono (fun k hk=> .inl (by simp[hk]))).setCell (.inl (by simp)) _;have hF:∀k,k∈X.gb::ak X.A->(L.cY k).1≠L.id:=fun k hk=>h.gN k (by simp only[ma.own,av]at hk⊢;rcases hk with hk |hk<;>simp[hk]);have h3:∀k,k∈ak A'->k≠X.gb/\k≠X.bm:=fun k hk=>by
  rcases hA k hk with h1 |h1
  ·exact h.d3 k h1
  ·have :=h.obj.lt;have :=h.sn.lt;omega
 refine⟨h.sv.fr bW (fun k hk _=>hF k hk),?_,h.sn.fr bW (by simp only[av,not_or];exact⟨h.d12.symm,fun hk=>(h.d3 _ hk).2 rfl⟩),?_,h.f1,h.f2,fun k hk=> ?_,fun k hk=>h.fs k (aE bW.size hk),h.d12,h3⟩
 ·have :=(hf.at_ h.obj (fun hk=>(h.d3 _ hk).1 rfl)).eu 3 (.slice A' ls.length c');simpa using this
 ·exact hi.gN (p:=⟨X.gb,3,none⟩) (fun hk=>(h3 _ hk).1 rfl) _
 ·rcases hA k hk with h1 |h1
  ·exact h.f3 k h1
  ·exact h.fs k h1
namespace Sv
def raise (S:Sv) (v:Int):Sv:={ S with H:=mg S.H v S.bump }
theorem Ok.raise {S:Sv} {m:Nat} (ok:S.Ok m) (v:Int):(S.raise v).Ok m:=by
 have hh:HI (mg S.H v S.bump)/\(mg S.H v S.bump).at_.length=S.H.at_.length:=by
  unfold mg;split
  ·rename_i hb;obtain⟨h1,h2,h3,h4⟩:=hb;have :=ok.hi.raise h1 h2 h3 h4;exact⟨this.1,this.2.2.2.1⟩
  ·exact⟨ok.hi,rfl⟩
 exact⟨ok.vl,ok.tr,hh.1,hh.2.trans ok.hl,ok.ph,ok.wl,ok.ll,ok.wb,ok.wt,ok.lr,ok.ln,ok.lb,ok.hd,ok.rs⟩
theorem jK {G:Sv.Gr} {l:Int} (h:tv l∈G.seen\/G.S.T.dp (tv l)<=0):meet G l=G:=by unfold meet;simp only;rw[aae h]
theorem gT {G:Sv.Gr} {l:Int} (h:¬(tv l∈G.seen\/G.S.T.dp (tv l)<=0)) (h2:G.S.T.dp (tv l)=G.S.T.levels.length):meet G l={ G with S:=G.S.raise (tv l),seen:=tv l::G.seen,fP:=G.fP+1 }:=by unfold meet raise;simp only;rw[aac h,aae h2]
theorem jb {G:Sv.Gr} {l:Int} (h:¬(tv l∈G.seen\/G.S.T.dp (tv l)<=0)) (h2:¬G.S.T.dp (tv l)=G.S.T.levels.length):meet G l={ G with S:=G.S.raise (tv l),seen:=tv l::G.seen,bt:=G.bt++[l] }:=by unfold meet raise;simp only;rw[aac h,aac h2]
theorem Ok.meet {G:Sv.Gr} {m:Nat} (ok:G.S.Ok m) (l:Int):(meet G l).S.Ok m:=by
 by_cases h:tv l∈G.seen\/G.S.T.dp (tv l)<=0
 ·rw[jK h];exact ok
 ·by_cases h2:G.S.T.dp (tv l)=G.S.T.levels.length
  ·rw[gT h h2];exact ok.raise _
  ·rw[jb h h2];exact ok.raise _
theorem Ag (G:Sv.Gr) (l:Int):(meet G l).S.T=G.S.T/\(meet G l).S.vars=G.S.vars/\(meet G l).S.list=G.S.list/\(meet G l).S.used=G.S.used/\(meet G l).fP<=G.fP+1/\G.fP<=(meet G l).fP/\(meet G l).bt.length<=G.bt.length+1:=by
 by_cases h:tv l∈G.seen\/G.S.T.dp (tv l)<=0
 ·rw[jK h];exact⟨rfl,rfl,rfl,rfl,by omega,by omega,by omega⟩
 ·by_cases h2:G.S.T.dp (tv l)=G.S.T.levels.length
  ·rw[gT h h2];exact⟨rfl,rfl,rfl,rfl,by simp,by simp;omega,by simp⟩
  ·rw[jb h h2];exact⟨rfl,rfl,rfl,rfl,by simp;omega,by simp,by simp⟩
end Sv
def MtP (G':Sv.Gr) (L:aO) (X:ma) (n:Nat) (w:World) (e:Ending) (w':World):Prop:=
 e= .returned (.tuple #[])/\∃(X':ma) (n':Nat),iw w' L X' n' G'/\n'<=n+1/\X'.gb=X.gb/\X'.bm=X.bm/\(∀k,k∈ak X'.A->k∈ak X.A\/w.heap.size<=k)/\Fr (X.own++L.hL.fp) w w'
theorem Gz (w:World) (L:aO) (X:ma) (n:Nat) (G:Sv.Gr) (h:iw w L X n G) (m:Nat) (ok:G.S.Ok m) (l:Int) (h0: -(G.S.vars:Int)<=l) (h1:l<=G.S.vars) (hn:n<maxLen) (hle:G.bt.length<17592186044416) (ho: -4611686018427387904<=G.fP) (ho2:G.fP<4611686018427387904):
  Calls Tryz.prog 199 #[.pointer (some ⟨X.gb,0,none⟩), .int .i64 l] w (MtP (Sv.meet G l) L X n w):=by
 have lx:=ok.vl;obtain⟨cT,de⟩:∃cT,Sv.meet G l=cT:=⟨_,rfl⟩
 rw[de];have dM:=aa de;obtain⟨v,hv⟩:∃v,tv l=v:=⟨_,rfl⟩
 obtain⟨rF,nO⟩:=wR h0 h1 lx;have xg:=O3 h0 h1 lx;rw[hv]at rF xg;have HV:=aa hv;have HG:=aa h;have lz:=aa ok;have g0:=h.obj.cell 0;have g1:=h.obj.cell 1;simp only[cU,cM,co]at g0 g1;obtain⟨c0,c1,-,-,-,-,-,-,-,-,c10,-⟩:=h.sv.cells;have vS:=aa c0;have qr:=aa c1;have anJ:=aa c10;have FV:=aa g0;have HG1:=aa g1;clear de hv;by_cases hs:v∈G.seen
 ·have jZ:=h.sn.look (v:=v) ⟨by omega,by omega⟩;have sq:decide (v∈G.seen)=true:=aai hs;rw[sq]at jZ;have HR:Hid (cT=G):=by rw[<-dM.out];exact Sv.jK (.inl (by rw[HV.out];exact hs))
  have hr:=HR.out.symm;subst hr;have FF:Hid (MtP G L X n w (.returned (.tuple #[])) w):=⟨rfl,X,n,HG.out,by omega,rfl,rfl,fun k hk=> .inl hk,Fr.refl _ _⟩
  clear hs sq h ok;go_enter Tryz.func199,Tryz.ntmps199;go_wp2_with fail;refine bodyPost_ret (results_none rfl _ _ _) rfl ?_;exact FF.out
 ·have jZ:=h.sn.look (v:=v) ⟨by omega,by omega⟩;have sq:decide (v∈G.seen)=false:=aah hs;rw[sq]at jZ;have KV:=aa (jQ w L.tL G.S.T h.sv.tr v);obtain⟨lv,mj⟩:∃lv,G.S.T.dp v=lv:=⟨_,rfl⟩
  rw[mj]at KV;have Sp:=aa mj;have HS:=aa hs;clear sq mj hs;by_cases hz:lv<=0
  ·have hd:decide (lv<=0)=true:=aai hz;have HR:Hid (cT=G):=by rw[<-dM.out];exact Sv.jK (.inr (by rw[HV.out,Sp.out];exact hz))
   have hr:=HR.out.symm;subst hr;have FF:Hid (MtP G L X n w (.returned (.tuple #[])) w):=⟨rfl,X,n,HG.out,by omega,rfl,rfl,fun k hk=> .inl hk,Fr.refl _ _⟩
   clear hz h ok;go_enter Tryz.func199,Tryz.ntmps199;go_wp2_with fail;refine KV.out.mono ?_;clear KV;rintro e w1 ⟨rfl,rfl⟩;go_wp2_with fail;refine bodyPost_ret (results_none rfl _ _ _) rfl ?_;exact FF.out
  ·have hd:decide (lv<=0)=false:=aah hz;have Yc:Hid (¬(tv l∈G.seen\/G.S.T.dp (tv l)<=0)):=by
    rw[HV.out];show ¬_;rintro(h5 |h5)
    ·exact HS.out h5
    ·rw[Sp.out]at h5;exact hz h5
   obtain⟨w1,Ka,mz,cX⟩:=h.sn.store (v:=v) hn ⟨by omega,by omega⟩;have TF:=aa (h.acL mz cX);have dI:=aa cX;have HGB:Hid (X.gb∉[X.bm]):=by show ¬_;simpa using h.d12
   have zI:Hid (L.a∉[X.bm]):=by show ¬_;simp only[ai];intro e;exact h.f2 (by rw[<-e,h.sv.t0])
   have WP:=aa (cX.bK HGB.out FV.out);have zJ:=aa (cX.bK zI.out qr.out);have OS:=aa (cX.bK zI.out vS.out);have abu:=aa (cX.bK zI.out anJ.out);have KR:=aa (fun W (hW:Fr [] w1 W)=>EC W L.hL G.S.H (TF.out.sv.hp.fr hW (by simp)) lz.out.hi v (G.S.bump:Int));clear hz h ok mz cX;go_enter Tryz.func199,Tryz.ntmps199;go_wp2_with fail;refine KV.out.mono ?_;clear KV;rintro e w2 ⟨rfl,rfl⟩;clear jZ;go_upto_region 3 with fail;clear Ka g0 g1 c0 c1 c10 rF nO;refine aam ?_;refine bi (fun w':World=>Fr [] w1 w') 15 (by kernel_rfl) ((Fr.refl [] w1).drew) (fun cZ=> ?_);apply TB 15 [(0,[]),(1,[]),(2,[]),(3,[3,4,5,6,15]),(4,[]),(5,[]),(6,[6,15]),(7,[]),(8,[]),(9,[]),(10,[]),(11,[11,12,13,14,15]),(12,[]),(13,[]),(14,[14,15])];kernel_rfl;rfl;· (repeat (apply eH;rfl;rfl;(· intro w bl;(try(have bl:=bl.resolve_left (aF _ _);(have s0:=bl.aN WP.out;have s1:=bl.aN zJ.out;have s2:=bl.aN abu.out)));go_simp<;>with_reducible rfl);try simp only[Act.put,q5,q6,q7]));exact eG
   exact cZ;intro cZ;refine R2 15 (by kernel_rfl) (by rfl) cZ fun K hK aw=> ?_
   (go_simp;refine(KR.out _ aw).mono ?_;rintro e w5 ⟨rfl,hp5,ev⟩;dsimp only)
   refine hK.out _ _ (.inl rfl) (fun mQ=> ?_);clear hK K;try simp only[Act.put,q5,q6,q7]
   refine aD (by kernel_rfl) ?_ _;refine NoPanic.normal ?_;have OU:=aa ((TF.out.keep aw).aeE hp5 ev);have db:Hid (Fr (X.own++L.hL.fp) w w5):=((dI.out.mono (fun k hk=> .inl (by simp at hk;simp[ma.own,hk]))).ag (aw.mono (fun k hk=>by cases hk))).ag (ev.mono (fun k hk=> .inl (by simp[hk])));clear hp5 ev KR;have g0:=OU.out.obj.cell 0;simp only[cU,co]at g0;obtain⟨c0,-⟩:=OU.out.sv.cells;have e0:=Ext.cell c0;have eg:=Ext.cell g0;have KV:=aa (fun u:Ext w5=>jQ u.v L.tL G.S.T (OU.out.sv.tr.fr u.fr (by simp)) v);have KD:=aa (fun u:Ext w5=>lO u.v L.tL G.S.T (OU.out.sv.tr.fr u.fr (by simp)));simp only[Sp.out]at KV;obtain⟨d,hde⟩:∃d,G.S.T.levels.length=d:=⟨_,rfl⟩
   simp only[hde]at KD;have SL:=aa hde;clear hde;by_cases heq:lv=(d:Int)
   ·have hdd:(lv==(d:Int))=true:=by simp[heq]
    have HR:Hid (cT={ G with S:=G.S.raise v,seen:=v::G.seen,fP:=G.fP+1 }):=by rw[<-dM.out,Sv.gT Yc.out (by rw[HV.out,Sp.out,SL.out];exact heq),HV.out];rfl
    clear heq;go_wp2_with fail;refine au (by kernel_rfl) (by kernel_rfl) ?_;repeat (go_big_quiet_step (first |exact bh (KV.out _) |exact bh (KD.out _)))
    refine aak ?_;rintro w6 ⟨u2,b8⟩;have Fw:Hid (Fr [] w5 w6):=b8▸u2.fr;clear b8 u2;clear e0 eg g0 c0;have m9:=aa (OU.out.keep Fw.out);have gY:=aa (db.out.ag (Fw.out.mono (fun k hk=>by cases hk)));have g2:=m9.out.obj.cell 2;have fz:=m9.out.obj.frozen 2;simp only[cU,cM,co]at g2;have dP:IntKind.i64.wrap (G.fP+1)=G.fP+1:=IntWalk.i64_in _ (by omega);have FF:Hid (MtP cT L X n w (.returned (.tuple #[])) (w6.setCell ⟨X.gb,2,none⟩ (.int .i64 (G.fP+1)))):=
     ⟨rfl,X,n+1,by rw[HR.out];exact m9.out.YG (G.fP+1),ap _,rfl,rfl,fun k hk=> .inl hk,gY.out.setCell (.inl (by simp[ma.own])) _⟩
    go_wp2_with fail;refine bodyPost_ret (results_none rfl _ _ _) rfl ?_;exact FF.out
   ·have hdd:(lv==(d:Int))=false:=by simp[heq]
    have HR:Hid (cT={ G with S:=G.S.raise v,seen:=v::G.seen,bt:=G.bt++[l] }):=by rw[<-dM.out,Sv.jb Yc.out (by rw[HV.out,Sp.out,SL.out];exact heq),HV.out];rfl
    clear heq;go_wp2_with fail;refine au (by kernel_rfl) (by kernel_rfl) ?_;repeat (go_big_quiet_step (first |exact bh (KV.out _) |exact bh (KD.out _)))
    refine aak ?_;rintro w6 ⟨u2,b8⟩;have Fw:Hid (Fr [] w5 w6):=b8▸u2.fr;clear b8 u2;clear e0 eg g0 c0;have m9:=aa (OU.out.keep Fw.out);have gY:=aa (db.out.ag (Fw.out.mono (fun k hk=>by cases hk)));have g3:=m9.out.obj.cell 3;simp only[cU,cM,co]at g3;have oP:=aa g3;have SU:Hid (Fr [] w6 (w6.alloc (.cells #[.int .i64 l] 3))):=aH _ _;have SP:Hid ((w6.alloc (.cells #[.int .i64 l] 3)).cell? ⟨w6.heap.size,0,none⟩=some (.int .i64 l)):=(At.new w6 _ _).cell 0;have Sx:=aa (m9.out.ln.fD SU.out);have mE:Hid (∀w7,Fr (ak X.A) (w6.alloc (.cells #[.int .i64 l] 3)) w7->w7.cell? ⟨X.gb,3,none⟩=some (.slice X.A G.bt.length X.c)/\w7.frozen? ⟨X.gb,3,none⟩=false):=fun w7 gy=>by have yB:X.gb∉ak X.A:=fun hk=>(m9.out.d3 _ hk).1 rfl;have g3':=SU.out.aN oP.out;have f3':=(m9.out.keep SU.out).obj.frozen 3;exact⟨gy.bK yB g3',(World.frozen?_of_block (gy.block X.gb (bM g3') yB)).trans f3'⟩
    have Yh:Hid (G.bt.length<17592186044416):=hle;go_wp2_with (at_builtin;(refine dd _ rfl _ _ rfl X.A X.c G.bt _ rfl rfl Sx.out ⟨w6.heap.size,0,none⟩ 1 l rfl SP.out Yh.out ?_;intro g7 afn w7 BT gy hg7 sY;obtain⟨s7,f7⟩:=mE.out w7 gy))
    have Z9:Fr (ak X.A) w6 w7:=(SU.out.mono (fun k hk=>by cases hk)).ag gy;have hA7:∀k,k∈ak (some (⟨g7,0,none⟩:Addr))->k∈ak X.A\/w6.heap.size<=k:=fun k hk=>by
     simp[ak]at hk;subst hk;rcases hg7 with h5 |h5
     ·exact .inl h5
     ·right
      rw[h5];simp
    have hB7:=m9.out.YN BT Z9 hA7;rw[aj,bN]at hB7;have hz6:w.heap.size<=w6.heap.size:=gY.out.size;have FF:=aa (show MtP cT L X n w (.returned (.tuple #[])) (w7.setCell ⟨X.gb,3,none⟩ (.slice (some ⟨g7,0,none⟩) (G.bt.length+1) afn))from
     ⟨rfl,⟨X.gb,X.bm,some ⟨g7,0,none⟩,afn⟩,n+1,by rw[HR.out];exact hB7,ap _,rfl,rfl,fun k hk=>(hA7 k hk).imp id (fun h5=>aE hz6 h5),(gY.out.ag (Z9.mono (fun k hk=> .inl (by simp[ma.own,hk])))).setCell (.inl (by simp[ma.own])) _⟩)
    clear hB7 BT gy hg7 sY Z9 hA7 hz6;go_wp2_with fail;refine bodyPost_ret (results_none rfl _ _ _) rfl ?_;exact FF.out
theorem aX.act {w:World} {L:aO} {S:Sv} (h:aX w L S) {n:Nat} (hn:n<L.cs.length) {gc:Nat} (jv:L.cA=some ⟨gc,0,none⟩) (x:Int):
  w.frozen? ⟨gc,n*3+2,none⟩=false/\aX (w.setCell ⟨gc,n*3+2,none⟩ (.int .i64 x)) { L with cs:=L.cs.set n { L.cs[n]! with act:=x } } { S with list:=S.list.set n { S.rc n with act:=x } }/\
   Fr [gc] w (w.setCell ⟨gc,n*3+2,none⟩ (.int .i64 x))/\(L.cY gc).1=L.id:=by
 have r:=h.vt;unfold sS at r;rw[jv]at r;have lf:L.cY gc=(L.id,3,0):=h.t3 gc (by rw[jv];simp[ak]);have hf:Fr [gc] w (w.setCell ⟨gc,n*3+2,none⟩ (.int .i64 x)):=(Fr.refl _ w).setCell (.inl (by simp)) _;have o:=h.off (P:=(· =(3,0))) hf (fun k hk hl=>⟨_,rfl,by simp at hk;subst hk;exact lf⟩);have gU:=(World.ownsRow.stored r (n*3+2) (.int .i64 x)).1;have eE:=h.qC hn;have qi:∀j:Nat,(L.cs.set n { L.cs[n]! with act:=x })[j]! =if n=j/\n<L.cs.length then{ L.cs[n]! with act:=x }else L.cs[j]! :=fun j=>ef _ _ _ _;have hA:∀j:Nat,((L.cs.set n { L.cs[n]! with act:=x })[j]!).A=(L.cs[j]!).A/\((L.cs.set n { L.cs[n]! with act:=x })[j]!).c=(L.cs[j]!).c/\((L.cs.set n { L.cs[n]! with act:=x })[j]!).lits=(L.cs[j]!).lits:=fun j=>by
  rw[qi];split
  ·rename_i e;rw[e.1];exact⟨rfl,rfl,rfl⟩
  ·exact⟨rfl,rfl,rfl⟩
 refine⟨World.ownsRow.frozenAt r _,⟨?_,o.tr (by decide),o.hp (by decide),h.iQ,?_,h.B9,?_,o.rws (by decide),o.vp (by decide),o.yz (by decide),o.uQ (by decide),fun j hj=> ?_,fun c hc=>o.sD c hc (by simp),
  h.t0,h.t1,h.t2,h.t3,h.t4,h.t5,h.t6,h.t7,fun j hj k hk=> ?_,h.t9⟩,hf,by rw[lf]⟩
 ·have :=o.obj (by decide);simp only[pM,ao]at this⊢;exact this
 ·simp only;rw[<-h.Cb,List.map_set];congr 1;rw[eE];rfl
 ·unfold sS;obtain⟨g0,g1,g2⟩:=mS L.cs n hn;have e:(fq L.cs).set (n*3+2) (.int .i64 x)=fq (L.cs.set n { L.cs[n]! with act:=x }):=by rw[<-pW L.cs n _ hn];simp only;rw[kW g0,kW g1]
  simp only[ao];rw[<-e,jv];exact gU
 ·simp only[ao]at hj;obtain⟨e1,e2,e3⟩:=hA j;simp only;rw[e1,e2,e3];exact o.ql j hj (by simp)
 ·simp only[ao]at hj;simp only at hk;rw[(hA j).1]at hk;exact h.t8 j hj k hk
theorem iw.act {w:World} {L:aO} {X:ma} {nm:Nat} {G:Sv.Gr} (h:iw w L X nm G) {n:Nat} (hn:n<L.cs.length) {gc:Nat} (jv:L.cA=some ⟨gc,0,none⟩) (x:Int):
  iw (w.setCell ⟨gc,n*3+2,none⟩ (.int .i64 x)).drew { L with cs:=L.cs.set n { L.cs[n]! with act:=x } } X nm { G with S:={ G.S with list:=G.S.list.set n { G.S.rc n with act:=x } } }:=by
 obtain⟨h1,h2,h3,h4⟩:=h.sv.act hn jv x;have hn:∀k,k∈X.own->k∉[gc]:=fun k hk hm=>h.gN k hk (by simp at hm;rw[hm];exact h4);have h5:=h2.keep (Fr.refl [] _).drew;have h6:=h3.drew;exact⟨h5,h6.at_ h.obj (hn _ (by simp[ma.own])),h.sn.fr h6 (hn _ (by simp[ma.own])),h.ln.fr h6 (fun k hk=>hn _ (by simp[ma.own,hk])),h.f1,h.f2,h.f3,fun k hk=>h.fs k (aE h6.size hk),h.d12,h.d3⟩
theorem iw.new {w:World} {L:aO} {S:Sv} (h:aX w L S):
  iw (((w.alloc (.map #[] 0)).alloc (.cells #[.int .i64 0] 3)).alloc (.cells #[.pointer (some ⟨L.a,0,none⟩), .map (some w.heap.size), .int .i64 0, .slice (some ⟨w.heap.size+1,0,none⟩) 1 1] 223)) (L.shut w)
   ⟨w.heap.size+1+1,w.heap.size,some ⟨w.heap.size+1,0,none⟩,1⟩ 0 ⟨S,[],0,[0]⟩:=by
 have cX:Fr [] w (w.alloc (.map #[] 0)):=aH _ _;have bW:Fr [] (w.alloc (.map #[] 0)) ((w.alloc (.map #[] 0)).alloc (.cells #[.int .i64 0] 3)):=aH _ _;have dh:Fr [] ((w.alloc (.map #[] 0)).alloc (.cells #[.int .i64 0] 3)) (((w.alloc (.map #[] 0)).alloc (.cells #[.int .i64 0] 3)).alloc (.cells #[.pointer (some ⟨L.a,0,none⟩), .map (some w.heap.size), .int .i64 0, .slice (some ⟨w.heap.size+1,0,none⟩) 1 1] 223)):=aH _ _;have lF:∀k,w.heap.size<=k->((L.shut w).cY k).1≠(L.shut w).id:=fun k hk=>aO.jR hk;refine⟨h.shut.keep ((cX.ag bW).ag dh),?_,(rI.new w).keep (bW.ag dh),?_,lF _ (by simp only;omega),lF _ (ap _),fun k hk=>lF k (by simp[ak]at hk;omega),fun k hk=>lF k (aE ((cX.ag bW).ag dh).size hk),by simp only;omega,fun k hk=>by simp[ak]at hk;subst hk;simp⟩
 ·have :=At.new ((w.alloc (.map #[] 0)).alloc (.cells #[.int .i64 0] 3)) 223 #[.pointer (some ⟨L.a,0,none⟩), .map (some w.heap.size), .int .i64 0, .slice (some ⟨w.heap.size+1,0,none⟩) 1 1];rwa[show((w.alloc (.map #[] 0)).alloc (.cells #[.int .i64 0] 3)).heap.size=w.heap.size+1+1 from by simp]at this
 ·have :Ints ((w.alloc (.map #[] 0)).alloc (.cells #[.int .i64 0] 3)) (some ⟨(w.alloc (.map #[] 0)).heap.size,0,none⟩) 1 [0]:=World.ownsRow_lit (w.alloc (.map #[] 0)) #[.int .i64 0] 1 (bR _) (by simp[maxLen]) (by simp);rw[show(w.alloc (.map #[] 0)).heap.size=w.heap.size+1 from by simp]at this;exact this.fD dh
theorem iw.eI {w:World} {L:aO} {X:ma} {n:Nat} {G:Sv.Gr} (h:iw w L X n G) {ga:Nat} (hA:X.A=some ⟨ga,0,none⟩) (v:Int):iw (w.setCell ⟨ga,0,none⟩ (.int .i64 v)) L X n { G with bt:=G.bt.set 0 v }:=by
 have pu:ga∈ak X.A:=by rw[hA];simp[ak]
 have hf:Fr [ga] w (w.setCell ⟨ga,0,none⟩ (.int .i64 v)):=(Fr.refl _ w).setCell (.inl (by simp)) _;have hd:=h.d3 ga pu;have hl:=h.ln;rw[hA]at hl;refine⟨h.sv.fr hf (fun k hk _=>by simp at hk;subst hk;exact h.f3 _ pu),?_,h.sn.fr hf (by simpa using hd.2.symm),?_,h.f1,h.f2,h.f3,fun k hk=>h.fs k (aE hf.size hk),h.d12,h.d3⟩
 ·have :=hf.at_ h.obj (by simpa using hd.1.symm);simpa using this
 ·rw[hA];exact hl.eu 0 v
theorem iw.YD {w wr w':World} {L L1:aO} {X:ma} {n:Nat} {G:Sv.Gr} (h:iw wr L1 X n G) (he:L.ext L1 w) (hF:Fr (L.own w) w wr) (hX:∀k,k∈X.own->w.heap.size<=k) (hf:Fr (X.own++L1.hL.fp) wr w'):Fr (L.own w) w w':=
 hF.trans hf fun k hk=>by
  rcases bv k w.heap.size with hl |hl
  ·left
   rw[aO.bT];refine⟨hl,?_⟩;rcases ah.1 hk with h1 |h1
   ·have :=hX k h1;omega
   ·exact he.2.2 k hl (by rw[h.sv.t2 k h1];exact he.2.1)
  ·exact .inr hl
theorem gu (T:Tr):∀(f k:Nat) (l:List Int) (ct:Int),(Sv.second T f k l ct).1.length=l.length
 |0,k,l,ct=>rfl
 |f+1,k,l,ct=>by
  rw[Sv.second];split
  ·split
   ·rw[gu T f,fO]
   ·rw[gu T f]
  ·rfl
namespace Sv
def dA (G:Gr) (n skip:Int):Gr:=if 0<=n then meets skip (G.S.rc n.toNat).lits { G with S:=G.S.gK n.toNat }else G
def dV (f:Nat) (G1:Gr) (rest:List Int):Option (Gr×Int):=
 match rest.dropWhile (fun x=>decide (tv x∉G1.seen))with
 |[]=>none
 |x::r=>if G1.fP-1=0 then some ({ G1 with fP:=G1.fP-1 },x)else eR f { G1 with fP:=G1.fP-1 } (G1.S.T.fy (tv x)-1) x r
theorem jz (f:Nat) (G:Gr) (n skip:Int) (rest:List Int):eR (f+1) G n skip rest=dV f (dA G n skip) rest:=by rw[eR];show _=dV f (dA G n skip) rest;unfold dV dA;simp only;cases List.dropWhile _ rest<;>rfl
theorem iO (G:Gr) (n skip:Int) (rest:List Int):eR 0 G n skip rest=none:=rfl
theorem wW (f:Nat) (G:Gr):dV f G []=none:=rfl
theorem ul {f:Nat} {G:Gr} {x:Int} {r:List Int} (h:tv x∉G.seen):dV f G (x::r)=dV f G r:=by unfold dV;rw[List.dropWhile_cons,aae (by simpa using h)]
theorem wX {f:Nat} {G:Gr} {x:Int} {r:List Int} (h:tv x∈G.seen) (ho:G.fP-1=0):dV f G (x::r)=some ({ G with fP:=G.fP-1 },x):=by unfold dV;rw[List.dropWhile_cons,aac (by simpa using h)];simp only;rw[aae ho]
theorem Ai {f:Nat} {G:Gr} {x:Int} {r:List Int} (h:tv x∈G.seen) (ho:¬G.fP-1=0):dV f G (x::r)=eR f { G with fP:=G.fP-1 } (G.S.T.fy (tv x)-1) x r:=by unfold dV;rw[List.dropWhile_cons,aac (by simpa using h)];simp only;rw[aac ho]
structure nY (S:Sv) (m:Nat) (G:Gr):Prop where
 T:G.S.T=S.T
 vars:G.S.vars=S.vars
 used:G.S.used=S.used
 len:G.S.list.length=S.list.length
 ok:G.S.Ok m
 lr:∀x∈G.bt,-(S.vars:Int)<=x/\x<=S.vars
 l0:0<G.bt.length
theorem nY.meet {S:Sv} {m:Nat} {G:Gr} (h:nY S m G) {l:Int} (hl: -(S.vars:Int)<=l/\l<=S.vars):nY S m (meet G l):=by
 have hs:=Ag G l;refine⟨hs.1.trans h.T,hs.2.1.trans h.vars,hs.2.2.2.1.trans h.used,by rw[hs.2.2.1];exact h.len,h.ok.meet l,?_,?_⟩
 ·by_cases h1:tv l∈G.seen\/G.S.T.dp (tv l)<=0
  ·rw[jK h1];exact h.lr
  ·by_cases h2:G.S.T.dp (tv l)=G.S.T.levels.length
   ·rw[gT h1 h2];exact h.lr
   ·rw[jb h1 h2];intro x hx;rcases ah.1 hx with hx |hx
    ·exact h.lr x hx
    ·simp at hx;rw[hx];exact hl
 ·by_cases h1:tv l∈G.seen\/G.S.T.dp (tv l)<=0
  ·rw[jK h1];exact h.l0
  ·by_cases h2:G.S.T.dp (tv l)=G.S.T.levels.length
   ·rw[gT h1 h2];exact h.l0
   ·rw[jb h1 h2];simp
theorem o9 (S:Sv) (n j:Nat):((S.gK n).rc j).lits=(S.rc j).lits/\(S.gK n).list.length=S.list.length:=by
 have :(S.gK n).rc j=if n=j/\n<S.list.length then{ S.rc n with act:=S.used }else S.rc j:=ef _ _ _ _;rw[this];constructor
 ·split
  ·rename_i e;rw[e.1]
  ·rfl
 ·simp[gK]
theorem Ok.gK {S:Sv} {m:Nat} (ok:S.Ok m) (n:Nat):(S.gK n).Ok m:=by have e:=fun j=>(o9 S n j).1;have el:=(o9 S n n).2;exact⟨ok.vl,ok.tr,ok.hi,ok.hl,ok.ph,ok.wl,by rw[el];exact ok.ll,fun c k hk=>by rw[el];exact ok.wb c k hk,by rw[el];exact ok.wt,fun j x hx=>by rw[e]at hx;exact ok.lr j x hx,fun j=>by rw[e];exact ok.ln j,fun j=>by rw[e];exact ok.lb j,ok.hd,fun v=>by rw[el];exact ok.rs v⟩
theorem nY.gK {S:Sv} {m:Nat} {G:Gr} (h:nY S m G) (n:Nat):nY S m { G with S:=G.S.gK n }:=
 ⟨h.T,h.vars,h.used,(o9 G.S n n).2.trans h.len,h.ok.gK n,h.lr,h.l0⟩
theorem nY.fP {S:Sv} {m:Nat} {G:Gr} (h:nY S m G) (v:Int):nY S m { G with fP:=v }:=⟨h.T,h.vars,h.used,h.len,h.ok,h.lr,h.l0⟩
end Sv
end Go.Proofs.YtjmmpfjcpdepjaaGreatDoor
