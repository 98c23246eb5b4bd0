/- Parts of a proof. -/
import Derived.Test.YtjmmpfjcpdepjaaGreatDoorGAQ
import Derived.Lib.Builder
import Derived.Shelf.Strings.Builder1
set_option linter.unusedVariables false
set_option linter.unusedSimpArgs false
set_option maxHeartbeats 16000000
set_option maxRecDepth 100000
namespace Go.Proofs.YtjmmpfjcpdepjaaGreatDoor
section
open Go.RowKit
theorem WS (x c:UInt8):((x.toNat:Int)==(c.toNat:Int))=(x==c):=by
 rw[Bool.eq_iff_iff];simp only[beq_iff_eq];constructor
 ·intro h;apply UInt8.toNat_inj.1;omega
 ·intro h;rw[h]
theorem Rz (w:World)(v:List UInt8)(Z:ByteArray)(hz:(⟨v.toArray⟩:ByteArray)=Z):RN (Lib.bytesWorld w 5 Z) w.heap.size v:=fun j hj=>by
 subst hz;have QI:j<(⟨v.toArray⟩:ByteArray).size:=by simpa[ByteArray.size]using hj
 rw[Lib.bytesWorld_cell w 5 _ j QI,ae,List.getD_eq_getElem?_getD];rfl
theorem Dn (w:World)(v:List UInt8)(l:Int)(h0:0<=l)(h1:l<=9000)(hv:v.length<=4096):
  Calls Tryz.prog 136 #[sv v, .int .i64 l] w fun e w'=>e= .returned (.bool (Wp.is v l))/\Fr [] w w':=by
 obtain⟨Z,hZ⟩:∃Z:ByteArray,(⟨v.toArray⟩:ByteArray)=Z:=⟨_,rfl⟩
 have hz:=pH hZ;have KO:=aa (fun c=>pI (Lib.bytesWorld w 5 Z) w.heap.size c v l (Rz w v Z hZ) h0 h1 hv);obtain⟨x,hx⟩:∃x,Wp.of v l=x:=⟨_,rfl⟩
 have HR:Hid (Wp.is v l=((x.toNat:Int)==49)):=by show _=_;unfold Wp.is;rw[hx];exact(WS x 49).symm
 rw[HR.out];rw[hx,<-hz]at KO;unfold sv;rw[hZ];have Oz:=Lib.run_convert_string_bytes (P:=Tryz.prog) w 9 143 5 Z Tryz.underlying9 Tryz.underlying143 Tryz.underlying5;have HF:=aa (sN w 5 Z);clear hx HR hZ hz;go_enter Tryz.func136,Tryz.ntmps136;go_wp2_with fail;refine(KO.out _).mono ?_;rintro e w2 ⟨rfl,rfl⟩;go_wp2_with fail;go_ret;exact⟨rfl,HF.out⟩
theorem yT (w:World)(p g c:Nat)(v:List UInt8)(l:Int)(hp:w.cell? ⟨p,0,none⟩=some (.slice (some ⟨g,0,none⟩) v.length c))(hb:RN w g v)(h0:0<=l)(h1:l<=9000)(hv:v.length<=4096):
  Calls Tryz.prog 166 #[.int .i64 l, .pointer (some ⟨p,0,none⟩)] w fun e w'=>e= .returned (.bool (Wp.is v l))/\Fr [] w w':=by
 have KO:=aa (pI w g c v l hb h0 h1 hv);obtain⟨x,hx⟩:∃x,Wp.of v l=x:=⟨_,rfl⟩
 have HR:Hid (Wp.is v l=((x.toNat:Int)==49)):=by show _=_;unfold Wp.is;rw[hx];exact(WS x 49).symm
 rw[HR.out];rw[hx]at KO;clear hx HR hb;go_enter Tryz.func166,Tryz.ntmps166;go_wp2_with fail;refine KO.out.mono ?_;rintro e w2 ⟨rfl,rfl⟩;go_wp2_with fail;go_ret;exact⟨rfl,Fr.refl _ _⟩
theorem xF:∀args w,(callFunc 166 args).run Tryz.prog w= .ok (.enter 166 args) w:=enters_of Tryz.func166 (by kernel_rfl) rfl
theorem Bk (w:World)(v:List UInt8)(A:Option Addr)(c:Nat)(l:List Int)(hr:Rd w A l)(hl:∀x∈l,0<=x/\x<=9000)(hn:l.length<=1048576)(hv:v.length<=4096):
  Calls Tryz.prog 135 #[sv v, .slice A l.length c] w fun e w'=>e= .returned (.bool (l.any (Wp.is v)))/\Fr [] w w':=by
 obtain⟨Z,hZ⟩:∃Z:ByteArray,(⟨v.toArray⟩:ByteArray)=Z:=⟨_,rfl⟩
 have hz:=pH hZ;have ON:=aa (Rz w v Z hZ);obtain⟨wb,fh⟩:∃W,Lib.bytesWorld w 5 Z=W:=⟨_,rfl⟩
 have Oz:=Lib.run_convert_string_bytes (P:=Tryz.prog) w 9 143 5 Z Tryz.underlying9 Tryz.underlying143 Tryz.underlying5;have hfb:=sN w 5 Z;rw[fh]at Oz hfb ON;obtain⟨cap,oy⟩:∃cap,grownCap w Z.size 0 5 =cap:=⟨_,rfl⟩
 rw[oy]at Oz;obtain⟨wc,hwc⟩:∃W,wb.alloc (.cells #[.slice (some ⟨w.heap.size,0,none⟩) Z.size cap] 143)=W:=⟨_,rfl⟩
 have hfc:Fr [] wb wc:=hwc▸aH _ _;have hp:wc.cell? ⟨wb.heap.size,0,none⟩=some (.slice (some ⟨w.heap.size,0,none⟩) v.length cap):=by rw[<-hwc,<-hz];exact(At.new wb 143 #[.slice (some ⟨w.heap.size,0,none⟩) Z.size cap]).cell 0
 have HF:=aa (hfb.ag hfc);have mi:Ra l:=(eD (p:=eh)).2 fun x hx=>by have :=hl x hx;exact⟨by omega,by omega⟩
 have KC:=aa (fV wc A c l 166 #[.pointer (some ⟨wb.heap.size,0,none⟩)] (Wp.is v) xF (hr.keep HF.out) mi (by omega) (fun W hW x hx _=>yT W wb.heap.size w.heap.size cap v x (hW.aN hp) ((ON.out.keep hfc).keep hW) (hl x hx).1 (hl x hx).2 hv));unfold sv;rw[hZ];clear hZ hz fh hfb oy hfc hp hr hl mi ON;go_enter Tryz.func135,Tryz.ntmps135;go_wp2_with fail;refine KC.out.mono ?_;rintro e w2 ⟨rfl,bW⟩;have cw:=aa (HF.out.ag bW);clear bW;go_wp2_with fail;go_ret;exact⟨rfl,cw.out⟩
theorem zW (w:World)(v:List UInt8)(l:Int)(h0:0<=l)(h1:l<=9000)(hv:v.length<=4096):
  Calls Tryz.prog 65 #[sv v, .int .i64 l] w fun e w'=>e= .returned (.bool (!Wp.is v l))/\Fr [] w w':=by
 have KT:=aa (fun W=>Dn W v l h0 h1 hv);obtain⟨b,hb⟩:∃b,Wp.is v l=b:=⟨_,rfl⟩
 rw[hb]at KT⊢;have KI:Hid (∀W,Calls Tryz.prog 108 #[sv v, .int .i64 l] W fun e w'=>e= .returned (.bool b)/\Fr [] W w'):=fun W=>by clear hb;unfold sv at *;go_enter Tryz.func108,Tryz.ntmps108;go_wp2_with fail;refine(KT.out _).mono ?_;rintro e w2 ⟨rfl,bW⟩;have cw:=aa bW;clear bW;go_wp2_with fail;go_ret;exact⟨rfl,cw.out⟩
 clear hb KT;unfold sv at *;go_enter Tryz.func65,Tryz.ntmps65;go_wp2_with fail;refine(KI.out _).mono ?_;rintro e w2 ⟨rfl,bW⟩;have cw:=aa bW;clear bW;go_wp2_with fail;go_ret;exact⟨rfl,cw.out⟩
theorem zk:∀args w,(callFunc 65 args).run Tryz.prog w= .ok (.enter 65 args) w:=enters_of Tryz.func65 (by kernel_rfl) rfl
theorem yY (w:World)(v:List UInt8)(A:Option Addr)(c:Nat)(l:List Int)(hr:Rd w A l)(hl:∀x∈l,0<=x/\x<=9000)(hn:l.length<=1048576)(hv:v.length<=4096):
  Calls Tryz.prog 107 #[sv v, .slice A l.length c] w fun e w'=>e= .returned (.bool (!l.any (Wp.is v)))/\Fr [] w w':=by
 have KT:=aa (Bk w v A c l hr hl hn hv);obtain⟨b,hb⟩:∃b,l.any (Wp.is v)=b:=⟨_,rfl⟩
 rw[hb]at KT⊢;clear hb hr hl;unfold sv at *;go_enter Tryz.func107,Tryz.ntmps107;go_wp2_with fail;refine KT.out.mono ?_;rintro e w2 ⟨rfl,bW⟩;have cw:=aa bW;clear bW;go_wp2_with fail;go_ret;exact⟨rfl,cw.out⟩
theorem xG:∀args w,(callFunc 107 args).run Tryz.prog w= .ok (.enter 107 args) w:=enters_of Tryz.func107 (by kernel_rfl) rfl
theorem wG (w:World)(H:Hd)(C:Pc)(h:fH w H C)(hv:Valid C)(A:Option Addr)(c:Nat)(am:List Ls)(hr:j3 w A am)(hf:∀x∈am,N6 x.l)(ha:am.length<=64)(v:List UInt8)(lx:v.length<=4096):
  Calls Tryz.prog 64 #[dj H C, .slice A am.length c,sv v] w fun e w'=>e= .returned (.bool (Wp.alw C (am.map (·.l)) v))/\Fr [] w w':=by
 have HX:=aa (Cx.start w H C);have hvi:=zP hv;have KI:=aa (fun W (hW:Fr [] w W)=>xV W H.vA H.vC C.aU 65 (sv v) (fun l=> !Wp.is v l) zk (h.keep hW).v h.vr (by have :=h.vL;omega) (fun W' _ x hx _=>zW W' v x (hvi x hx).1 (by have :=(hvi x hx).2;omega) lx));have KL:=aa (fun W (hW:Fr [] w W)=>vd W A c am 107 (sv v) (fun l=> !l.any (Wp.is v)) xG (hr.keep hW) (by omega) (fun W' Kl x hx ok=>yY W' v x.A x.c x.l ok.1 (fun y hy=>by have :=(hf x hx).2 y hy;omega) (by have :=(hf x hx).1;omega) lx));have HAL:Hid (Wp.alw C (am.map (·.l)) v=(!(C.aU.any fun l=> !Wp.is v l)&& !(am.any fun x=> !x.l.any (Wp.is v)))):=by show _=_;unfold Wp.alw;rw[List.any_map];rfl
 rw[HAL.out];obtain⟨b1,qk⟩:∃b,(C.aU.any fun l=> !Wp.is v l)=b:=⟨_,rfl⟩
 obtain⟨b2,iK⟩:∃b,(am.any fun x=> !x.l.any (Wp.is v))=b:=⟨_,rfl⟩
 rw[qk]at KI⊢;rw[iK]at KL⊢;clear h hv hvi hr hf qk iK HAL;unfold sv at *;obtain⟨Z,hZ⟩:∃Z:ByteArray,(⟨v.toArray⟩:ByteArray)=Z:=⟨_,rfl⟩
 simp only[hZ]at KI KL⊢;clear hZ;obtain⟨mx,ins,aM,outs,aT,aU,az,bY⟩:=C;obtain⟨iA,iC,lA,lC,oA,oC,bA,bC,vA,vC,gA,gC,nA,nC⟩:=H;simp only[dj,iz]at *;obtain⟨c0,c1,c2,c3,c4,c5,c6,c7⟩:=HX.out.cells;try simp only at c0 c1 c2 c3 c4 c5 c6 c7
 go_enter Tryz.func64,Tryz.ntmps64;go_wp2_with fail;refine(KI.out _ HX.out.fr).mono ?_;rintro e w2 ⟨rfl,bW⟩;have cw:=aa (HX.out.fr.ag bW);clear bW;cases b1 with
 |true=>
  go_wp2_with fail;go_ret;exact⟨rfl,cw.out⟩
 |false=>
  go_wp2_with fail;refine(KL.out _ cw.out).mono ?_;rintro e w3 ⟨rfl,dh⟩;have db:=aa (cw.out.ag dh);clear dh;go_wp2_with fail;go_ret;exact⟨by cases b2<;>rfl,db.out⟩
end
section
open Go.RowKit Go.Shelf
theorem Mk:(Tryz.prog.info? 5).map (fun i=>(i.zero,i.size,i.bytes))=some (some (.int .u8 0),1,1):=by kernel_rfl
theorem Pk:(Tryz.prog.info? 168).map (·.size)=some 2:=by kernel_rfl
theorem YM:liesAt Tryz.prog Tryz.prog.depth 168 (2/Tryz.prog.cellsOf 168) 0 168 1=true:=by kernel_rfl
abbrev IsB (B b:Nat)(bs:List Value)(w:World):Prop:=Lib.IsBuilder 168 5 B b bs w
theorem Fb (b:Nat)(w:World)(h0:w.cell? ⟨b,0,none⟩=some (.pointer (some ⟨b,0,none⟩))):
  Calls Tryz.prog 163 #[.pointer (some ⟨b,0,none⟩)] w fun e w'=>e= .returned (.tuple #[])/\w'=w:=by
 obtain⟨j,hj,_⟩:=Option.map_eq_some_iff.1 Pk;go_enter Tryz.func163,Tryz.ntmps163;go_wp2;rw[Lib.run_neq_ptr_same w _ Tryz.underlying166 hj];go_wp2;go_end0;exact⟨rfl,rfl⟩
theorem Ct (b:Nat)(w:World)(h0:w.cell? ⟨b,0,none⟩=some (.pointer none))(hsh:w.shape? b=some (168,2))(tN:w.frozen? ⟨b,0,none⟩=false):
  Calls Tryz.prog 163 #[.pointer (some ⟨b,0,none⟩)] w fun e w'=>e= .returned (.tuple #[])/\w'=w.setCell ⟨b,0,none⟩ (.pointer (some ⟨b,0,none⟩)):=by
 obtain⟨j,hj,hjs⟩:=Option.map_eq_some_iff.1 Pk;go_enter Tryz.func163,Tryz.ntmps163;go_wp2;rw[Lib.run_to_unsafe w ⟨b,0,none⟩ Tryz.underlying166 Tryz.underlying218 hj (by rw[hjs];decide) hsh (Nat.zero_lt_succ 1)];simp only[Result.andThen];rw[Oper.upon_value];go_wp2;rw[run_callFunc_extern Tryz.func197 (by kernel_rfl) (by kernel_rfl) (by kernel_rfl) (e:=Extern.AbiNoEscape.same) (by kernel_rfl)];rw[Lib.run_noEscape];simp only[Result.andThen];rw[Oper.upon_value];go_wp2;rw[Lib.run_from_unsafe w ⟨b,0,none⟩ Tryz.underlying218 Tryz.underlying166 hj hsh YM];simp only[Result.andThen];rw[Oper.upon_value];go_wp2;go_end0;exact⟨rfl,rfl⟩
theorem Cu (B b:Nat)(bs:List Value)(w:World)(h:IsB B b bs w):
  Calls Tryz.prog 163 #[.pointer (some ⟨b,0,none⟩)] w fun e w'=>e= .returned (.tuple #[])/\(Lib.BuilderAt 168 5 B b (.pointer (some ⟨b,0,none⟩)) bs w'/\Below B w w'):=by
 rcases h with h |h
 ·refine(Ct b w h.cell0 h.shape h.frozen0).mono ?_;rintro e w' ⟨rfl,rfl⟩;exact⟨rfl,h.used _,(Below.refl B w).setCell (p:=⟨b,0,none⟩) h.1 _⟩
 ·refine(Fb b w h.cell0).mono ?_;rintro e w' ⟨rfl,rfl⟩;exact⟨rfl,h,Below.refl B _⟩
theorem Cq (B b:Nat)(bs:List Value)(c:Int)(w:World)(h:IsB B b bs w)(hlen:bs.length+1<=140737488355328)(hBw:B<=w.heap.size):
  Calls Tryz.prog 132 #[.pointer (some ⟨b,0,none⟩), .int .u8 c] w fun e w'=>e= .returned .nilIface/\(Lib.BuilderAt 168 5 B b (.pointer (some ⟨b,0,none⟩)) (bs++[.int .u8 c]) w'/\Below B w w'):=by
 obtain⟨i0,hi,vy,nN,za⟩:=info_parts Mk;have KC:=Cu B b bs w h;go_enter Tryz.func132,Tryz.ntmps132;go_wp2_with fail;refine KC.mono ?_;rintro e w1 ⟨rfl,h1,qk⟩;obtain⟨hB,v,yI,dw,dS⟩:=h1;have c0:w1.cell? ⟨b,0,none⟩=some (.pointer (some ⟨b,0,none⟩)):=by rw[Lib.cell_of_heap yI];rfl
 have c1:w1.cell? ⟨b,1,none⟩=some v:=by rw[Lib.cell_of_heap yI];rfl
 go_wp2_with (at_builtin;refine wpList_append_own _ rfl _ _ 142 rfl B 5 i0 (.int .u8 0) 1 1 Tryz.underlying142 hi vy nN za rfl (by decide) _ _ _ rfl (dw.alloc _) ⟨w1.heap.size,0,none⟩ 1 1 [.int .u8 c] rfl rfl ?c1 ?c2 ?c3 ?c4 ?c5 ?_)
 case c1=>
  intro j u hj
  match j,hj with
  |0,hj=>simp at hj;subst hj;simp[Addr.add]
 case c2=>intro u hu;simp at hu;subst hu;rfl
 case c3=>unfold maxLen;omega
 case c4=>omega
 case c5=>have :=qk.size;simp;omega
 intro v' w2 Xv Aq _;have bw:b<w1.heap.size:=by
  rcases bv b w1.heap.size with h' |h'
  ·exact h'
  ·simp[gf h']at yI
 have iK:w2.heap[b]? =some (.cells #[.pointer (some ⟨b,0,none⟩),v] 168 (0,0)):=by rw[Aq.block b (by simp;omega) (fun e=>dS e.symm),Lib.alloc_old w1 _ b bw];exact yI
 have d0:w2.cell? ⟨b,0,none⟩=some (.pointer (some ⟨b,0,none⟩)):=by rw[Lib.cell_of_heap iK];rfl
 have d1:w2.cell? ⟨b,1,none⟩=some v:=by rw[Lib.cell_of_heap iK];rfl
 have f1:w2.frozen? ⟨b,1,none⟩=false:=Lib.frozen_of_heap iK 1;obtain⟨g,cap,rfl⟩:∃g cap,v'= .slice (some ⟨g,0,none⟩) (bs.length+1) cap:=by
  rcases Xv.2 with⟨_,h0⟩ |⟨g,cap,cur,hv,_⟩
  ·omega
  ·exact⟨g,cap,hv⟩
 go_wp2;go_ret;refine⟨rfl,?_,?_⟩
 ·exact Lib.BuilderAt.put (T:=168) (e:=5) hB iK (bs':=bs++[.int .u8 c]) (by simpa using Xv) (by decide)
 ·exact((qk.alloc (by have :=qk.size;omega) _).grown Aq (by have :=qk.size;simp;omega) (fun k hk=>(dw.lt k hk).1)).setCell (p:=⟨b,1,none⟩) hB _
structure oD (B b:Nat)(l:List UInt8)(w:World):Prop where
 is:IsB B b (Lib.byteCells l) w
 le:B<=w.heap.size
 fresh:l=[]->w.heap[b]? =some (.cells #[.pointer none, .slice none 0 0] 168 (0,0))
theorem oD.start (w:World):oD w.heap.size w.heap.size [] (w.alloc (.cells #[.pointer none, .slice none 0 0] 168)):=
 ⟨Lib.fresh_isBuilder _ _ w,((Fr.refl [] w).alloc _).size,fun _=>heap_alloc_new w _⟩
theorem P3 {B b:Nat}{bs:List Value}{w w':World}(h:IsB B b bs w)(hf:Fr [] w w'):IsB B b bs w':=by
 have key:∀p,Lib.BuilderAt 168 5 B b p bs w->Lib.BuilderAt 168 5 B b p bs w':=fun p ⟨h1,v,h2,h3,h4⟩=>by
  have bw:b<w.heap.size:=by
   rcases bv b w.heap.size with h' |h'
   ·exact h'
   ·simp[gf h']at h2
  exact⟨h1,v,(hf.block b bw (by simp)).trans h2,hf.own h3 (by simp),h4⟩
 exact h.elim (fun h=> .inl (key _ h)) (fun h=> .inr (key _ h))
theorem oD.keep {B b:Nat}{l:List UInt8}{w w':World}(h:oD B b l w)(hf:Fr [] w w'):oD B b l w':=
 ⟨P3 h.is hf,aE h.le hf.size,fun e=>by
  have h2:=h.fresh e;have bw:b<w.heap.size:=by
   rcases bv b w.heap.size with h' |h'
   ·exact h'
   ·simp[gf h']at h2
  exact(hf.block b bw (by simp)).trans h2⟩
theorem oD.write {B b:Nat}{l:List UInt8}{w:World}(h:oD B b l w)(c:UInt8)(hl:l.length+1<=140737488355328):
  Calls Tryz.prog 132 #[.pointer (some ⟨b,0,none⟩), .int .u8 (c.toNat:Int)] w fun e w'=>e= .returned .nilIface/\oD B b (l++[c]) w'/\Below B w w':=
 (Cq B b (Lib.byteCells l) c.toNat w h.is (by simpa[Lib.byteCells]using hl) h.le).mono fun e w' ⟨h1,h2,h3⟩=>
  ⟨h1,⟨.inr (by simpa[Lib.byteCells]using h2),aE h.le h3.size,fun e=>by simp at e⟩,h3⟩
theorem oD.string {B b:Nat}{l:List UInt8}{w:World}(hb:oD B b l w):
  Calls Tryz.prog 133 #[.pointer (some ⟨b,0,none⟩)] w fun e w'=>e= .returned (.string ⟨l.toArray⟩)/\Below B w w':=by
 have mixed:Tryz.prog.follows Departure.mixedOrders=true:=by kernel_rfl
 by_cases h0:l=[]
 ·subst h0;have yI:=hb.fresh rfl;have c1:w.drew.cell? ⟨b,1,none⟩=some (.slice none 0 0):=by have :w.drew.heap[b]? =some (.cells #[.pointer none, .slice none 0 0] 168 (0,0)):=yI;rw[Lib.cell_of_heap this];rfl
  have hUS:(Builtin.unsafeString_ #[190,3] 9 #[.pointer none, .int .i64 0]).run Tryz.prog w.drew= .ok (.string .empty) w.drew:=Lib.run_unsafeString_none w.drew _ _ _ _;have hSD:(Builtin.unsafeSliceData_ #[142] 190 #[.slice none 0 0]).run Tryz.prog w.drew= .ok (.pointer none) w.drew:=rfl;clear hb yI;go_enter Tryz.func133,Tryz.ntmps133;go_wp2
  go_region_o
  all_goals (go_wp2;go_ret;exact⟨rfl,Below.drew (Below.refl B w)⟩)
 ·obtain⟨p,hB,v,yI,dw,dS⟩:∃p,Lib.BuilderAt 168 5 B b p (Lib.byteCells l) w:=by
   rcases hb.is with h |h
   ·exact⟨_,h⟩
   ·exact⟨_,h⟩
  have tc:l.length≠0:=by simpa using h0
  rw[Lib.byteCells_length]at dw;obtain⟨g,cap,cur,rfl,QY,hg,sl,EJ,yG,Xg⟩:∃g cap cur,v= .slice (some ⟨g,0,none⟩) l.length cap/\B<=g/\w.heap[g]? =some (.cells cur 5 (0,0))/\l.length<=cap/\cap<=maxLen/\cur.size=cap*1/\cur.toList.take (l.length*1)=Lib.byteCells l:=by
   rcases dw.2 with⟨_,hz⟩ |⟨g,cap,cur,hv,r⟩
   ·exact absurd hz tc
   ·exact⟨g,cap,cur,hv,r⟩
  have c1:w.drew.cell? ⟨b,1,none⟩=some (.slice (some ⟨g,0,none⟩) l.length cap):=by have :w.drew.heap[b]? =some (.cells #[p, .slice (some ⟨g,0,none⟩) l.length cap] 168 (0,0)):=yI;rw[Lib.cell_of_heap this];rfl
  have hSD:(Builtin.unsafeSliceData_ #[142] 190 #[.slice (some ⟨g,0,none⟩) l.length cap]).run Tryz.prog w.drew= .ok (.pointer (some ⟨g,0,none⟩)) w.drew:=
   Lib.run_unsafeSliceData_row _ _ _ _ _ _ (by omega)
  have hUS:(Builtin.unsafeString_ #[190,3] 9 #[.pointer (some ⟨g,0,none⟩), .int .i64 l.length]).run Tryz.prog w.drew= .ok (.string ⟨l.toArray⟩) (w.drew.freeze ⟨g,0,none⟩ l.length):=by refine Lib.run_unsafeString_row w.drew 190 3 9 5 Tryz.underlying190 (by kernel_rfl) g cur.size (by have pU:w.drew.heap[g]? =some (.cells cur 5 (0,0)):=hg;simp[World.shape?,pU]) l h0 (by omega) (by unfold maxLen at EJ;omega) ?_;intro j x hx;have :=dw.cells (g:=g) rfl j (.int .u8 x.toNat) (by simp[Lib.byteCells,hx]);exact this
  clear hb yI;go_enter Tryz.func133,Tryz.ntmps133;go_wp2
  go_region_o
  all_goals (go_wp2;go_ret;exact⟨rfl,Lib.below_freeze (Below.drew (Below.refl B w)) (p:=⟨g,0,none⟩) QY _⟩)
theorem Cx.below {w wr w':World}{H:Hd}{C:Pc}{B:Nat}(h:Cx w wr H C)(hB:w.heap.size<B)(hb:Below B wr w'):Cx w w' H C:=
 ⟨⟨hb.os.trans h.fr.os,hb.tape.trans h.fr.tape,hb.output.trans h.fr.output,aE h.fr.size hb.size,fun k hk hm=>(hb.block k (by omega)).trans (h.fr.block k hk hm)⟩,(hb.block _ hB).trans h.bx⟩
theorem RN.below {w w':World}{g B:Nat}{l:List UInt8}(h:RN w g l)(hB:g<B)(hb:Below B w w'):RN w' g l:=fun j hj=>by rw[World.cell?_of_block (hb.block g hB)];exact h j hj
theorem PE (C:Pc)(f:T3->UInt8)(k:Nat)(h:k<C.aM.length):(C.aM.take (k+1)).map f=(C.aM.take k).map f++[f C.aM[k]!]:=pg f h
theorem Dr (w:World)(H:Hd)(C:Pc)(h:fH w H C)(hv:Valid C)(st lV:List UInt8)(gU:Wp.bits st C.aM.length=true)(kF:Wp.bits lV C.ins.length=true):
  Calls Tryz.prog 103 #[dj H C,sv st,sv lV] w fun e w'=>e= .returned (.tuple #[sv (Wp.WZ C st lV), .int .i64 0])/\Fr [] w w':=by
 have HX:=aa (Cx.start w H C);have KV:=aa (fun W (hW:Fr [] w W)=>qx W H C (h.keep hW) hv st lV gU kF);have xo:=hv.l;have uY:=hv.m0;have mz:=hv.m1;have XW:=aa (fun W (hW:Fr [] w W) k (hk:k<C.aM.length)=>(h.keep hW).l.one (h.keep hW).lr hk);have OL:=aa (fun k (hk:k<C.aM.length)=>qT hv k hk);have lx:(Wp.val C st lV).length<=4096:=by rw[Wp.JB,Wp.FX C uY];omega
 obtain⟨V,hV⟩:∃V,Wp.val C st lV=V:=⟨_,rfl⟩
 have mW:Hid (Wp.WZ C st lV=C.aM.map fun x=>Wp.of V x.b):=by show _=_;unfold Wp.WZ;rw[hV]
 rw[mW.out];rw[hV]at KV lx;have FP:=aa (fun k h=>PE C (fun x=>Wp.of V x.b) k h);have KOF:=aa (fun W g c l hb (h0:0<=l) (h1:l<=9000)=>pI W g c V l hb h0 h1 lx);obtain⟨ZV,XJ⟩:∃ZV:ByteArray,(⟨V.toArray⟩:ByteArray)=ZV:=⟨_,rfl⟩
 have hzv:=pH XJ;have HBW:=aa (fun W=>Rz W V ZV XJ);have Oz:=fun W=>Lib.run_convert_string_bytes (P:=Tryz.prog) W 9 143 5 ZV Tryz.underlying9 Tryz.underlying143 Tryz.underlying5;obtain⟨ZN,hZN⟩:∃ZN:ByteArray,(⟨(C.aM.map fun x=>Wp.of V x.b).toArray⟩:ByteArray)=ZN:=⟨_,rfl⟩
 have HZN:=aa hZN;unfold sv at *;rw[hZN];simp only[XJ]at KV;clear h hv gU kF hV XJ hZN mW;obtain⟨mx,ins,aM,outs,aT,aU,az,bY⟩:=C;obtain⟨iA,iC,lA,lC,oA,oC,bA,bC,vA,vC,gA,gC,nA,nC⟩:=H;simp only[dj,iz]at *;obtain⟨c0,c1,c2,c3,c4,c5,c6,c7⟩:=HX.out.cells;try simp only at c0 c1 c2 c3 c4 c5 c6 c7
 go_enter Tryz.func103,Tryz.ntmps103;go_wp2_with fail;refine(KV.out _ HX.out.fr).mono ?_;rintro e w2 ⟨rfl,bW⟩;have gh:=aa (HX.out.keep bW);clear bW c0 c1 c2 c3 c4 c5 c6 c7 KV HX;have Nd:=Oz w2;have abA:=aa (HBW.out w2);obtain⟨w3,vz⟩:∃W,Lib.bytesWorld w2 5 ZV=W:=⟨_,rfl⟩
 have dh:Fr [] w2 w3:=vz▸sN w2 5 ZV;have Tj:w3.heap.size=w2.heap.size+1:=by rw[<-vz,Lib.bytesWorld_size]
 obtain⟨cap,oy⟩:∃cap,grownCap w2 ZV.size 0 5 =cap:=⟨_,rfl⟩
 rw[vz]at Nd abA;rw[oy,hzv]at Nd;obtain⟨w4,qD⟩:∃W,w3.alloc (.cells #[.pointer none, .slice none 0 0] 168)=W:=⟨_,rfl⟩
 have m9:=oD.start w3;rw[qD]at m9;have eS:Fr [] w3 w4:=qD▸aH _ _;have jV:=aa (gh.out.keep (dh.ag eS));have Jo:=aa (abA.out.keep eS);obtain⟨B,hB⟩:∃B,w3.heap.size=B:=⟨_,rfl⟩
 rw[hB]at m9;have m9:=aa m9;obtain⟨gb,XC⟩:∃gb,w2.heap.size=gb:=⟨_,rfl⟩
 rw[XC]at Jo Nd;have HGB:Hid (gb<B):=by show _<_;omega
 have Wo:Hid (w.heap.size<B):=by show _<_;have :=gh.out.bx.lt;omega
 clear Oz vz dh Tj oy eS HBW abA gh hzv;obtain⟨d0,d1,d2,d3,d4,d5,d6,d7⟩:=jV.out.cells;try simp only at d0 d1 d2 d3 d4 d5 d6 d7
 go_wp2_with fail;clear qD hB XC Nd d0 d1 d2 d3 d4 d5 d6 d7;go_loopg [29] aM.length (fun gg x29 wr=>∃k:Nat,k+gg=aM.length/\x29= .int .i64 k/\Hid (oD B B ((aM.take k).map fun x=>Wp.of V x.b) wr)/\Hid (Cx w wr ⟨iA,iC,lA,lC,oA,oC,bA,bC,vA,vC,gA,gC,nA,nC⟩ ⟨mx,ins,aM,outs,aT,aU,az,bY⟩)/\Hid (RN wr gb V));case atStart=>exact⟨0,by omega,rfl,m9,jV,Jo⟩
 case round=>
  clear m9 jV Jo;obtain⟨k,hk,rfl,HB,eQ,HG⟩:=hrel;have HK:=aa hk;have jg:k<=aM.length:=by omega
  clear hk;by_cases bw:k<aM.length
  ·have ml:(k:Int)<(aM.length:Int):=by omega
   obtain⟨ab,o,x,y,z,hA,he,cx,cy,cz,fN,gd,BP⟩:=XW.out wr eQ.out.fr k bw;try simp only at hA cx cy cz
   subst hA;have kR:=OL.out k bw;have An:=FP.out k bw;try simp only at kR An
   rw[he.out]at kR An;try simp only at kR An
   have HT:=aa An;obtain⟨wx,jY⟩:∃W,wr.alloc (.cells #[.int .i64 x, .int .i64 y, .int .i64 z] 63)=W:=⟨_,rfl⟩
   have Xm:At wx wr.heap.size 63 #[.int .i64 x, .int .i64 y, .int .i64 z]:=jY▸At.new _ _ _;have XD:Fr [] wr wx:=jY▸aH _ _;have SU:=aa (HB.out.keep XD);have ym:=aa (eQ.out.keep XD);have HGX:=aa (HG.out.keep XD);have e0:=Xm.cell 0;have e1:=Xm.cell 1;have e2:=Xm.cell 2;simp at e0 e1 e2;have KO:=aa (KOF.out wx gb cap y HGX.out kR.1 (by omega));obtain⟨u,hu⟩:∃u,Wp.of V y=u:=⟨_,rfl⟩
   rw[hu]at KO HT;have KW:=aa (SU.out.write u (by rw[aq,bp];omega));clear he fN gd BP kR An hu HB eQ HG Xm XD;go_wp2_with fail;refine KO.out.mono ?_;clear KO;rintro e w5 ⟨rfl,rfl⟩;go_wp2_with fail;refine KW.out.mono ?_;clear KW;rintro e w6 ⟨rfl,h6,b6⟩;have AN:Hid (oD B B ((aM.take (k+1)).map fun x=>Wp.of V x.b) w6):=by show oD _ _ _ _;rw[HT.out];exact h6
   have zC:=aa (ym.out.below Wo.out b6);have WG:=aa (HGX.out.below HGB.out b6);clear h6 b6 jY cx cy cz e0 e1 e2;go_wp2_with fail;go_roundg (gk-1);case measure=>have :=HK.out;omega
   case rel=>exact⟨k+1,by have :=HK.out;omega,by go_num,AN,zC,WG⟩
  ·obtain rfl :k=aM.length:=by omega
   have hbs:=HB.out;rw[cN]at hbs;have KS:=hbs.string;rw[HZN.out]at KS;have KS:=aa KS;clear HK HB hbs;go_wp2_with fail;refine KS.out.mono ?_;clear KS;rintro e w6 ⟨rfl,b6⟩;have zC:=aa (eQ.out.below Wo.out b6);clear b6;go_wp2_with fail;go_ret2;exact⟨rfl,zC.out.fr⟩
theorem Lu {C:Pc}(h:Valid C)(j:Nat)(hj:j<C.aM.length):(C.aM[j]!).c=0\/(C.aM[j]!).c=1\/(C.aM[j]!).c=(C.aM[j]!).a:=by
 have h2:=h.aM j hj;simp only[Mf,uP,ax,jt,aal]at h2;rcases h2.1 with(h3 |h3) |h3
 ·exact .inl h3
 ·exact .inr (.inl h3)
 ·exact .inr (.inr h3)
theorem Bi (w:World)(x y z:Int)(f:UInt8)(hz:z=0\/z=1\/z=x)(hx:2<=x/\x<=4096):
  Calls Tryz.prog 162 #[.agg #[.int .i64 x, .int .i64 y, .int .i64 z], .int .u8 (f.toNat:Int)] w fun e w'=>e= .returned (.int .u8 ((Wp.JO ⟨x,y,z⟩ f).toNat:Int))/\Fr [] w w':=by
 obtain⟨wx,jY⟩:∃W,w.alloc (.cells #[.int .i64 x, .int .i64 y, .int .i64 z] 63)=W:=⟨_,rfl⟩
 have Xm:At wx w.heap.size 63 #[.int .i64 x, .int .i64 y, .int .i64 z]:=jY▸At.new _ _ _;have HF:Hid (Fr [] w wx):=jY▸aH _ _;have e0:=Xm.cell 0;have e1:=Xm.cell 1;have e2:=Xm.cell 2;simp at e0 e1 e2;obtain⟨r,hr⟩:∃r,Wp.JO ⟨x,y,z⟩ f=r:=⟨_,rfl⟩
 rw[hr];unfold Wp.JO at hr;simp only at hr;by_cases h:z=x
 ·rw[aae h]at hr;subst hr;have d:(z==x)=true:=by simpa using h
  clear h hz;go_enter Tryz.func162,Tryz.ntmps162;go_wp2_with fail;go_ret;exact⟨rfl,HF.out⟩
 ·rw[aac h]at hr;have d:(z==x)=false:=by simpa using h
  rcases hz with rfl |rfl |hz
  ·subst hr;clear h;go_enter Tryz.func162,Tryz.ntmps162;go_wp2_with fail;go_ret;exact⟨rfl,HF.out⟩
  ·subst hr;clear h;go_enter Tryz.func162,Tryz.ntmps162;go_wp2_with fail;go_ret;exact⟨rfl,HF.out⟩
  ·exact absurd hz h
theorem Rb (C:Pc)(st:List UInt8)(k:Nat)(h:k<C.aM.length):((List.range (k+1)).map fun k=>Wp.JO C.aM[k]! st[k]!)=((List.range k).map fun k=>Wp.JO C.aM[k]! st[k]!)++[Wp.JO C.aM[k]! st[k]!]:=by rw[List.range_succ,bH];rfl
theorem Bl (w:World)(H:Hd)(C:Pc)(h:fH w H C)(hv:Valid C)(st:List UInt8)(gU:Wp.bits st C.aM.length=true):
  Calls Tryz.prog 131 #[dj H C,sv st] w fun e w'=>e= .returned (.tuple #[sv (Wp.fst C st), .int .i64 0])/\Fr [] w w':=by
 have HX:=aa (Cx.start w H C);have xo:=hv.l;have mz:=hv.m1;have rl:=Wp.mT gU;have KC:=aa (fun W (hW:Fr [] w W)=>pY W H C (h.keep hW) hv);have KB:=aa (fun W=>iM W st C.aM.length (by unfold maxLen;omega) (by omega));rw[gU]at KB;have XW:=aa (fun W (hW:Fr [] w W) k (hk:k<C.aM.length)=>(h.keep hW).l.one (h.keep hW).lr hk);have Sc:=aa (fun k (hk:k<C.aM.length)=>Lu hv k hk);have OM:=aa (fun k (hk:k<C.aM.length)=>eX hv k hk);have FP:=aa (fun k h=>Rb C st k h);obtain⟨Z,hZ⟩:∃Z:ByteArray,(⟨st.toArray⟩:ByteArray)=Z:=⟨_,rfl⟩
 have hz:=pH hZ;have HG:=aa (fun k h=>Ga hZ k h);obtain⟨ZN,hZN⟩:∃ZN:ByteArray,(⟨(Wp.fst C st).toArray⟩:ByteArray)=ZN:=⟨_,rfl⟩
 have HZN:=aa hZN;have HFS:Hid (Wp.fst C st=(List.range C.aM.length).map fun k=>Wp.JO C.aM[k]! st[k]!):=(rfl :_=_)
 rw[HFS.out]at HZN;obtain⟨RS,hRS⟩:∃RS:Nat->UInt8,(fun k=>Wp.JO C.aM[k]! st[k]!)=RS:=⟨_,rfl⟩
 have oN:Hid (∀k x y z,C.aM[k]! =⟨x,y,z⟩->Wp.JO ⟨x,y,z⟩ st[k]! =RS k):=fun k x y z hx=>by rw[<-hx,<-hRS]
 have ae1:∀k:Nat,Wp.JO C.aM[k]! st[k]! =RS k:=fun k=>congrFun hRS k;simp only[ae1]at HZN FP;unfold sv at *;rw[hZN,hZ];rw[hZ]at KB;have hzl:Z.size=C.aM.length:=by omega
 clear h hv gU hZ hZN HFS hRS ae1 hz rl;obtain⟨mx,ins,aM,outs,aT,aU,az,bY⟩:=C;obtain⟨iA,iC,lA,lC,oA,oC,bA,bC,vA,vC,gA,gC,nA,nC⟩:=H;simp only[dj,iz]at *;obtain⟨c0,c1,c2,c3,c4,c5,c6,c7⟩:=HX.out.cells;try simp only at c0 c1 c2 c3 c4 c5 c6 c7
 go_enter Tryz.func131,Tryz.ntmps131;go_wp2_with fail;refine(KC.out _ HX.out.fr).mono ?_;rintro e w2 ⟨rfl,bW⟩;have gh:=aa (HX.out.keep bW);clear bW c0 c1 c2 c3 c4 c5 c6 c7 KC HX;obtain⟨c0,c1,c2,c3,c4,c5,c6,c7⟩:=gh.out.cells;try simp only at c0 c1 c2 c3 c4 c5 c6 c7
 go_wp2_with fail;refine(KB.out _).mono ?_;rintro e w3 ⟨rfl,dh⟩;have ly:=aa (gh.out.keep dh);clear dh c0 c1 c2 c3 c4 c5 c6 c7 KB gh;obtain⟨w4,qD⟩:∃W,w3.alloc (.cells #[.pointer none, .slice none 0 0] 168)=W:=⟨_,rfl⟩
 have m9:=oD.start w3;rw[qD]at m9;have eS:Fr [] w3 w4:=qD▸aH _ _;have jV:=aa (ly.out.keep eS);obtain⟨B,hB⟩:∃B,w3.heap.size=B:=⟨_,rfl⟩
 rw[hB]at m9;have m9:=aa m9;have Wo:Hid (w.heap.size<B):=by show _<_;have :=ly.out.bx.lt;omega
 clear eS ly;obtain⟨d0,d1,d2,d3,d4,d5,d6,d7⟩:=jV.out.cells;try simp only at d0 d1 d2 d3 d4 d5 d6 d7
 go_wp2_with fail;clear qD hB d0 d1 d2 d3 d4 d5 d6 d7;go_loopg [24] aM.length (fun gg x24 wr=>∃k:Nat,k+gg=aM.length/\x24= .int .i64 k/\Hid (oD B B ((List.range k).map RS) wr)/\Hid (Cx w wr ⟨iA,iC,lA,lC,oA,oC,bA,bC,vA,vC,gA,gC,nA,nC⟩ ⟨mx,ins,aM,outs,aT,aU,az,bY⟩));case atStart=>exact⟨0,by omega,rfl,m9,jV⟩
 case round=>
  clear m9 jV;obtain⟨k,hk,rfl,HB,eQ⟩:=hrel;have HK:=aa hk;have jg:k<=aM.length:=by omega
  clear hk;by_cases bw:k<aM.length
  ·have ml:(k:Int)<(aM.length:Int):=by omega
   obtain⟨ab,o,x,y,z,hA,he,cx,cy,cz,fN,gd,BP⟩:=XW.out wr eQ.out.fr k bw;try simp only at hA cx cy cz
   subst hA;have kR:=Sc.out k bw;have J7:=OM.out k bw;try simp only at kR J7
   rw[he.out]at kR J7;try simp only at kR J7
   have hkz:k<Z.size:=by omega
   obtain⟨wx,jY⟩:∃W,wr.alloc (.cells #[.int .i64 x, .int .i64 y, .int .i64 z] 63)=W:=⟨_,rfl⟩
   have zE:Hid (At wx wr.heap.size 63 #[.int .i64 x, .int .i64 y, .int .i64 z]):=jY▸At.new _ _ _;have XD:Fr [] wr wx:=jY▸aH _ _;have SU:=aa (HB.out.keep XD);have ym:=aa (eQ.out.keep XD);have iy:=oN.out k x y z he.out;obtain⟨u,hu⟩:∃u,((Z[k]).toNat:Int)=u:=⟨_,rfl⟩
   have KR:Hid (∀W,Calls Tryz.prog 162 #[.agg #[.int .i64 x, .int .i64 y, .int .i64 z], .int .u8 u] W fun e w'=>e= .returned (.int .u8 ((RS k).toNat:Int))/\Fr [] W w'):=fun W=>by rw[<-iy,<-hu,HG.out k hkz];exact Bi W x y z st[k]! kR (by omega)
   have KW:=aa (fun W (hW:Fr [] wx W)=>(SU.out.keep hW).write (RS k) (by rw[aq,cu];omega));have HT:=aa (FP.out k bw);clear he fN gd BP kR J7 iy HB eQ XD;go_upto_region 10 with fail;try rw[jY]
   clear jY;refine aam ?_;refine bi (fun w':World=>Fr [] wx w') 5 (by kernel_rfl) ((Fr.refl _ wx).drew) (fun cZ=> ?_);apply TB 4 [(0,[0,4,5]),(1,[]),(2,[]),(3,[])];kernel_rfl;rfl;· (repeat (apply eH;rfl;rfl;(· intro w bl;(try(have bl:=bl.resolve_left (aF _ _);(have s0:=bl.aN (zE.out.cell 0);have s1:=bl.aN (zE.out.cell 1);have s2:=bl.aN (zE.out.cell 2);simp at s0 s1 s2)));go_simp<;>with_reducible rfl);try simp only[Act.put,q5,q6,q7]));exact eG
   exact cZ;intro cZ;refine R2 4 (by kernel_rfl) (by rfl) cZ fun K hK aw=> ?_
   (go_simp;refine(KR.out _).mono ?_;rintro e w5 ⟨rfl,ev⟩;dsimp only)
   refine hK.out _ _ (.inr ?_) (fun Aw=> ?_)
   ·first |exact aw.ag ev |exact aw
   clear hK K;try simp only[Act.put,q5,q6,q7]
   refine R2 5 (by kernel_rfl) (by rfl) Aw fun K hK aw=> ?_
   (go_simp;refine(KW.out _ aw).mono ?_;rintro e w6 ⟨rfl,h6,b6⟩;dsimp only)
   refine hK.out _ _ (.inl rfl) (fun u6=> ?_);clear hK K;try simp only[Act.put,q5,q6,q7]
   refine aD (by kernel_rfl) ?_ _;refine NoPanic.normal ?_;have AN:Hid (oD B B ((List.range (k+1)).map RS) w6):=by show oD _ _ _ _;rw[HT.out];exact h6
   have zC:=aa ((ym.out.keep aw).below Wo.out b6);clear h6 b6 aw;go_wp2_with fail;go_roundg (gk-1);case measure=>have :=HK.out;omega
   case rel=>exact⟨k+1,by have :=HK.out;omega,by go_num,AN,zC⟩
  ·obtain rfl :k=aM.length:=by omega
   have KS:=HB.out.string;rw[HZN.out]at KS;have KS:=aa KS;clear HK HB;go_wp2_with fail;refine KS.out.mono ?_;clear KS;rintro e w6 ⟨rfl,b6⟩;have zC:=aa (eQ.out.below Wo.out b6);clear b6;go_wp2_with fail;go_ret2;exact⟨rfl,zC.out.fr⟩
theorem wv (w:World)(H:Hd)(C:Pc)(h:fH w H C)(hv:Valid C)(st:List UInt8)(gU:Wp.bits st C.aM.length=true):
  Calls Tryz.prog 102 #[dj H C,sv st] w fun e w'=>e= .returned (.bool (decide (Wp.fst C st=st)))/\Fr [] w w':=by
 have HX:=aa (Cx.start w H C);have KF:=aa (Bl _ H C (h.keep HX.out.fr) hv st gU);obtain⟨F,hF⟩:∃F,Wp.fst C st=F:=⟨_,rfl⟩
 rw[hF]at KF⊢;obtain⟨Z,hZ⟩:∃Z:ByteArray,(⟨st.toArray⟩:ByteArray)=Z:=⟨_,rfl⟩
 obtain⟨ZF,hZF⟩:∃Z:ByteArray,(⟨F.toArray⟩:ByteArray)=Z:=⟨_,rfl⟩
 obtain⟨q,hq⟩:∃q,(ZF.toList==Z.toList)=q:=⟨_,rfl⟩
 have HQ:Hid (decide (F=st)=q):=by show _=_;rw[<-hq,<-hZ,<-hZF,Lib.toList_data,Lib.toList_data,Bool.eq_iff_iff,aal,beq_iff_eq]
 rw[HQ.out];unfold sv at *;rw[hZ,hZF]at KF;rw[hZ];clear h hv gU hF hZ hZF HQ;obtain⟨mx,ins,aM,outs,aT,aU,az,bY⟩:=C;obtain⟨iA,iC,lA,lC,oA,oC,bA,bC,vA,vC,gA,gC,nA,nC⟩:=H;simp only[dj,iz]at *;obtain⟨c0,c1,c2,c3,c4,c5,c6,c7⟩:=HX.out.cells;try simp only at c0 c1 c2 c3 c4 c5 c6 c7
 go_enter Tryz.func102,Tryz.ntmps102;go_wp2_with fail;refine KF.out.mono ?_;rintro e w2 ⟨rfl,bW⟩;have HF:=aa (HX.out.fr.ag bW);clear bW KF;go_wp2_with fail;go_ret;exact⟨rfl,HF.out⟩
namespace Wp
theorem Cz {v:List UInt8}{p:UInt8->Bool}(h:v.all p=true)(i:Nat){x:UInt8}(hx:p x=true):(v.set i x).all p=true:=by
 rw[ep]at h⊢;intro y hy;rcases List.mem_or_eq_of_mem_set hy with h1 |h1
 ·exact h y h1
 ·rw[h1];exact hx
theorem ID {v:List UInt8}(h:v.all iu=true){i:Nat}(hi:i<v.length):iu v[i]! =true:=by rw[ep]at h;exact h _ (a8 hi)
theorem PD {v:List UInt8}(h:v.all iu=true)(l:Int):iu (of v l)=true:=by
 have hc:iu (if(l/2).toNat<v.length then v[(l/2).toNat]! else 48)=true:=by
  split
  ·rename_i h1;exact ID h h1
  ·rfl
 unfold of;simp only;revert hc;generalize (if(l/2).toNat<v.length then v[(l/2).toNat]! else 48)=c;intro hc;split
 ·unfold iu at hc⊢;simp only[jt,beq_iff_eq]at hc;rcases hc with rfl |rfl <;>rfl
 ·exact hc
theorem P4 {il:List Int}{lV v:List UInt8}(hv:v.all iu=true)(hi:lV.all iu=true)(hl:lV.length=il.length):∀k,k<=il.length->(ins il lV v k).all iu=true
 |0,_=>hv
 |k+1,h=>Cz (P4 hv hi hl k (by omega)) _ (ID hi (by omega))
theorem PY {ll:List T3}{st v:List UInt8}(hv:v.all iu=true)(hi:st.all iu=true)(hl:st.length=ll.length):∀k,k<=ll.length->(aM ll st v k).all iu=true
 |0,_=>hv
 |k+1,h=>Cz (PY hv hi hl k (by omega)) _ (ID hi (by omega))
theorem Kq {al:List T3}{v:List UInt8}(hv:v.all iu=true):∀k,(gt al v k).all iu=true
 |0=>hv
 |k+1=>Cz (Kq hv k) _ (by
  unfold mn;split
  ·exact PD (Kq hv k) _
  ·exact PD (Kq hv k) _)
theorem Ys {C:Pc}{st lV:List UInt8}(hs:bits st C.aM.length=true)(hi:bits lV C.ins.length=true):(val C st lV).all iu=true:=by refine Kq (PY (P4 ?_ (K7 hi) (mT hi) _ (ap _)) (K7 hs) (mT hs) _ (ap _)) _;unfold zr;rw[ep];intro x hx;rw[List.eq_of_mem_replicate hx];rfl
theorem PF {C:Pc}{st lV:List UInt8}(hs:bits st C.aM.length=true)(hi:bits lV C.ins.length=true):bits (WZ C st lV) C.aM.length=true:=by unfold bits;rw[ax];refine⟨aai (Ua C st lV),?_⟩;rw[ep];intro x hx;obtain⟨y,hy,rfl⟩:=aG.1 hx;exact PD (Ys hs hi) _
theorem wu {C:Pc}{st:List UInt8}{il:List (List UInt8)}(hs:bits st C.aM.length=true)(hi:∀s∈il,bits s C.ins.length=true):∀k,k<=il.length->bits (Gb C st il k) C.aM.length=true
 |0,_=>hs
 |k+1,h=>PF (wu hs hi k (by omega)) (hi _ (a8 (by omega)))
theorem Kt {C:Pc}{st:List UInt8}{il:List (List UInt8)}(h:form C st il=0):il.length≠0/\bits st C.aM.length=true/\(∀s∈il,bits s C.ins.length=true)/\fst C st=st:=by
 unfold form at h;split at h
 ·cases h
 ·rename_i h1;split at h
  ·cases h
  ·rename_i h2;split at h
   ·rename_i h3;simp only[jt,j6,not_or,cq,not_exists,not_and,Bool.not_eq_false]at h2;exact⟨h1,h2.1,h2.2,h3⟩
   ·cases h
end Wp
theorem qS (w:World){ops:Array Oper}{rest:List Oper}{o:Oper}{a:Act}{Q:Exit->Act->World->Prop}(ow:o.guard=none)(s x:Operand)
  (ho:o.op= .call { callee:= .builtin .append,args:=#[s,x],argTypes:=#[38,38] })(A:Option Addr)(c:Nat)(l:List (List UInt8))(n:Nat)(hs:a.eval s= .slice A n c)(hn:n=l.length)(dw:jm w A c l)
  (ad:Addr) (m d:Nat) (ms:List (List UInt8)) (hx:a.eval x= .slice (some ad) m d) (hm:m=ms.length) (hr:∀j:Nat,j<ms.length->w.cell? (ad.add j)=some (sv ms[j]!)) (hlen:l.length+ms.length<=4194304)
  (h:∀A' cap w',jm w' A' cap (l++ms)->Fr (ak A) w w'->(∀k,k∈ak A'->k∈ak A\/k=w.heap.size)->wpList Tryz.prog ops Q rest (a.put o.dst (.slice A' (n+m) cap)) w'):
  wpList Tryz.prog ops Q (o::rest) a w:=by
 subst hn hm;refine wpList_plain ow fun K hK=> ?_;obtain⟨A',cap,w',iV,h2,h3,h4,h5,h6,h7⟩:=eN w 38 o.type 9 (.string ⟨#[]⟩) 1 16 Tryz.underlying38 D1 rfl (by decide) A c l.length (l.map sv) dw ad ms.length d (ms.map sv) (by simp) (fun j u hu=>by
  simp only[aJ,Option.map_eq_some_iff]at hu;obtain⟨y,hy,rfl⟩:=hu;have hj:=(lH.1 hy).1;have :=hr j hj;rw[ae,hy]at this;exact this) (fun u hu=>by
  obtain⟨y,_,rfl⟩:=aG.1 hu;rfl) (by unfold maxLen;omega) (by omega)
 unfold Oper.wp execOp;simp only[ho,resolve,invoke,builtin,Sem.run_bind,Sem.run_pure,Result.andThen_ok,List.map_toArray,cj,dv,hs,hx,iV];refine hK _ _ (h A' cap w' ?_ h3 h4);unfold jm;rw[aj,bH];exact h2
theorem Pf (C:Pc)(st:List UInt8)(il:List (List UInt8))(k:Nat):(List.range (k+1+1)).map (Wp.Gb C st il)=(List.range (k+1)).map (Wp.Gb C st il)++[Wp.Gb C st il (k+1)]:=by rw[List.range_succ,bH];rfl
theorem yW (w:World)(H:Hd)(C:Pc)(h:fH w H C)(hv:Valid C)(st:List UInt8)(gU:Wp.bits st C.aM.length=true)(A:Option Addr)(c:Nat)(il:List (List UInt8))(hr:RM w A il)(m7:∀s∈il,Wp.bits s C.ins.length=true)(hl:il.length<=1048576):
  Calls Tryz.prog 62 #[dj H C,sv st, .slice A il.length c] w fun e w'=>∃A' c',e= .returned (.tuple #[.slice A' (il.length+1) c', .int .i64 0])/\jm w' A' c' ((List.range (il.length+1)).map (Wp.Gb C st il))/\Fr [] w w':=by
 have HX:=aa (Cx.start w H C);have xo:=hv.l;have rl:=Wp.mT gU;have KC:=aa (fun W (hW:Fr [] w W)=>pY W H C (h.keep hW) hv);have KB:=aa (fun W=>iM W st C.aM.length (by unfold maxLen;omega) (by omega));rw[gU]at KB;have KN:=aa (fun W (hW:Fr [] w W) k (hk:k<il.length)=>Dr W H C (h.keep hW) hv (Wp.Gb C st il k) il[k]! (Wp.wu gU m7 k (by omega)) (m7 _ (a8 hk)));have HR:=aa hr;have HN:=aa (Pf C st il);obtain⟨SS,XM⟩:∃SS,Wp.Gb C st il=SS:=⟨_,rfl⟩
 have HS0:Hid (SS 0=st):=XM▸rfl;have X7:Hid (∀k,Wp.WZ C (SS k) il[k]! =SS (k+1)):=fun k=>by rw[<-XM];rfl
 simp only[XM]at KN HN;rw[XM];clear h hv gU m7 hr rl XM;obtain⟨mx,ins,aM,outs,aT,aU,az,bY⟩:=C;obtain⟨iA,iC,lA,lC,oA,oC,bA,bC,vA,vC,gA,gC,nA,nC⟩:=H;simp only[dj,iz]at *;obtain⟨c0,c1,c2,c3,c4,c5,c6,c7⟩:=HX.out.cells;try simp only at c0 c1 c2 c3 c4 c5 c6 c7
 unfold sv at KN⊢;go_enter Tryz.func62,Tryz.ntmps62;go_wp2_with fail;refine(KC.out _ HX.out.fr).mono ?_;rintro e w2 ⟨rfl,bW⟩;have gh:=aa (HX.out.keep bW);clear bW c0 c1 c2 c3 c4 c5 c6 c7 KC HX;obtain⟨c0,c1,c2,c3,c4,c5,c6,c7⟩:=gh.out.cells;try simp only at c0 c1 c2 c3 c4 c5 c6 c7
 go_wp2_with fail;refine(KB.out _).mono ?_;rintro e w3 ⟨rfl,dh⟩;have ly:=aa (gh.out.keep dh);clear dh c0 c1 c2 c3 c4 c5 c6 c7 KB gh;obtain⟨w4,qD⟩:∃W,w3.alloc (.cells #[.string ⟨st.toArray⟩] 9)=W:=⟨_,rfl⟩
 have jV:=aa (ly.out.keep (qD▸aH _ _));have CF:Hid (jm w4 (some ⟨w3.heap.size,0,none⟩) 1 ((List.range (0+1)).map SS)):=by
  show jm _ _ _ _;have e:(List.range (0+1)).map SS=[st]:=by rw[<-HS0.out];rfl
  rw[e,<-qD];exact World.ownsRow_lit w3 #[.string ⟨st.toArray⟩] 1 (bR _) (by simp[maxLen]) (by simp)
 have m9:Hid (∀k∈ak (some (⟨w3.heap.size,0,none⟩:Addr)),w.heap.size<k):=fun k hk=>by have :=ly.out.bx.lt;simp[ak]at hk;omega
 clear ly;go_wp2_with fail;clear qD;rw[<-HS0.out];go_loopg [1,9,29] il.length (fun gg x1 x9 x29 wr=>∃(k:Nat) (A':Option Addr) (c':Nat),k+gg=il.length/\x1= .string ⟨(SS k).toArray⟩/\x9= .slice A' (k+1) c'/\x29= .int .i64 k/\Hid (jm wr A' c' ((List.range (k+1)).map SS))/\Hid (∀k∈ak A',w.heap.size<k)/\Hid (Cx w wr ⟨iA,iC,lA,lC,oA,oC,bA,bC,vA,vC,gA,gC,nA,nC⟩ ⟨mx,ins,aM,outs,aT,aU,az,bY⟩));case atStart=>exact⟨0,_,_,by omega,rfl,rfl,rfl,CF,m9,jV⟩
 case round=>
  clear CF m9 jV;obtain⟨k,A',c',hk,rfl,rfl,rfl,HS,HB,eQ⟩:=hrel;have HK:=aa hk;have jg:k<=il.length:=by omega
  clear hk;by_cases bw:k<il.length
  ·have ml:(k:Int)<(il.length:Int):=by omega
   obtain⟨ab,o,s,hA,he,cx⟩:=(HR.out.keep eQ.out.fr).one bw;subst hA;have KN1:=KN.out wr eQ.out.fr k bw;rw[X7.out k,he.out]at KN1;have KN1:=aa KN1;have HNK:=aa (HN.out k);have CI:Hid (((List.range (k+1)).map SS).length=k+1):=by show _=_;simp
   obtain⟨d0,d1,d2,d3,d4,d5,d6,d7⟩:=eQ.out.cells;try simp only at d0 d1 d2 d3 d4 d5 d6 d7
   go_wp2_with fail;refine KN1.out.mono ?_;clear KN1;rintro e w5 ⟨rfl,ev⟩;have uH:=aa (eQ.out.keep ev);have FQ:=aa (HS.out.keep ev);clear ev d0 d1 d2 d3 d4 d5 d6 d7 cx;obtain⟨V,hV⟩:∃V:ByteArray,(⟨(SS (k+1)).toArray⟩:ByteArray)=V:=⟨_,rfl⟩
   have HV:=aa hV;rw[hV];clear hV;go_wp2_with (at_builtin;(refine qS _ rfl _ _ rfl A' c' ((List.range (k+1)).map SS) (k+1) rfl CI.out.symm (FQ.out.keep (aH _ _)) _ 1 1 [SS (k+1)] rfl rfl (fun j hj=>by(have oK:j=0:=by simpa using hj);subst oK;(show _=some (sv (SS (k+1))));unfold sv;rw[HV.out,dH];exact jd _ _ _) (by simp;omega) ?_;intro A6 c6 w6 hr6 gW hb6;have Jh:=aa hr6;have jo:=aa gW;have AN:=aa hb6;clear hr6 gW hb6))
   have zC:Hid (Cx w w6 ⟨iA,iC,lA,lC,oA,oC,bA,bC,vA,vC,gA,gC,nA,nC⟩ ⟨mx,ins,aM,outs,aT,aU,az,bY⟩):=by have h1:=uH.out.keep (aH w5 (.cells #[.string V] 9));exact⟨h1.fr.trans jo.out (fun x hx=> .inr (Nat.le_of_lt (HB.out x hx))),jo.out.at_ h1.bx (fun hm=>by have :=HB.out _ hm;omega)⟩
   have yM:Hid (jm w6 A6 c6 ((List.range (k+1+1)).map SS)):=by show jm _ _ _ _;rw[HNK.out];exact Jh.out
   have HN6:Hid (∀x∈ak A6,w.heap.size<x):=fun x hx=>by
    rcases AN.out x hx with h |h
    ·exact HB.out x h
    ·rw[h];have :=uH.out.bx.lt;simp;omega
   clear Jh jo AN uH FQ;go_roundg (gk-1);case measure=>have :=HK.out;omega
   case rel=>exact⟨k+1,A6,c6,by have :=HK.out;omega,by rw[HV.out],rfl,by go_num,yM,HN6,zC⟩
  ·obtain rfl :k=il.length:=by omega
   clear HK;go_wp2_with fail;go_ret2;exact⟨A',c',rfl,HS.out,eQ.out.fr⟩
theorem Bt (w:World)(g:Nat)(A:Option Addr)(n c:Nat)(hc:w.cell? ⟨g,1,none⟩=some (.slice A n c))(hn:n<=64)(s:List UInt8)(hs:s.length<=maxLen):
  Calls Tryz.prog 101 #[sv s, .pointer (some ⟨g,0,none⟩)] w fun e w'=>e= .returned (.bool (!Wp.bits s n))/\Fr [] w w':=by
 have KB:=aa (iM w s n hs (by omega));obtain⟨b,hb⟩:∃b,Wp.bits s n=b:=⟨_,rfl⟩
 rw[hb]at KB⊢;clear hb;unfold sv;go_enter Tryz.func101,Tryz.ntmps101;go_wp2_with fail;refine KB.out.mono ?_;rintro e w2 ⟨rfl,hf⟩;have HF:=aa hf;clear hf;go_wp2_with fail;go_ret;exact⟨rfl,HF.out⟩
theorem zl:∀args w,(callFunc 101 args).run Tryz.prog w= .ok (.enter 101 args) w:=enters_of Tryz.func101 (by kernel_rfl) rfl
def Lt (b:Int)(st:List UInt8)(A:Option Addr)(n c:Nat):Array Value:=#[.int .i64 b,sv st, .slice A n c]
theorem Dy (w:World)(H:Hd)(C:Pc)(h:fH w H C)(hv:Valid C)(b:Int)(hb:0<=b/\b<C.aT.length)(st:List UInt8)(gU:st.length<=maxLen)(A:Option Addr)(c:Nat)(il:List (List UInt8))(hr:RM w A il)(m7:∀s∈il,s.length<=maxLen)(hl:il.length<=1048576):
  Calls Tryz.prog 61 #[dj H C, .agg (Lt b st A il.length c)] w fun e w'=>e= .returned (.int .i64 (Wp.form C st il))/\Fr [] w w':=by
 obtain⟨w1,dP⟩:∃W,w.alloc (.cells (iz H C) 27)=W:=⟨_,rfl⟩
 have jH:Hid (Cx w w1 H C):=dP▸Cx.start w H C;obtain⟨wa,CN⟩:∃W,w1.alloc (.cells (Lt b st A il.length c) 43)=W:=⟨_,rfl⟩
 have NR:Hid (At wa w1.heap.size 43 (Lt b st A il.length c)):=CN▸At.new _ _ _;have NQ:=aa (jH.out.keep (CN▸aH _ _));have akS:=hv.i;have xo:=hv.l;have KC:=aa (fun W (hW:Fr [] w W)=>pY W H C (h.keep hW) hv);have KB:=aa (fun W=>iM W st C.aM.length gU (by omega));have KI:=aa (fun W (hW:Fr [] w W) (hs:Wp.bits st C.aM.length=true)=>wv W H C (h.keep hW) hv st hs);have KCT:Hid (∀W,Fr [] wa W->Calls Tryz.prog 100 #[.slice A il.length c, .func (.func 101) #[] #[.pointer (some ⟨w.heap.size,0,none⟩)]] W fun e w'=>e= .returned (.bool (il.any fun s=> !Wp.bits s C.ins.length))/\Fr [] W w'):=fun W hW=>
  xU W A c il 101 #[.pointer (some ⟨w.heap.size,0,none⟩)] (fun s=> !Wp.bits s C.ins.length) zl (hr.keep (NQ.out.fr.ag hW)) (by omega) (fun W' Kl s hs=>Bt W' w.heap.size H.iA C.ins.length H.iC (by rw[((hW.ag Kl).at_ NQ.out.bx (by simp)).cell];rfl) (by omega) s (m7 s hs))
 obtain⟨R,hR⟩:∃R,Wp.form C st il=R:=⟨_,rfl⟩
 rw[hR];unfold Wp.form at hR;obtain⟨b1,qk⟩:∃b,Wp.bits st C.aM.length=b:=⟨_,rfl⟩
 obtain⟨b2,iK⟩:∃b,(il.any fun s=> !Wp.bits s C.ins.length)=b:=⟨_,rfl⟩
 obtain⟨b3,Ng⟩:∃b,decide (Wp.fst C st=st)=b:=⟨_,rfl⟩
 have HR:Hid (R=if il.length=0 then 8 else if(!b1 ||b2)=true then 5 else if b3=true then 0 else 9):=by show _=_;rw[<-hR,qk,iK,<-Ng];simp only[aal]
 rw[qk]at KB KI;rw[iK]at KCT;rw[Ng]at KI;have d1:decide (b<0)=false:=aah (by omega);have d2:decide ((C.aT.length:Int)<=b)=false:=aah (by omega);have Tv:=aa (fun W (hW:Fr [] wa W)=>(show W.cell? ⟨w1.heap.size,0,none⟩=some (.int .i64 b)/\W.cell? ⟨w1.heap.size,1,none⟩=some (sv st)/\W.cell? ⟨w1.heap.size,2,none⟩=some (.slice A il.length c)from by have :=hW.at_ NR.out (by simp);refine⟨?_,?_,?_⟩<;>(rw[this.cell];rfl)));clear h hv gU hr m7 hR qk iK Ng;unfold Lt at *;unfold sv at *;obtain⟨Z,hZ⟩:∃Z:ByteArray,(⟨st.toArray⟩:ByteArray)=Z:=⟨_,rfl⟩
 simp only[hZ]at *;clear hZ;obtain⟨mx,ins,aM,outs,aT,aU,az,bY⟩:=C;obtain⟨iA,iC,lA,lC,oA,oC,bA,bC,vA,vC,gA,gC,nA,nC⟩:=H;simp only[dj,iz]at *;obtain⟨c0,c1,c2,c3,c4,c5,c6,c7⟩:=NQ.out.cells;try simp only at c0 c1 c2 c3 c4 c5 c6 c7
 go_enter Tryz.func61,Tryz.ntmps61;go_wp2_with fail;refine(KC.out _ NQ.out.fr).mono ?_;rintro e w2 ⟨rfl,bW⟩;have cw:=aa bW;have gh:=aa (NQ.out.keep bW);clear bW c0 c1 c2 c3 c4 c5 c6 c7 KC dP CN;obtain⟨c0,c1,c2,c3,c4,c5,c6,c7⟩:=gh.out.cells;try simp only at c0 c1 c2 c3 c4 c5 c6 c7
 obtain⟨a0,a1,a2⟩:=Tv.out w2 cw.out;by_cases h0:il.length=0
 ·have d3:((il.length:Int)==0)=true:=by simpa using h0
  have hr:R=8:=by rw[HR.out,aae h0]
  subst hr;clear h0 HR;go_wp2_with fail;go_ret;exact⟨rfl,gh.out.fr⟩
 ·have d3:((il.length:Int)==0)=false:=by simpa using h0
  have qc:Hid (R=if(!b1 ||b2)=true then 5 else if b3=true then 0 else 9):=by have :=HR.out;rw[aac h0]at this;exact this
  clear h0 HR;go_wp2_with fail;refine(KB.out _).mono ?_;rintro e w3 ⟨rfl,dh⟩;have db:=aa (cw.out.ag dh);have ly:=aa (gh.out.keep dh);clear dh c0 c1 c2 c3 c4 c5 c6 c7 a0 a1 a2 KB gh cw;obtain⟨c0,c1,c2,c3,c4,c5,c6,c7⟩:=ly.out.cells;try simp only at c0 c1 c2 c3 c4 c5 c6 c7
  obtain⟨a0,a1,a2⟩:=Tv.out w3 db.out;cases b1 with
  |false=>
   have hr:R=5:=qc.out;subst hr;go_wp2_with fail;go_ret;exact⟨rfl,ly.out.fr⟩
  |true=>
   have KI2:=aa (fun W hW=>KI.out W hW rfl);clear KI;go_wp2_with fail;refine(KCT.out _ db.out).mono ?_;rintro e w4 ⟨rfl,eS⟩;have gY:=aa (db.out.ag eS);have jV:=aa (ly.out.keep eS);clear eS c0 c1 c2 c3 c4 c5 c6 c7 a0 a1 a2 KCT ly db;obtain⟨c0,c1,c2,c3,c4,c5,c6,c7⟩:=jV.out.cells;try simp only at c0 c1 c2 c3 c4 c5 c6 c7
   obtain⟨a0,a1,a2⟩:=Tv.out w4 gY.out;cases b2 with
   |true=>
    have hr:R=5:=qc.out;subst hr;go_wp2_with fail;go_ret;exact⟨rfl,jV.out.fr⟩
   |false=>
    have AH:Hid (R=if b3=true then 0 else 9):=qc.out;clear qc;go_wp2_with fail;refine(KI2.out _ jV.out.fr).mono ?_;rintro e w5 ⟨rfl,ev⟩;have kO:=aa (jV.out.fr.ag ev);clear ev c0 c1 c2 c3 c4 c5 c6 c7 a0 a1 a2 KI2;cases b3 with
    |true=>
     have hr:R=0:=AH.out;subst hr;go_wp2_with fail;go_ret;exact⟨rfl,kO.out⟩
    |false=>
     have hr:R=9:=AH.out;subst hr;go_wp2_with fail;go_ret;exact⟨rfl,kO.out⟩
theorem JR (p:Nat->Bool)(n:Nat):(List.range n).any p=true↔∃k,k<n/\p k=true:=by rw[cq];simp[cH]
theorem yX (w:World)(H:Hd)(C:Pc)(h:fH w H C)(hv:Valid C)(mA:Option Addr)(mc:Nat)(am:List Ls)(hm:j3 w mA am)(hmf:∀x∈am,N6 x.l)(CP:am.length<=64)(b:Int)(hb:0<=b/\b<C.aT.length)(st:List UInt8)(gU:st.length<=maxLen)(A:Option Addr)(c:Nat)(il:List (List UInt8))(hr:RM w A il)(m7:∀s∈il,s.length<=maxLen)(hl:il.length<=1048576):
  Calls Tryz.prog 32 #[dj H C, .slice mA am.length mc, .agg (Lt b st A il.length c)] w fun e w'=>e= .returned (.int .i64 (Wp.OE C (am.map (·.l)) b st il))/\Fr [] w w':=by
 obtain⟨w1,dP⟩:∃W,w.alloc (.cells (iz H C) 27)=W:=⟨_,rfl⟩
 have jH:Hid (Cx w w1 H C):=dP▸Cx.start w H C;obtain⟨wa,CN⟩:∃W,w1.alloc (.cells (Lt b st A il.length c) 43)=W:=⟨_,rfl⟩
 have NR:Hid (At wa w1.heap.size 43 (Lt b st A il.length c)):=CN▸At.new _ _ _;have NQ:=aa (jH.out.keep (CN▸aH _ _));have mz:=hv.m1;have uY:=hv.m0;have KF:=aa (fun W (hW:Fr [] w W)=>Dy W H C (h.keep hW) hv b hb st gU A c il (hr.keep hW) m7 hl);obtain⟨F,hF⟩:∃F,Wp.form C st il=F:=⟨_,rfl⟩
 obtain⟨R,hR⟩:∃R,Wp.OE C (am.map (·.l)) b st il=R:=⟨_,rfl⟩
 rw[hR];unfold Wp.OE at hR;obtain⟨BD,hBD⟩:∃BD,Wp.bad C (am.map (·.l)) b st il=BD:=⟨_,rfl⟩
 rw[hF,hBD]at hR;have KST:Hid (F=0->∀W,Fr [] w W->Calls Tryz.prog 62 #[dj H C,sv st, .slice A il.length c] W fun e w'=>∃A' c',e= .returned (.tuple #[.slice A' (il.length+1) c', .int .i64 0])/\jm w' A' c' ((List.range (il.length+1)).map (Wp.Gb C st il))/\Fr [] W w'):=fun h0 W hW=>by obtain⟨k1,k2,k3,k4⟩:=Wp.Kt (hF.trans h0);exact yW W H C (h.keep hW) hv st k2 A c il (hr.keep hW) k3 hl
 obtain⟨VV,hVV⟩:∃VV:Nat->List UInt8,(fun k=>Wp.val C (Wp.Gb C st il k) il[k]!)=VV:=⟨_,rfl⟩
 have VT:∀k:Nat,Wp.val C (Wp.Gb C st il k) il[k]! =VV k:=fun k=>congrFun hVV k;have KVL:Hid (F=0->∀W,Fr [] w W->∀k,k<il.length->Calls Tryz.prog 63 #[dj H C,sv (Wp.Gb C st il k),sv il[k]!] W fun e w'=>e= .returned (.tuple #[sv (VV k), .int .i64 0])/\Fr [] W w'):=fun h0 W hW k hk=>by obtain⟨k1,k2,k3,k4⟩:=Wp.Kt (hF.trans h0);rw[<-VT];exact qx W H C (h.keep hW) hv _ _ (Wp.wu k2 k3 k (by omega)) (k3 _ (a8 hk))
 have lx:∀k,(VV k).length<=4096:=fun k=>by rw[<-VT,Wp.JB,Wp.FX C uY];omega
 have XZ:=aa (fun k W (hW:Fr [] w W)=>wG W H C (h.keep hW) hv mA mc am (hm.keep hW) hmf CP (VV k) (lx k));obtain⟨bn,u5⟩:∃bn:Nat,b=bn:=⟨b.toNat,by omega⟩
 have hbl:bn<C.aT.length:=by omega
 obtain⟨bb,bo,bx,hbA,hbe,cbx,-⟩:=h.b.one h.br hbl;have sr:0<=bx/\bx<=2*C.mx+1:=by have h1:=hv.b;unfold tX at h1;rw[ax,ep]at h1;rw[<-hbe.out];exact gO hv (h1.1 _ (a8 hbl))
 have KIS:=aa (fun k W=>zW W (VV k) bx sr.1 (by omega) (lx k));have OT:Hid (∀k,BD k=(!Wp.alw C (am.map (·.l)) (VV k) || (decide (k+1=il.length)&& !Wp.is (VV k) bx))):=fun k=>by rw[<-hBD];unfold Wp.bad;rw[VT,u5,Int.toNat_natCast,hbe.out]
 obtain⟨AL,hAL⟩:∃AL:Nat->Bool,(fun k=>Wp.alw C (am.map (·.l)) (VV k))=AL:=⟨_,rfl⟩
 have ae9:∀k,Wp.alw C (am.map (·.l)) (VV k)=AL k:=fun k=>congrFun hAL k;obtain⟨IS,hIS⟩:∃IS:Nat->Bool,(fun k=>Wp.is (VV k) bx)=IS:=⟨_,rfl⟩
 have ae7:∀k,Wp.is (VV k) bx=IS k:=fun k=>congrFun hIS k;simp only[ae9]at XZ OT;simp only[ae7]at KIS OT;have ON:Hid (F=0->(∃k,k<il.length/\BD k=true)->R=51):=fun h0 hk=>by rw[<-hR,aac (by simpa using h0),aae ((JR BD il.length).2 hk)]
 have HRG:Hid (F=0->(∀k,k<il.length->BD k=false)->R=0):=fun h0 hk=>by rw[<-hR,aac (by simpa using h0),aac];intro hc;obtain⟨k,h1,h2⟩:=(JR BD il.length).1 hc;rw[hk k h1]at h2;cases h2
 have HRF:Hid (¬F=0->R=F):=fun h0=>by rw[<-hR,aae h0]
 obtain⟨SS,XM⟩:∃SS,Wp.Gb C st il=SS:=⟨_,rfl⟩
 simp only[XM]at KST KVL;rw[hF]at KF;have Tv:=aa (fun W (hW:Fr [] wa W)=>(show W.cell? ⟨w1.heap.size,0,none⟩=some (.int .i64 b)/\W.cell? ⟨w1.heap.size,1,none⟩=some (sv st)/\W.cell? ⟨w1.heap.size,2,none⟩=some (.slice A il.length c)from by have :=hW.at_ NR.out (by simp);refine⟨?_,?_,?_⟩<;>(rw[this.cell];rfl)));have yv:Hid (w.cell? ⟨bb,bo+bn,none⟩=some (.int .i64 bx)):=cbx;have oN:=aa hr;clear h hv hm hmf hb gU hr m7 hF hR hBD hVV VT lx hbe cbx sr hAL ae9 hIS ae7 XM;unfold Lt at *;unfold sv at *;obtain⟨Z,hZ⟩:∃Z:ByteArray,(⟨st.toArray⟩:ByteArray)=Z:=⟨_,rfl⟩
 simp only[hZ]at *;clear hZ;obtain⟨mx,ins,aM,outs,aT,aU,az,bY⟩:=C;obtain⟨iA,iC,lA,lC,oA,oC,bA,bC,vA,vC,gA,gC,nA,nC⟩:=H;simp only[dj,iz]at *;try simp only at hbA hbl
 subst hbA u5;have asX:(bn:Int)<(aT.length:Int):=by omega
 obtain⟨c0,c1,c2,c3,c4,c5,c6,c7⟩:=NQ.out.cells;try simp only at c0 c1 c2 c3 c4 c5 c6 c7
 obtain⟨a0,a1,a2⟩:=Tv.out wa (Fr.refl _ _);go_enter Tryz.func32,Tryz.ntmps32;go_wp2_with fail;refine(KF.out _ NQ.out.fr).mono ?_;rintro e w2 ⟨rfl,bW⟩;have cw:=aa bW;have gh:=aa (NQ.out.keep bW);clear bW c0 c1 c2 c3 c4 c5 c6 c7 a0 a1 a2 KF dP CN;by_cases h0:F=0
 ·have afF:=aa (KST.out h0);have al5:=aa (KVL.out h0);have amM:=aa (ON.out h0);have amK:=aa (HRG.out h0);subst h0;clear KST KVL ON HRG HRF;obtain⟨c0,c1,c2,c3,c4,c5,c6,c7⟩:=gh.out.cells;try simp only at c0 c1 c2 c3 c4 c5 c6 c7
  obtain⟨a0,a1,a2⟩:=Tv.out w2 cw.out;go_wp2_with fail;refine(afF.out _ gh.out.fr).mono ?_;clear afF;rintro e w3 ⟨A3,c3x,rfl,hr3,dh⟩;have AH:=aa hr3;have db:=aa (cw.out.ag dh);have ly:=aa (gh.out.keep dh);clear hr3 dh c0 c1 c2 c3 c4 c5 c6 c7 a0 a1 a2 gh cw;obtain⟨g3,xp⟩:=AH.out.pos (by simp);subst xp;obtain⟨a0,a1,a2⟩:=Tv.out w3 db.out;go_wp2_with fail;clear a0 a1 a2;go_loopg [32] il.length (fun gg x32 wr=>∃k:Nat,k+gg=il.length/\x32= .int .i64 k/\Hid (Fr [] w3 wr)/\Hid (∀j,j<k->BD j=false));case atStart=>exact⟨0,by omega,rfl,Fr.refl _ _,fun j hj=>absurd hj (aI _)⟩
  case round=>
   obtain⟨k,hk,rfl,HFR,Fq⟩:=hrel;have HK:=aa hk;have jg:k<=il.length:=by omega
   clear hk;have eQ:=aa (ly.out.keep HFR.out);by_cases bw:k<il.length
   ·have ml:(k:Int)<(il.length:Int):=by omega
    have ZM:(k:Int)<(il.length:Int)+1:=(by omega)
    obtain⟨ab,o,s,hA,he,cx⟩:=(oN.out.keep eQ.out.fr).one bw;subst hA;have Xl:=HFR.out.aN (AH.out.cell (j:=k) (by simp;omega));have hsk:((List.range (il.length+1)).map SS)[k]! =SS k:=by rw[ae,aJ,nc (by omega)];rfl
    rw[hsk]at Xl;have HSC:Hid (wr.cell? ⟨g3,k,none⟩=some (.string ⟨(SS k).toArray⟩)):=Xl;have KV1:=aa (fun W (hW:Fr [] w W)=>al5.out W hW k bw);rw[he.out]at KV1;have HBK:=aa (OT.out k);have I8:=aa (XZ.out k);have KI1:=aa (KIS.out k);have HB1:Hid (BD k=true->R=51):=fun hb=>amM.out ⟨k,bw,hb⟩;obtain⟨V,hV⟩:∃V:ByteArray,(⟨(VV k).toArray⟩:ByteArray)=V:=⟨_,rfl⟩
    simp only[hV]at KV1 I8 KI1;obtain⟨al,hal⟩:∃al,AL k=al:=⟨_,rfl⟩
    obtain⟨is,his⟩:∃is,IS k=is:=⟨_,rfl⟩
    rw[hal]at I8 HBK;rw[his]at KI1 HBK;clear Xl hsk hV hal his;go_upto_region 8 with fail;refine aam ?_;refine bi (fun w':World=>Fr [] wr w') 6 (by kernel_rfl) ((Fr.refl _ wr).drew) (fun cZ=> ?_);apply TB 6 [(0,[0,6]),(1,[]),(2,[]),(3,[]),(4,[4,6]),(5,[])];kernel_rfl;rfl;· (repeat (apply eH;rfl;rfl;(· intro w bl;(try(have bl:=bl.resolve_left (aF _ _);(obtain⟨c0,c1,c2,c3,c4,c5,c6,c7⟩:=(eQ.out.keep bl).cells;try simp only at c0 c1 c2 c3 c4 c5 c6 c7);(have s0:=bl.aN HSC.out)));go_simp<;>with_reducible rfl);try simp only[Act.put,q5,q6,q7]));exact eG
    exact cZ;intro cZ;refine R2 6 (by kernel_rfl) (by rfl) cZ fun K hK aw=> ?_
    (go_simp;refine(KV1.out _ (eQ.out.fr.ag aw)).mono ?_;rintro e w5 ⟨rfl,ev⟩;dsimp only)
    refine hK.out _ _ (.inl rfl) (fun vF=> ?_);clear hK K;try simp only[Act.put,q5,q6,q7]
    apply TB 3 [(7,[]),(8,[]),(9,[])];kernel_rfl;rfl;· (repeat (apply eH;rfl;rfl;(· intro w bl;go_simp<;>with_reducible rfl);try simp only[Act.put,q5,q6,q7]));exact eG
    exact vF;intro vF;refine R1 (i:=10) (o:= ?ai3) (by kernel_rfl) (by rfl) ?_;intro K hK;go_simp;refine hK.out _ _ (.inl rfl) (fun fo=> ?_);clear hK K;try simp only[Act.put,q5,q6,q7]
    refine R1 (i:=11) (o:= ?ai2) (by kernel_rfl) (by rfl) ?_;intro K hK;go_simp;refine hK.out _ _ (.inl rfl) (fun jh=> ?_);clear hK K;try simp only[Act.put,q5,q6,q7]
    refine aD (by kernel_rfl) ?_ _;refine NoPanic.normal ?_;have kO:=aa (HFR.out.ag (aw.ag ev));have uH:=aa (ly.out.keep kO.out);clear ev aw;obtain⟨c0,c1,c2,c3,c4,c5,c6,c7⟩:=uH.out.cells;try simp only at c0 c1 c2 c3 c4 c5 c6 c7
    go_wp2_with fail;refine(I8.out _ uH.out.fr).mono ?_;clear I8;rintro e w6 ⟨rfl,gW⟩;have jo:=aa (kO.out.ag gW);have zC:=aa (uH.out.keep gW);clear gW c0 c1 c2 c3 c4 c5 c6 c7 uH kO;cases al with
    |false=>
     have hb:BD k=true:=HBK.out;have hr:=HB1.out hb;subst hr;go_wp2_with fail;go_ret;exact⟨rfl,zC.out.fr⟩
    |true=>
     obtain⟨c0,c1,c2,c3,c4,c5,c6,c7⟩:=zC.out.cells;try simp only at c0 c1 c2 c3 c4 c5 c6 c7
     obtain⟨a0,a1,a2⟩:=Tv.out w6 (db.out.ag jo.out);have Te:IntKind.i64.wrap ((il.length:Int)-1)=(il.length:Int)-1:=IntWalk.i64_in _ (by omega);by_cases QF:k+1=il.length
     ·have d5:((k:Int)==(il.length:Int)-1)=true:=by rw[beq_iff_eq];omega
      have pF:Hid (BD k= !is):=by have :=HBK.out;rw[aai QF]at this;show _=_;simpa using this
      have cb:=zC.out.fr.aN yv.out;clear HBK;go_wp2_with fail;refine(KI1.out _).mono ?_;clear KI1;rintro e w7 ⟨rfl,gy⟩;have rL:=aa (jo.out.ag gy);have HX7:=aa (zC.out.keep gy);clear gy c0 c1 c2 c3 c4 c5 c6 c7 a0 a1 a2 cb QF d5 Te;cases is with
      |false=>
       have hr:=HB1.out pF.out;subst hr;go_wp2_with fail;go_ret;exact⟨rfl,HX7.out.fr⟩
      |true=>
       have jw:Hid (∀j,j<k+1->BD j=false):=fun j hj=>by
        rcases bv j k with h1 |h1
        ·exact Fq.out j h1
        ·rw[show j=k by omega];exact pF.out
       go_wp2_with fail;go_roundg (gk-1);case measure=>have :=HK.out;omega
       case rel=>exact⟨k+1,by have :=HK.out;omega,by go_num,rL,jw⟩
     ·have d5:((k:Int)==(il.length:Int)-1)=false:=by rw[aar];omega
      have pF:Hid (BD k=false):=by have :=HBK.out;rw[aah QF]at this;show _=_;simpa using this
      have jw:Hid (∀j,j<k+1->BD j=false):=fun j hj=>by
       rcases bv j k with h1 |h1
       ·exact Fq.out j h1
       ·rw[show j=k by omega];exact pF.out
      clear HBK;go_wp2_with fail;go_roundg (gk-1);case measure=>have :=HK.out;omega
      case rel=>exact⟨k+1,by have :=HK.out;omega,by go_num,jo,jw⟩
   ·obtain rfl :k=il.length:=by omega
    have hr:=amK.out Fq.out;subst hr;clear HK;go_wp2_with fail;go_ret;exact⟨rfl,eQ.out.fr⟩
 ·have d0:(F==(0:Int))=false:=by simpa using h0
  have hr:=HRF.out h0;subst hr;clear h0;go_wp2_with fail;go_ret;exact⟨rfl,gh.out.fr⟩
noncomputable def OY (q:Qn)(b:Int)(st:List UInt8)(il:List (List UInt8)):Int:=
 if ¬sX q=0 then sX q else if b=q.bad then Wp.OE q.C (q.am.map (·.l)) b st il else 4
theorem II (w:World)(H:Qh)(q:Qn)(h:qm w H q)(b:Int)(st:List UInt8)(gU:st.length<=maxLen)(A:Option Addr)(c:Nat)(il:List (List UInt8))(hr:RM w A il)(m7:∀s∈il,s.length<=maxLen)(hl:il.length<=1048576):
  Calls Tryz.prog 14 #[lD H q, .agg (Lt b st A il.length c)] w fun e w'=>e= .returned (.int .i64 (OY q b st il))/\Fr [] w w':=by
 obtain⟨w1,dP⟩:∃W,w.alloc (.cells (mZ H q) 30)=W:=⟨_,rfl⟩
 have oO:Hid (At w1 w.heap.size 30 (mZ H q)):=dP▸At.new _ _ _;have dI:Hid (Fr [] w w1):=dP▸aH _ _;obtain⟨wa,CN⟩:∃W,w1.alloc (.cells (Lt b st A il.length c) 43)=W:=⟨_,rfl⟩
 have NR:Hid (At wa w1.heap.size 43 (Lt b st A il.length c)):=CN▸At.new _ _ _;have HFA:Hid (Fr [] w1 wa):=CN▸aH _ _;have oo:=aa (dI.out.ag HFA.out);have KU:=aa (nh wa H q (h.keep oo.out));have KP:Hid (sX q=0->b=q.bad->∀W,Fr [] w W->Calls Tryz.prog 32 #[dj H.H q.C, .slice H.aA q.am.length H.aC, .agg (Lt b st A il.length c)] W fun e w'=>e= .returned (.int .i64 (Wp.OE q.C (q.am.map (·.l)) b st il))/\Fr [] W w'):=fun h0 hb W hW=>by obtain⟨hv,FK,ss⟩:=F4 h0;have hq:=h.keep hW;exact yX W H.H q.C hq.c hv H.aA H.aC q.am hq.a (ss.afe hv.m1) (by have :=ss.1;rwa[aq]at this) b (by rw[hb];exact⟨FK.1,FK.2.1⟩) st gU A c il (hr.keep hW) m7 hl
 obtain⟨R,hR⟩:∃R,OY q b st il=R:=⟨_,rfl⟩
 rw[hR];unfold OY at hR;obtain⟨u,hu⟩:∃u,sX q=u:=⟨_,rfl⟩
 obtain⟨p,hp⟩:∃p,Wp.OE q.C (q.am.map (·.l)) b st il=p:=⟨_,rfl⟩
 rw[hu,hp]at hR;rw[hu]at KU KP;rw[hp]at KP;have HR:Hid (R=if ¬u=0 then u else if b=q.bad then p else 4):=hR.symm;have HQ:=aa (fun W (hW:Fr [] wa W)=>jy ((HFA.out.ag hW).at_ oO.out (by simp)));have Tv:=aa (fun W (hW:Fr [] wa W)=>(show W.cell? ⟨w1.heap.size,0,none⟩=some (.int .i64 b)/\W.cell? ⟨w1.heap.size,1,none⟩=some (sv st)/\W.cell? ⟨w1.heap.size,2,none⟩=some (.slice A il.length c)from by have :=hW.at_ NR.out (by simp);refine⟨?_,?_,?_⟩<;>(rw[this.cell];rfl)));clear h gU hr m7 hR hu hp;unfold Lt at *;unfold sv at *;obtain⟨Z,hZ⟩:∃Z:ByteArray,(⟨st.toArray⟩:ByteArray)=Z:=⟨_,rfl⟩
 simp only[hZ]at *;clear hZ;simp only[lD,mZ,dj,iz]at KU KP dP⊢;obtain⟨q0,q1,q2,q3,q4,q5,q6,q7,q8,q9,mL,nH,nF,nE⟩:=HQ.out wa (Fr.refl _ _);go_enter Tryz.func14,Tryz.ntmps14;go_wp2_with fail;refine KU.out.mono ?_;rintro e w2 ⟨rfl,bW⟩;have cw:=aa bW;have n8:=aa (oo.out.ag bW);clear bW q0 q1 q2 q3 q4 q5 q6 q7 q8 q9 mL nH nF nE KU dP CN;obtain⟨q0,q1,q2,q3,q4,q5,q6,q7,q8,q9,mL,nH,nF,nE⟩:=HQ.out w2 cw.out;obtain⟨a0,a1,a2⟩:=Tv.out w2 cw.out;by_cases h0:u=0
 ·have d0:(u==(0:Int))=true:=by simpa using h0
  by_cases hb:b=q.bad
  ·have d1:(b==q.bad)=true:=by simpa using hb
   have hr:R=p:=by rw[HR.out,aac (by simpa using h0),aae hb]
   have KP1:=aa (KP.out h0 hb);subst h0;subst hr;clear hb HR KP;go_wp2_with fail;refine(KP1.out _ n8.out).mono ?_;clear KP1;rintro e w3 ⟨rfl,dh⟩;have oP:=aa (n8.out.ag dh);clear dh;go_wp2_with fail;go_ret;exact⟨rfl,oP.out⟩
  ·have d1:(b==q.bad)=false:=by simpa using hb
   have hr:R=4:=by rw[HR.out,aac (by simpa using h0),aac hb]
   subst h0;subst hr;clear hb HR KP;go_wp2_with fail;go_ret;exact⟨rfl,n8.out⟩
 ·have d0:(u==(0:Int))=false:=by simpa using h0
  have hr:R=u:=by rw[HR.out,aae h0]
  subst hr;clear h0 HR KP;go_wp2_with fail;go_ret;exact⟨rfl,n8.out⟩
end
section
open Go.RowKit
theorem OwnX.Yv {Y:List Nat}{w0 w2 w3:World}{L:aO}{S:Sv}(h:OwnX Y w0 w2 L S)(hs:Stay (L.own w2) w2 w3)(hf:Fr [] w0 w3):OwnX Y w0 w3 L S:=by have ou:=hs.size;obtain⟨T,h1,h2⟩:=hs;refine⟨⟨h.own.sv.fr h1 (fun k hk bw e=> ?_),h.own.nw,hf⟩,fun k hk=>⟨aK (h.fx k hk).1 ou,(h.fx k hk).2⟩⟩;exact h2 k (aO.bT.2 ⟨bw,e⟩) hk
def q00 (q:Qn):Qn:={ q with ls:=[],ks:=[] }
def OC (H:Qh):Qh:={ H with lA:=none,lC:=0,kA:=none,kC:=0 }
theorem j3.LO (w:World)(A:Option Addr):j3 w A []:=⟨fun h=>absurd h (Nat.lt_irrefl _),fun j hj=>absurd hj (aI _)⟩
theorem qm.zero {w:World}{H:Qh}{q:Qn}(h:qm w H q):qm w (OC H) (q00 q):=
 ⟨h.c,h.a,j3.LO _ _,j3.LO _ _,h.aL,bR _,bR _,h.br,h.dr,h.ur⟩
def ivF (C:Pc):Sv:=(Sv.new (fF C 2)).du (sA C C.aM.length)
def ivD (C:Pc)(am:List (List Int)):Sv:=(Sv.new (fF C 2)).du (kj C am 0++rf C 0 C.aM.length)
def Tb (C:Pc)(am ls:List (List Int)):Sv:=(ivD C am).du (CM C ls)
theorem F2 {C:Pc}(hv:Valid C):∀x∈C.aT,0<=x/\x<=2*C.mx+1:=fun x hx=>by have h:=hv.b;unfold tX at h;rw[ax,ep]at h;exact gO hv (h.1 x hx)
theorem DZ {C:Pc}(hv:Valid C):∀l∈sA C C.aM.length,Ra l/\ft (fF C 2).toNat l=0:=fun l hl=>by obtain⟨b0,b1,b2⟩:=ba2 hv;have h:=aay hv l hl;exact⟨h.ra (by omega),(h.mono (by omega)).OE (by omega)⟩
theorem BL {C:Pc}(hv:Valid C){am:List (List Int)}(ha:FG C.mx am):∀l∈kj C am 0++rf C 0 C.aM.length,Ra l/\ft (fF C 2).toNat l=0:=fun l hl=>by
 obtain⟨b0,b1,b2⟩:=ba2 hv;have e1:=sP C 0;have p0:=vK hv.m0 (C:=C) (f:=0) (by omega);have h:Li (fF C 2) l:=by
  rcases ah.1 hl with hl |hl
  ·unfold kj at hl;rcases ah.1 hl with hl |hl
   ·exact(Q8 hv p0 l hl).mono (by rw[show(0:Int)+1=1 from rfl]at e1;omega)
   ·exact(Rf hv ha p0 l hl).mono (by rw[show(0:Int)+1=1 from rfl]at e1;omega)
  ·exact YK hv (f:=0) (by omega) l hl
 exact⟨h.ra (by omega),(h.mono (by omega)).OE (by omega)⟩
theorem GO {C:Pc}(hv:Valid C){am:List (List Int)}(ha:am.length<=64):(sA C C.aM.length).length<=100000/\(kj C am 0++rf C 0 C.aM.length).length<=100000:=by have h1:=xz C C.aM.length;have h2:=xy hv (fF C 0);have h3:=xC C am (fF C 0);have h4:=DQ C 0 C.aM.length;have h5:=vW hv;have h6:=hv.l;rw[aj];unfold kj;rw[aj];omega
theorem acO {W:World}{A:Option Addr}{c:Nat}{hs:List Ls}{t:TypeId}(hr:j3 W A hs)(ho:∀k∈zN A hs,k<W.heap.size):CB (W.alloc (.cells #[.slice A hs.length c] t)) (some ⟨W.heap.size,0,none⟩) [⟨A,c,hs⟩]:=
 ⟨fun _=>⟨_,_,rfl,fun j hj=>by
  have oK:j=0:=by simpa using hj
  subst oK;exact(At.new W t #[.slice A hs.length c]).cell 0⟩,fun x hx=>by
  rw[ai.1 hx];exact hr.keep (aH _ _),fun x hx k hk=>by
  rw[ai.1 hx]at hk;exact aK (ho k hk) (aH _ _).size⟩
theorem acN {W:World}{A A':Option Addr}{c c':Nat}{hs sZ:List Ls}{t:TypeId}(hr:j3 W A hs)(ho:∀k∈zN A hs,k<W.heap.size)(Tm:j3 W A' sZ)(ho':∀k∈zN A' sZ,k<W.heap.size):CB (W.alloc (.cells #[.slice A hs.length c, .slice A' sZ.length c'] t)) (some ⟨W.heap.size,0,none⟩) [⟨A,c,hs⟩,⟨A',c',sZ⟩]:=
 ⟨fun _=>⟨_,_,rfl,fun j hj=>by
  have oK:j=0\/j=1:=by simp at hj;omega
  rcases oK with rfl |rfl
  ·exact(At.new W t #[.slice A hs.length c, .slice A' sZ.length c']).cell 0
  ·exact(At.new W t #[.slice A hs.length c, .slice A' sZ.length c']).cell 1⟩,fun x hx=>by
  rcases av.1 hx with rfl |hx
  ·exact hr.keep (aH _ _)
  ·rw[ai.1 hx];exact Tm.keep (aH _ _),fun x hx k hk=>by
  rcases av.1 hx with rfl |hx
  ·exact aK (ho k hk) (aH _ _).size
  ·rw[ai.1 hx]at hk;exact aK (ho' k hk) (aH _ _).size⟩
theorem P2 {w W:World}{H:Qh}{q:Qn}(m8:∀W,Fr [] w W->fH W H.H q.C)(hv:Valid q.C)(hW:Fr [] w W){A:Option Addr}{c:Nat}{hs:List Ls}(hr:j3 W A hs)(ho:∀k∈zN A hs,k<W.heap.size)(hm:hs.map (·.l)=sA q.C q.C.aM.length)(t:TypeId):
  Calls Tryz.prog 19 #[lD H q, .slice (some ⟨W.heap.size,0,none⟩) 1 1] (W.alloc (.cells #[.slice A hs.length c] t)) (DlP (W.alloc (.cells #[.slice A hs.length c] t)) H q (ivF q.C)):=by
 have Vy:[(⟨A,c,hs⟩:zz)].flatMap zz.cl=sA q.C q.C.aM.length:=by rw[List.flatMap_singleton];exact hm
 have h:=py (W.alloc (.cells #[.slice A hs.length c] t)) H q (m8 _ (hW.ag (aH _ _))) hv (some ⟨W.heap.size,0,none⟩) 1 [⟨A,c,hs⟩] (acO hr ho) (fun k hk=>by simp[ak]at hk;subst hk;simp) (by simp)
  (by rw[Vy];exact DZ hv) (by rw[Vy];have :=xz q.C q.C.aM.length;have :=hv.l;omega)
 rw[Vy]at h;exact h
theorem P1 {w W:World}{H:Qh}{q:Qn}(m8:∀W,Fr [] w W->fH W H.H q.C)(hv:Valid q.C)(ss:FG q.C.mx (q.am.map (·.l)))(hW:Fr [] w W){A A':Option Addr}{c c':Nat}{hs sZ:List Ls}(hr:j3 W A hs)(ho:∀k∈zN A hs,k<W.heap.size)(Tm:j3 W A' sZ)(ho':∀k∈zN A' sZ,k<W.heap.size)
  (hm:hs.map (·.l)=kj q.C (q.am.map (·.l)) 0)(hm':sZ.map (·.l)=rf q.C 0 q.C.aM.length)(t:TypeId):
  Calls Tryz.prog 19 #[lD H q, .slice (some ⟨W.heap.size,0,none⟩) 2 2] (W.alloc (.cells #[.slice A hs.length c, .slice A' sZ.length c'] t)) (DlP (W.alloc (.cells #[.slice A hs.length c, .slice A' sZ.length c'] t)) H q (ivD q.C (q.am.map (·.l)))):=by
 have Vy:[(⟨A,c,hs⟩:zz),⟨A',c',sZ⟩].flatMap zz.cl=kj q.C (q.am.map (·.l)) 0++rf q.C 0 q.C.aM.length:=by rw[List.flatMap_cons,List.flatMap_singleton];show hs.map (·.l)++sZ.map (·.l)=_;rw[hm,hm']
 have h:=py (W.alloc (.cells #[.slice A hs.length c, .slice A' sZ.length c'] t)) H q (m8 _ (hW.ag (aH _ _))) hv (some ⟨W.heap.size,0,none⟩) 2 [⟨A,c,hs⟩,⟨A',c',sZ⟩] (acN hr ho Tm ho') (fun k hk=>by simp[ak]at hk;subst hk;simp) (by simp)
  (by rw[Vy];exact BL hv ss) (by rw[Vy];have :=(GO hv (am:=q.am.map (·.l)) (ss.1)).2;omega)
 rw[Vy]at h;exact h
theorem YS {w w6 w7:World}{H:Qh}{q:Qn}(hv:Valid q.C){ls:List (List Int)}(hl:∀c∈ls,fU q.C c)(hn:ls.length<=1024)(ss:FG q.C.mx (q.am.map (·.l))){g:Nat}{L:aO}(hd:At w6 g 83 (qK H q L.a))(ho:OwnX [g] w w6 L (ivD q.C (q.am.map (·.l))))
  {A7:Option Addr} {c7:Nat} {sY:List Ls} (FH:NwLs w7 w6.heap.size A7 c7 sY) (CQ:sY.map (·.l)=CM q.C ls) (gy:Fr [] w6 w7):
  Calls Tryz.prog 20 #[.pointer (some ⟨g,0,none⟩), .slice A7 sY.length c7] w7 fun e w8=>e= .returned (.tuple #[])/\∃L8,L8.a=L.a/\At w8 g 83 (qK H q L8.a)/\OwnX [g] w w8 L8 (Tb q.C (q.am.map (·.l)) ls):=by
 obtain⟨b0,b1,b2⟩:=ba2 hv;have Kc:=ho.more gy (Y:=zN A7 sY) (fun k hk=>FH.marks k hk);have hd7:=gy.at_ hd (by simp);have hlen:sY.length=ls.length:=by have :=aao List.length CQ;simpa[CM]using this
 have qh:=(GO hv (am:=q.am.map (·.l)) ss.1).2;have tO:(ivD q.C (q.am.map (·.l))).Fit (fF q.C 2).toNat (0+(kj q.C (q.am.map (·.l)) 0++rf q.C 0 q.C.aM.length).length):=
  (Sv.Fit.new b0 b1).du (by omega) (fun c hc=>(BL hv ss c hc).1)
 have hc:=ru w7 (L.shut w6) _ Kc tO g H q hd7 (by simp) A7 c7 sY FH.JT (fun k hk=>bk _ (an _ hk)) (fun x hx k hk=>bk _ (bk _ (fv.2 ⟨x,hx,hk⟩)))
  (fun x hx=>by have h1:=(BG hv hl x.l (CQ▸aG.2 ⟨x,hx,rfl⟩)).1;exact(h1.mono (by omega)).OE (by omega)) (by omega)
 rw[CQ]at hc;refine hc.mono ?_;rintro e w8 ⟨rfl,L8,h1,h2,h3⟩;refine⟨rfl,L8,h1,?_,h2.less (fun k hk=>an _ hk)⟩;rw[h1];exact h3.at_ hd7 (by simp)
theorem adk {C:Pc}(hv:Valid C){am ls:List (List Int)}(ss:FG C.mx am)(hl:∀c∈ls,fU C c)(hn:ls.length<=1024):(ivF C).Ok 0/\(Tb C am ls).Ok 0:=by obtain⟨b0,b1,b2⟩:=ba2 hv;have h1:=GO hv ss.1;have hlen:(CM C ls).length=ls.length:=aq ..;refine⟨((Sv.Fit.new b0 b1).du (by omega) (fun c hc=>(DZ hv c hc).1)).ok,?_⟩;exact(((Sv.Fit.new b0 b1).du (by omega) (fun c hc=>(BL hv ss c hc).1)).du (by omega) (fun c hc=>((BG hv hl c hc).1.ra (by omega)))).ok
theorem adm {w w5 w8:World}{H:Qh}{q:Qn}(m8:∀W,Fr [] w W->fH W H.H q.C)(hv:Valid q.C){g1 g2:Nat}{L1 L8:aO}{S1 S8:Sv}(Av:At w5 g1 83 (qK H q L1.a))(ho1:OwnX [g1] w w5 L1 S1)(ok:S1.Ok 0)(Tp:At w8 g2 83 (qK H q L8.a))(MW:OwnX [g2] w5 w8 L8 S8)(h5:w5.heap.size<=g2)
  (A:Option Addr)(c:Nat)(hs:List Ls)(hr:j3 w A hs)(hl:∀x∈hs,fU q.C x.l)(hn:hs.length<=1024)(I:Nat->Sv->Prop)(Z:Sv->Prop)(h0:I 0 S1)(hI:∀k,k<hs.length->Jw (((hs[k]!).l.map (jp q.C 0)).map fun x=> -x) (I k) (I (k+1)) Z):
  Calls Tryz.prog 22 #[.pointer (some ⟨g1,0,none⟩), .slice A hs.length c, .int .i64 0] w8 fun e w9=>∃b,e= .returned (.bool b)/\(b=false->∃S,Z S)/\Fr [] w w9/\At w9 g2 83 (qK H q L8.a)/\OwnX [g2] w w9 L8 S8:=by
 have mp:=MW.own.fr;have Og:=ho1.own.fr.ag mp;have Kc:=ho1.more mp (Y:=g2::L8.own w8) (fun k hk=>by
  rcases av.1 hk with rfl |hk
  ·exact⟨h5,(MW.fx _ (ai.2 rfl)).1⟩
  ·obtain⟨k1,k2⟩:=aO.bT.1 hk;refine⟨?_,k1⟩;rcases bv k w5.heap.size with h |h
   ·exact absurd k2 (MW.own.nw k h)
   ·exact h)
 have hc:=lq w8 (L1.shut w5) S1 Kc ok g1 H q (mp.at_ Av (by simp)) (by simp) (m8 w8 Og) hv 0 (by omega) A c hs (hr.keep Og) hl hn I Z h0 hI;refine hc.mono ?_;rintro e w9 ⟨S',b,rfl,-,hb,L',-,Qu,gU⟩;refine⟨b,rfl,fun FL=> ?_,Qu.own.fr,gU.at_ Tp (by simp),(MW.zM ho1.own.fr).Yv (gU.less (fun k hk=>bk _ (aY _ hk))) Qu.own.fr⟩;rw[aac (by rw[FL];decide)]at hb;exact⟨_,hb⟩
theorem adl {w yw:World}{H:Qh}{q:Qn}{g:Nat}{L:aO}{S:Sv}(hd:At yw g 83 (qK H q L.a))(ho:OwnX [g] w yw L S)(ok:S.Ok 0){x:Int}(hx: -1000000<=x/\x<=1000000)(I J Z:Sv->Prop)(hI:I S)(hA:Jw [x] I J Z):
  Calls Tryz.prog 36 #[.pointer (some ⟨g,0,none⟩), .slice (some ⟨yw.heap.size,0,none⟩) 1 1] (yw.alloc (.cells #[.int .i64 x] 3)) fun e w'=>∃b,e= .returned (.bool b)/\(if b=true then ∃S,J S else ∃S,Z S)/\Fr [] w w':=by
 obtain⟨u1,red,rC,D,C,Q,hW,hQ⟩:=hA S hI;have hf:Fr [] yw (yw.alloc (.cells #[.int .i64 x] 3)):=aH _ _;have hm:=ho.more hf (Y:=ak (some ⟨yw.heap.size,0,none⟩)) (fun k hk=>by simp[ak]at hk;subst hk;exact⟨ap _,by simp⟩);have ta:Rd (yw.alloc (.cells #[.int .i64 x] 3)) (some ⟨yw.heap.size,0,none⟩) [x]:=fun _=>⟨_,_,rfl,fun j hj=>by
  have oK:j=0:=by simpa using hj
  subst oK;exact(At.new yw 3 #[.int .i64 x]).cell 0⟩
 have hc:=sE _ (L.shut yw) S hm ok g H q (hf.at_ hd (by simp)) (some ⟨yw.heap.size,0,none⟩) 1 [x] (hm.B7 ta (fun k hk=>bk _ hk)) (fun j hj=>by
  have oK:j=0:=by simpa using hj
  subst oK;exact⟨by show -9223372036854775808<=x;omega,by show x<=9223372036854775807;omega⟩) (by simp) (by simp) red rC D C Q u1 hW
 refine hc.mono ?_;rintro e w' ⟨S',r,k1,k2,rfl,L',k3,k4,k5⟩;have hq:=hQ S' r k1;refine⟨r==2,rfl,?_,k4.own.fr⟩;by_cases h2:r=2
 ·rw[aae h2]at hq;rw[aae (by simpa using h2)];exact⟨_,hq⟩
 ·rw[aac h2]at hq;rw[aac (by simpa using h2)];exact⟨_,hq⟩
def IvP (Z1 Z2 J Z3:Sv->Prop)(w:World)(e:Ending)(w':World):Prop:=Fr [] w w'/\((e= .returned (.int .i64 0)/\∃S,J S)\/(e= .returned (.int .i64 81)/\((∃S,Z1 S)\/(∃S,Z2 S)\/∃S,Z3 S)))
theorem uS (w:World)(H:Qh)(q:Qn)(h:qm w H q)(A:Option Addr)(c:Nat)(hs:List Ls)(hr:j3 w A hs)(hR:iF q (hs.map (·.l))=0)(hn:hs.length<=1024)
  (I1 I2:Nat->Sv->Prop)(Z1 Z2 J Z3:Sv->Prop)(h1:I1 0 (ivF q.C))(vH:∀k,k<hs.length->Jw (((hs[k]!).l.map (jp q.C 0)).map fun x=> -x) (I1 k) (I1 (k+1)) Z1)
  (h2:I2 0 (Tb q.C (q.am.map (·.l)) (hs.map (·.l)))) (hI2:∀k,k<hs.length->Jw (((hs[k]!).l.map (jp q.C 1)).map fun x=> -x) (I2 k) (I2 (k+1)) Z2)
  (h3:Jw [dE 0 (q.C.aT[q.bad.toNat]!)] (I2 hs.length) J Z3):
  Calls Tryz.prog 16 #[lD H q, .slice A hs.length c] w (IvP Z1 Z2 J Z3 w):=by
 obtain⟨w1,dP⟩:∃W,w.alloc (.cells (mZ H q) 30)=W:=⟨_,rfl⟩
 have cX:Fr [] w w1:=dP▸aH _ _;have dI:=aa cX;have oO:Hid (At w1 w.heap.size 30 (mZ H q)):=dP▸At.new _ _ _;have rD:Hid (∀c∈hs.map (·.l),Ra c):=fun c hc=>by obtain⟨y,hy,rfl⟩:=aG.1 hc;obtain⟨k,hk,rfl⟩:=List.getElem_of_mem hy;have :=(hr.2 k hk).2.1;rw[ae,af hk]at this;exact this
 have XV:Hid (∀W,Fr [] w1 W->Calls Tryz.prog 17 #[lD H q, .slice A hs.length c] W fun e w'=>e= .returned (.int .i64 0)/\Fr [] W w'):=fun W hW=>by have :=sJ W H q ((h.keep cX).keep hW) A c hs ((hr.keep cX).keep hW) (by omega);rw[hR]at this;exact this
 obtain⟨k1,k2,k3⟩:=zY hR rD.out;obtain⟨hv,FK,ss⟩:=F4 k1;have QC:∀x∈hs,fU q.C x.l:=fun x hx=>k3 _ (aG.2 ⟨x,hx,rfl⟩);have ux:∀x∈hs.map (·.l),fU q.C x:=k3;have On:(hs.map (·.l)).length<=1024:=by rw[aq];exact hn
 have hz:=h.zero;obtain⟨H',hH'⟩:∃H',OC H=H':=⟨_,rfl⟩
 obtain⟨q',Xs⟩:∃q',q00 q=q':=⟨_,rfl⟩
 have hC:q'.C=q.C:=by rw[<-Xs];rfl
 have hAm:q'.am=q.am:=by rw[<-Xs];rfl
 have hBd:q'.bad=q.bad:=by rw[<-Xs];rfl
 have hLs:q'.ls=[]:=by rw[<-Xs];rfl
 have hKs:q'.ks=[]:=by rw[<-Xs];rfl
 rw[hH',Xs]at hz;simp only[<-hC,<-hAm,<-hBd]at h1 vH h2 hI2 h3 hv FK ss QC ux;have m8:=hz.c;have HCI:Hid (∀W,Fr [] w W->fH W H'.H q'.C):=fun W hW=>m8.keep hW;have HQZ:Hid (∀W,Fr [] w W->qm W H' q'):=fun W hW=>hz.keep hW;have OM:=aa hr;obtain⟨k1,k2,-⟩:=FK;obtain⟨bd,FK⟩:∃bd:Nat,q'.bad=(bd:Int):=⟨q'.bad.toNat,by omega⟩
 have aeS:bd<q'.C.aT.length:=by omega
 rw[show q'.bad.toNat=bd by omega]at h3;obtain⟨bb,bo,hbA,hbc⟩:=m8.b (by omega);have hxb:0<=q'.C.aT[bd]! /\q'.C.aT[bd]! <=4097:=by have :=F2 hv _ (a8 aeS);have :=hv.m1;omega
 have HBC:=aa (fun W (hW:Fr [] w W)=>hW.aN (hbc bd aeS));obtain⟨xb,qg⟩:∃xb,q'.C.aT[bd]! =xb:=⟨_,rfl⟩
 simp only[qg]at h3 hxb HBC;have D7:=pj (b:=0) (l:=xb) (by omega) hxb;have XW:=aa (fun W=>tE W 0 xb (by omega) hxb);obtain⟨Y,hY⟩:∃Y,dE 0 xb=Y:=⟨_,rfl⟩
 simp only[hY]at h3 D7 XW;have Et:=adk hv ss ux On;have KFI:=aa (fun W (hW:Fr [] w W)=>AV W H'.H q'.C (m8.keep hW) hv);have Fm:=aa (fun W (hW:Fr [] w W)=>Da W H'.H q'.C (m8.keep hW) hv 0 (by omega));have aeU:fF q'.C 0<=262144:=by unfold fF;omega
 have KFR:=aa (fun W (hW:Fr [] w W)=>AU W H' q' (hz.keep hW) hv hLs hKs (ss.afe hv.m1) (by have :=ss.1;rw[aq]at this;exact this) 0 (by omega) aeU);have KL1:=aa (fun W (hW:Fr [] w W) A c (hs:List Ls) (k1:j3 W A hs) (k2:∀k∈zN A hs,k<W.heap.size) (k3:hs.map (·.l)=sA q'.C q'.C.aM.length)=>P2 (H:=H') (q:=q') HCI.out hv hW (c:=c) k1 k2 k3 28);have KL2:=aa (fun W (hW:Fr [] w W) A c (hs:List Ls) A' c' (sZ:List Ls) (k1:j3 W A hs) (k2:∀k∈zN A hs,k<W.heap.size) (k4:j3 W A' sZ) (k5:∀k∈zN A' sZ,k<W.heap.size) (k3:hs.map (·.l)=kj q'.C (q'.am.map (·.l)) 0) (k6:sZ.map (·.l)=rf q'.C 0 q'.C.aM.length)=>P1 (H:=H') (q:=q') HCI.out hv ss hW (c:=c) (c':=c') k1 k2 k4 k5 k3 k6 28);have CV:Hid (∀(w6:World) (g a:Nat),Fr [] w w6->At w6 g 83 (qK H' q' a)->Calls Tryz.prog 21 #[.pointer (some ⟨g,0,none⟩), .slice A hs.length c, .int .i64 0] w6 fun e w'=>∃A' c' sZ,e= .returned (.slice A' sZ.length c')/\NwLs w' w6.heap.size A' c' sZ/\sZ.map (·.l)=CM q'.C (hs.map (·.l))/\Fr [] w6 w'):=fun w6 g a uq hd=>tV w6 g a H' q' hd (m8.keep uq) hv 0 (by omega) A c hs (hr.keep uq) QC hn;have XZ:Hid (∀(w5 w6 w7:World) (g:Nat) (L:aO),At w6 g 83 (qK H' q' L.a)->OwnX [g] w5 w6 L (ivD q'.C (q'.am.map (·.l)))->∀A7 c7 sY,NwLs w7 w6.heap.size A7 c7 sY->sY.map (·.l)=CM q'.C (hs.map (·.l))->Fr [] w6 w7->Calls Tryz.prog 20 #[.pointer (some ⟨g,0,none⟩), .slice A7 sY.length c7] w7 fun e w8=>e= .returned (.tuple #[])/\∃L8,L8.a=L.a/\At w8 g 83 (qK H' q' L8.a)/\OwnX [g] w5 w8 L8 (Tb q'.C (q'.am.map (·.l)) (hs.map (·.l)))):=
  fun w5 w6 w7 g L hd ho A7 c7 sY FH CQ gy=>YS hv ux On ss hd ho FH CQ gy
 have KF1:Hid (∀(wq:World),Fr [] w wq->∀(w5 w8:World) (g1 g2:Nat) (L1 L8:aO),At w5 g1 83 (qK H' q' L1.a)->OwnX [g1] wq w5 L1 (ivF q'.C)->At w8 g2 83 (qK H' q' L8.a)->OwnX [g2] w5 w8 L8 (Tb q'.C (q'.am.map (·.l)) (hs.map (·.l)))->w5.heap.size<=g2->Calls Tryz.prog 22 #[.pointer (some ⟨g1,0,none⟩), .slice A hs.length c, .int .i64 0] w8 fun e w9=>∃b,e= .returned (.bool b)/\(b=false->∃S,Z1 S)/\Fr [] wq w9/\At w9 g2 83 (qK H' q' L8.a)/\OwnX [g2] wq w9 L8 (Tb q'.C (q'.am.map (·.l)) (hs.map (·.l)))):=
  fun wq J8 w5 w8 g1 g2 L1 L8 d1 o1 d8 o8 hg=>adm (fun W hW=>HCI.out W (J8.ag hW)) hv d1 o1 Et.1 d8 o8 hg A c hs (hr.keep J8) QC hn I1 Z1 h1 vH
 have KF2:Hid (∀(wq:World),Fr [] w wq->∀(w9:World) (g2:Nat) (L8:aO),Fr [] wq w9->At w9 g2 83 (qK H' q' L8.a)->OwnX [g2] wq w9 L8 (Tb q'.C (q'.am.map (·.l)) (hs.map (·.l)))->Calls Tryz.prog 22 #[.pointer (some ⟨g2,0,none⟩), .slice A hs.length c, .int .i64 1] w9 (FoP [g2] wq w9 L8.a (I2 hs.length) Z2)):=
  fun wq J8 w9 g2 L8 hf hd ho=>lq w9 L8 _ ho Et.2 g2 H' q' hd (by simp) (m8.keep (J8.ag hf)) hv 1 (by omega) A c hs (hr.keep (J8.ag hf)) QC hn I2 Z2 h2 hI2
 have KNV:Hid (∀(wq:World),Fr [] w wq->∀(yw:World) (g:Nat) (L:aO) (S:Sv),At yw g 83 (qK H' q' L.a)->OwnX [g] wq yw L S->S.Ok 0->I2 hs.length S->Calls Tryz.prog 36 #[.pointer (some ⟨g,0,none⟩), .slice (some ⟨yw.heap.size,0,none⟩) 1 1] (yw.alloc (.cells #[.int .i64 Y] 3)) fun e w'=>∃b,e= .returned (.bool b)/\(if b=true then ∃S,J S else ∃S,Z3 S)/\Fr [] wq w'):=
  fun wq J8 yw g L S hd ho ok hI=>adl hd ho ok D7 _ J Z3 hI h3
 have m9:Hid (∀(W:World),At W w.heap.size 30 (mZ H' q')->W.cell? ⟨w.heap.size,4,none⟩=some (.slice (some ⟨bb,bo,none⟩) q'.C.aT.length H'.H.bC)/\W.cell? ⟨w.heap.size,11,none⟩=some (.int .i64 (bd:Int))):=fun W hW=>by obtain⟨-,-,-,-,p4,-,-,-,-,-,-,p11,-,-⟩:=jy hW;rw[hbA]at p4;rw[FK]at p11;exact⟨p4,p11⟩
 have hsw:∀W,At W w.heap.size 30 (mZ H q)->At ((W.setCell ⟨w.heap.size,9,none⟩ (.slice none 0 0)).setCell ⟨w.heap.size,10,none⟩ (.slice none 0 0)) w.heap.size 30 (mZ H' q'):=fun W hW=>by have :=(hW.eu 9 (.slice none 0 0)).eu 10 (.slice none 0 0);rw[<-hH',<-Xs];exact this
 have tZ:=aa hsw;have HQC:=aa (fun W (hW:At W w.heap.size 30 (mZ H' q'))=>jy hW);simp only[lD,mZ]at XV KL1 KL2 KFR dP⊢;simp only[dj,iz]at KFI Fm;clear h hr hR hz m8 hv ss QC ux On Et D7 hY hbA hbc FK qg hxb h1 vH h2 hI2 h3 hsw hC hAm hBd hLs hKs hH' Xs aeU k1 k2 cX rD OM;go_enter Tryz.func16,Tryz.ntmps16;go_upto_region 1 with fail;obtain⟨q0,q1,q2,q3,q4,q5,q6,q7,q8,q9,mL,nH,nF,nE⟩:=jy oO.out;go_wp2_with fail;refine(XV.out _ (Fr.refl _ w1)).mono ?_;clear q0 q1 q2 q3 q4 q5 q6 q7 q8 q9 mL nH nF nE;clear XV;rintro e w2 ⟨rfl,bW⟩;have cw:=aa (dI.out.ag bW);have vg:=aa (oO.out.keep bW);clear dI oO bW dP;have r9:=vg.out.cell 9;have WV:=vg.out.cell 10;simp[mZ]at r9 WV;have f9:=vg.out.frozen 9;have f10:=vg.out.frozen 10;go_upto_region 5 with fail;obtain⟨wq,J8⟩:∃W,(w2.setCell ⟨w.heap.size,9,none⟩ (.slice none 0 0)).setCell ⟨w.heap.size,10,none⟩ (.slice none 0 0)=W:=⟨_,rfl⟩
 rw[J8];have HQQ:=aa (tZ.out _ vg.out);rw[J8]at HQQ;have OR:Hid (Fr [] w wq):=by rw[<-J8];exact(cw.out.setCell (.inr (ap _)) _).setCell (.inr (ap _)) _
 clear tZ cw vg r9 WV f9 f10 J8;have KF1:=aa (KF1.out wq OR.out);have KF2:=aa (KF2.out wq OR.out);have KNV:=aa (KNV.out wq OR.out);refine aam ?_;refine bi (fun w':World=>Fr [] wq w') 5 (by kernel_rfl) ((Fr.refl _ wq).drew) (fun cZ=> ?_);apply TB 3 [(0,[0,5]),(1,[]),(2,[2,3,5])];kernel_rfl;rfl;· (repeat (apply eH;rfl;rfl;(· intro w bl;(try(have bl:=bl.resolve_left (aF _ _);(obtain⟨q0,q1,q2,q3,q4,q5,q6,q7,q8,q9,mL,nH,nF,nE⟩:=HQC.out _ (HQQ.out.keep bl))));go_simp<;>with_reducible rfl);try simp only[Act.put,q5,q6,q7]));exact eG
 exact cZ;intro cZ;refine R2 3 (by kernel_rfl) (by rfl) cZ fun K hK aw=> ?_
 (go_simp;refine(KFI.out _ (OR.out.ag aw)).mono ?_;rintro e w3 ⟨A3,c3,Tj,rfl,Oo,hm3,dh⟩;dsimp only);have om:=aa Oo;have HM3:=aa hm3;have db:=aa (aw.ag dh);clear Oo hm3 dh
 refine hK.out _ _ (.inr ?_) (fun iS=> ?_)
 ·first |exact db.out |exact aw.alloc _ |exact aw
 clear hK K;try simp only[Act.put,q5,q6,q7]
 refine R2 4 (by kernel_rfl) (by rfl) iS fun K hK aw=> ?_;go_simp;refine hK.out _ _ (.inr ?_) (fun Aw=> ?_)
 ·first |exact db.out |exact aw.alloc _ |exact aw
 clear hK K;try simp only[Act.put,q5,q6,q7]
 refine R2 5 (by kernel_rfl) (by rfl) Aw fun K hK aw=> ?_
 (go_simp;refine(KL1.out _ (OR.out.ag db.out) _ _ _ om.out.JT (fun k hk=>(om.out.marks k hk).2) HM3.out).mono ?_;rintro e w5 ⟨g1,L1,rfl,hg1,Av,ho1⟩;dsimp only);have zJ:=aa Av;have kt:=aa (ho1.zM aw);clear hg1 Av ho1 KL1 KFI om HM3 db
 refine hK.out _ _ (.inl rfl) (fun u6=> ?_);clear hK K;try simp only[Act.put,q5,q6,q7]
 refine R1 (i:=6) (o:= ?anZ) (by kernel_rfl) (by rfl) ?_;intro K hK;go_simp;refine hK.out _ _ (.inl rfl) (fun vF=> ?_);clear hK K;try simp only[Act.put,q5,q6,q7]
 refine aD (by kernel_rfl) ?_ _;refine NoPanic.normal ?_;have kO:=aa (OR.out.ag kt.out.own.fr);have HQ5:=aa (HQQ.out.keep kt.out.own.fr);try clear aw
 try clear cZ
 go_upto_region 6 with fail;refine aam ?_;refine bi (fun w':World=>Fr [] w5 w') 7 (by kernel_rfl) ((Fr.refl _ w5).drew) (fun cZ=> ?_);apply TB 4 [(0,[0,7]),(1,[1,2,6,7]),(3,[]),(4,[4,5,7])];kernel_rfl;rfl;· (repeat (apply eH;rfl;rfl;(· intro w bl;(try(have bl:=bl.resolve_left (aF _ _);(obtain⟨q0,q1,q2,q3,q4,q5,q6,q7,q8,q9,mL,nH,nF,nE⟩:=HQC.out _ (HQ5.out.keep bl))));go_simp<;>with_reducible rfl);try simp only[Act.put,q5,q6,q7]));exact eG
 exact cZ;intro cZ;refine R2 2 (by kernel_rfl) (by rfl) cZ fun K hK aw=> ?_
 (go_simp;refine(KFR.out _ (kO.out.ag aw)).mono ?_;rintro e wF ⟨AF,cF,hsF,rfl,hnF,hmF,hfF⟩;dsimp only);have HNF:=aa hnF;have yN:=aa hmF;have Yg:=aa hfF;clear hnF hmF hfF
 refine hK.out _ _ (.inr ?_) (fun Aw=> ?_)
 ·first |exact aw.ag Yg.out |exact aw.ag TA.out |exact aw.alloc _ |exact aw
 clear hK K;try simp only[Act.put,q5,q6,q7]
 refine R2 5 (by kernel_rfl) (by rfl) Aw fun K hK aw=> ?_
 (go_simp;refine(Fm.out _ (kO.out.ag aw)).mono ?_;rintro e wL ⟨AL,cL,hsL,rfl,hnL,hmL,hfL⟩;dsimp only);have FR:=aa hnL;have OP:=aa hmL;have TA:=aa hfL;clear hnL hmL hfL
 refine hK.out _ _ (.inr ?_) (fun u6=> ?_)
 ·first |exact aw.ag Yg.out |exact aw.ag TA.out |exact aw.alloc _ |exact aw
 clear hK K;try simp only[Act.put,q5,q6,q7]
 refine R2 6 (by kernel_rfl) (by rfl) u6 fun K hK aw=> ?_
 (have X8:=aa aw;go_simp)
 refine hK.out _ _ (.inr ?_) (fun vF=> ?_)
 ·first |exact aw.ag Yg.out |exact aw.ag TA.out |exact aw.alloc _ |exact aw
 clear hK K;try simp only[Act.put,q5,q6,q7]
 refine R2 7 (by kernel_rfl) (by rfl) vF fun K hK aw=> ?_
 (go_simp;refine(KL2.out _ (kO.out.ag X8.out) _ _ _ _ _ _ (by first |exact HNF.out.JT |exact HNF.out.JT.keep TA.out) (by first |exact(fun k hk=>(HNF.out.marks k hk).2) |exact(fun k hk=>aK (HNF.out.marks k hk).2 TA.out.size)) (by first |exact FR.out.JT |exact FR.out.JT.keep Yg.out) (by first |exact(fun k hk=>(FR.out.marks k hk).2) |exact(fun k hk=>aK (FR.out.marks k hk).2 Yg.out.size)) yN.out OP.out).mono ?_;rintro e w6 ⟨g2,L2,rfl,fE,qj,ho2⟩;dsimp only);have n8:=aa (aE aw.size fE);have OS:=aa qj;have vk:=aa (ho2.zM aw);clear fE qj ho2 KL2 KFR Fm HNF yN Yg FR OP TA X8
 refine hK.out _ _ (.inl rfl) (fun Km=> ?_);clear hK K;try simp only[Act.put,q5,q6,q7]
 refine R1 (i:=8) (o:= ?anY) (by kernel_rfl) (by rfl) ?_;intro K hK;go_simp;refine hK.out _ _ (.inl rfl) (fun OA=> ?_);clear hK K;try simp only[Act.put,q5,q6,q7]
 refine aD (by kernel_rfl) ?_ _;refine NoPanic.normal ?_;have jo:=aa (OR.out.ag (kt.out.own.fr.ag vk.out.own.fr));try clear aw
 try clear cZ
 have KA:=aa (CV.out w6 g2 L2.a jo.out OS.out);clear CV jo;go_wp2_with fail;refine KA.out.mono ?_;clear KA;rintro e w7 ⟨A7,c7,sY,rfl,FH,CQ,gy⟩;have KB:=aa (XZ.out w5 w6 w7 g2 L2 OS.out vk.out A7 c7 sY FH CQ gy);clear FH CQ gy XZ OS vk;go_wp2_with fail;refine KB.out.mono ?_;clear KB;rintro e w8 ⟨rfl,L8,-,Tp,MW⟩;have KC:=aa (KF1.out w5 w8 g1 g2 L1 L8 zJ.out kt.out Tp MW n8.out);clear Tp MW KF1 zJ kt n8;go_wp2_with fail;refine KC.out.mono ?_;clear KC;rintro e w9 ⟨b1,rfl,nN,qH,hd9,Qu⟩;have yO:=aa qH;have HZ1:=aa nN;have KD:=aa (KF2.out w9 g2 L8 qH hd9 Qu);have HD9:=aa hd9;clear qH nN hd9 Qu KF2;cases b1 with
 |false=>
  clear KD;obtain⟨sz,ou⟩:=HZ1.out rfl;have Wo:=aa ou;clear HZ1 ou;go_wp2_with fail;go_ret;exact⟨OR.out.ag yO.out, .inr ⟨rfl, .inl ⟨sz,Wo.out⟩⟩⟩
 |true=>
  clear HZ1 yO;go_wp2_with fail;refine KD.out.mono ?_;clear KD;rintro e yw ⟨S10,b2,rfl,Et,iK,L10,aas,Vi,gU⟩;have yu:=aa Vi.own.fr;have pF:=aa iK;cases b2 with
  |false=>
   clear Et iK aas Vi gU;go_wp2_with fail;go_ret;exact⟨OR.out.ag yu.out, .inr ⟨rfl, .inr (.inl ⟨S10,pF.out⟩)⟩⟩
  |true=>
   have KE:=aa (KNV.out yw g2 L10 S10 (by rw[aas];exact gU.at_ HD9.out (by simp)) Vi Et iK);have amT:=aa (HQQ.out.keep yu.out);obtain⟨p4,p11⟩:=m9.out yw amT.out;have cb:=HBC.out yw (OR.out.ag yu.out);clear Et iK aas Vi gU pF KNV HD9;go_wp2_with fail;refine(XW.out _).mono ?_;rintro e w11 ⟨rfl,rfl⟩;go_wp2_with fail;refine KE.out.mono ?_;clear KE p4 p11 cb;rintro e w12 ⟨b3,rfl,Ng,aeB⟩;have OU:=aa Ng;have agC:=aa aeB;clear Ng aeB;cases b3 with
   |false=>
    go_wp2_with fail;go_ret;exact⟨OR.out.ag agC.out, .inr ⟨rfl, .inr (.inr OU.out)⟩⟩
   |true=>
    go_wp2_with fail;go_ret;exact⟨OR.out.ag agC.out, .inl ⟨rfl,OU.out⟩⟩
end
end Go.Proofs.YtjmmpfjcpdepjaaGreatDoor
