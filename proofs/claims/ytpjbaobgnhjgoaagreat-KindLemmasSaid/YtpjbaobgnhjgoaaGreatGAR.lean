/- Parts of a proof. -/
import Derived.Test.YtpjbaobgnhjgoaaGreatGAQ
import Derived.Shelf.Strings.Builder1
set_option linter.unusedVariables false
set_option linter.unusedSimpArgs false
set_option maxHeartbeats 8000000
set_option maxRecDepth 100000
namespace Go.Proofs.YtpjbaobgnhjgoaaGreat
section
open Go.RowKit Go.Shelf
theorem OS:(Tryz.prog.info? 5).map (fun i=>(i.zero,i.size,i.bytes))=some (some (.int .u8 0),1,1):=by kernel_rfl
theorem RD:(Tryz.prog.info? 173).map (·.size)=some 2:=by kernel_rfl
theorem aaL:liesAt Tryz.prog Tryz.prog.depth 173 (2/Tryz.prog.cellsOf 173) 0 173 1=true:=by kernel_rfl
abbrev IsB(B b:Nat)(bs:List Value)(w:World):Prop:=Lib.IsBuilder 173 5 B b bs w
theorem ID(b:Nat)(w:World)(h0:w.cell? ⟨b,0,none⟩=some (.pointer (some ⟨b,0,none⟩))):
  Calls Tryz.prog 169 #[.pointer (some ⟨b,0,none⟩)] w fun e w'=>e= .returned (.tuple #[])/\w'=w:=by
 obtain⟨j,J,_⟩:=Option.map_eq_some_iff.1 RD;go_enter Tryz.func169,Tryz.ntmps169;go_wp2;rw[Lib.run_neq_ptr_same w _ Tryz.underlying171 J];go_wp2;go_end0;exact⟨rfl,rfl⟩
theorem E1(b:Nat)(w:World)(h0:w.cell? ⟨b,0,none⟩=some (.pointer none))(J:w.shape? b=some (173,2))(wY:w.frozen? ⟨b,0,none⟩=false):
  Calls Tryz.prog 169 #[.pointer (some ⟨b,0,none⟩)] w fun e w'=>e= .returned (.tuple #[])/\w'=w.setCell ⟨b,0,none⟩ (.pointer (some ⟨b,0,none⟩)):=by
 obtain⟨j,hj,ab⟩:=Option.map_eq_some_iff.1 RD;go_enter Tryz.func169,Tryz.ntmps169;go_wp2;rw[Lib.run_to_unsafe w ⟨b,0,none⟩ Tryz.underlying171 Tryz.underlying196 hj (by rw[ab];decide) J (Nat.zero_lt_succ 1)];simp only[Result.andThen];rw[Oper.upon_value];go_wp2;rw[run_callFunc_extern Tryz.func184 (by kernel_rfl) (by kernel_rfl) (by kernel_rfl) (e:=Extern.AbiNoEscape.same) (by kernel_rfl)];rw[Lib.run_noEscape];simp only[Result.andThen];rw[Oper.upon_value];go_wp2;rw[Lib.run_from_unsafe w ⟨b,0,none⟩ Tryz.underlying196 Tryz.underlying171 hj J aaL];simp only[Result.andThen];rw[Oper.upon_value];go_wp2;go_end0;exact⟨rfl,rfl⟩
theorem E2(B b:Nat)(bs:List Value)(w:World)(h:IsB B b bs w):
  Calls Tryz.prog 169 #[.pointer (some ⟨b,0,none⟩)] w fun e w'=>e= .returned (.tuple #[])/\(Lib.BuilderAt 173 5 B b (.pointer (some ⟨b,0,none⟩)) bs w'/\Below B w w'):=by
 rcases h with h |h
 ·refine(E1 b w h.cell0 h.shape h.frozen0).mono ?_;rintro e w' ⟨rfl,rfl⟩;exact⟨rfl,h.used _,(Below.refl B w).setCell (p:=⟨b,0,none⟩) h.1 _⟩
 ·refine(ID b w h.cell0).mono ?_;rintro e w' ⟨rfl,rfl⟩;exact⟨rfl,h,Below.refl B _⟩
theorem EW(B b:Nat)(bs:List Value)(c:Int)(w:World)(h:IsB B b bs w)(hlen:bs.length+1<=140737488355328)(ab:B<=w.heap.size):
  Calls Tryz.prog 150 #[.pointer (some ⟨b,0,none⟩), .int .u8 c] w fun e w'=>e= .returned .nilIface/\(Lib.BuilderAt 173 5 B b (.pointer (some ⟨b,0,none⟩)) (bs++[.int .u8 c]) w'/\Below B w w'):=by
 obtain⟨i0,hi,zq,pj,AD⟩:=info_parts OS;have KC:=E2 B b bs w h;go_enter Tryz.func150,Tryz.ntmps150;go_wp2_with fail;refine KC.mono ?_;rintro e w1 ⟨rfl,h1,nq⟩;obtain⟨hB,v,J,dD,dV⟩:=h1;have c0:w1.cell? ⟨b,0,none⟩=some (.pointer (some ⟨b,0,none⟩)):=by rw[Lib.cell_of_heap J];rfl
 have c1:w1.cell? ⟨b,1,none⟩=some v:=by rw[Lib.cell_of_heap J];rfl
 go_wp2_with (at_builtin;refine wpList_append_own _ rfl _ _ 98 rfl B 5 i0 (.int .u8 0) 1 1 Tryz.underlying98 hi zq pj AD rfl (by decide) _ _ _ rfl (dD.alloc _) ⟨w1.heap.size,0,none⟩ 1 1 [.int .u8 c] rfl rfl ?c1 ?c2 ?c3 ?c4 ?c5 ?_)
 case c1=>
  intro j u hj
  match j,hj with
  |0,hj=>simp at hj;subst hj;simp[Addr.add]
 case c2=>intro u hu;simp at hu;subst hu;rfl
 case c3=>unfold maxLen;omega
 case c4=>omega
 case c5=>have :=nq.size;simp;omega
 intro v' w2 Zs Ct _;have bt:b<w1.heap.size:=by
  rcases bN b w1.heap.size with h' |h'
  ·exact h'
  ·simp[gX h']at J
 have kZ:w2.heap[b]? =some (.cells #[.pointer (some ⟨b,0,none⟩),v] 173 (0,0)):=by rw[Ct.block b (by simp;omega) (fun e=>dV e.symm),Lib.alloc_old w1 _ b bt];exact J
 have d0:w2.cell? ⟨b,0,none⟩=some (.pointer (some ⟨b,0,none⟩)):=by rw[Lib.cell_of_heap kZ];rfl
 have d1:w2.cell? ⟨b,1,none⟩=some v:=by rw[Lib.cell_of_heap kZ];rfl
 have f1:w2.frozen? ⟨b,1,none⟩=false:=Lib.frozen_of_heap kZ 1;obtain⟨g,cap,rfl⟩:∃g cap,v'= .slice (some ⟨g,0,none⟩) (bs.length+1) cap:=by
  rcases Zs.2 with⟨_,h0⟩ |⟨g,cap,cur,hv,_⟩
  ·omega
  ·exact⟨g,cap,hv⟩
 go_wp2;go_ret;refine⟨rfl,?_,?_⟩
 ·exact Lib.BuilderAt.put (T:=173) (e:=5) hB kZ (bs':=bs++[.int .u8 c]) (by simpa using Zs) (by decide)
 ·exact((nq.alloc (by have :=nq.size;omega) _).grown Ct (by have :=nq.size;simp;omega) (fun k hk=>(dD.lt k hk).1)).setCell (p:=⟨b,1,none⟩) hB _
structure rZ(B b:Nat)(l:List UInt8)(w:World):Prop where
 is:IsB B b (Lib.byteCells l) w
 le:B<=w.heap.size
 fresh:l=[]->w.heap[b]? =some (.cells #[.pointer none, .slice none 0 0] 173 (0,0))
theorem rZ.start(w:World):rZ w.heap.size w.heap.size [] (w.alloc (.cells #[.pointer none, .slice none 0 0] 173)):=
 ⟨Lib.fresh_isBuilder _ _ w,((Fr.refl [] w).alloc _).size,fun _=>heap_alloc_new w _⟩
theorem Sq{B b:Nat}{bs:List Value}{w w':World}(h:IsB B b bs w)(hf:Fr [] w w'):IsB B b bs w':=by
 have key:∀p,Lib.BuilderAt 173 5 B b p bs w->Lib.BuilderAt 173 5 B b p bs w':=fun p ⟨h1,v,h2,h3,h4⟩=>by
  have bt:b<w.heap.size:=by
   rcases bN b w.heap.size with J |J
   ·exact J
   ·simp[gX J]at h2
  exact⟨h1,v,(hf.block b bt (by simp)).trans h2,hf.own h3 (by simp),h4⟩
 exact h.elim (fun h=> .inl (key _ h)) (fun h=> .inr (key _ h))
theorem rZ.keep{B b:Nat}{l:List UInt8}{w w':World}(h:rZ B b l w)(hf:Fr [] w w'):rZ B b l w':=
 ⟨Sq h.is hf,aE h.le hf.size,fun e=>by
  have h2:=h.fresh e;have bt:b<w.heap.size:=by
   rcases bN b w.heap.size with J |J
   ·exact J
   ·simp[gX J]at h2
  exact(hf.block b bt (by simp)).trans h2⟩
theorem rZ.write{B b:Nat}{l:List UInt8}{w:World}(h:rZ B b l w)(c:UInt8)(hl:l.length+1<=140737488355328):
  Calls Tryz.prog 150 #[.pointer (some ⟨b,0,none⟩), .int .u8 (c.toNat:Int)] w fun e w'=>e= .returned .nilIface/\rZ B b (l++[c]) w'/\Below B w w':=
 (EW B b (Lib.byteCells l) c.toNat w h.is (by simpa[Lib.byteCells]using hl) h.le).mono fun e w' ⟨h1,h2,J⟩=>
  ⟨h1,⟨.inr (by simpa[Lib.byteCells]using h2),aE h.le J.size,fun e=>by simp at e⟩,J⟩
theorem rZ.string{B b:Nat}{l:List UInt8}{w:World}(hb:rZ B b l w):
  Calls Tryz.prog 151 #[.pointer (some ⟨b,0,none⟩)] w fun e w'=>e= .returned (.string ⟨l.toArray⟩)/\Below B w w':=by
 have mixed:Tryz.prog.follows Departure.mixedOrders=true:=by kernel_rfl
 by_cases h0:l=[]
 ·subst h0;have J:=hb.fresh rfl;have c1:w.drew.cell? ⟨b,1,none⟩=some (.slice none 0 0):=by have :w.drew.heap[b]? =some (.cells #[.pointer none, .slice none 0 0] 173 (0,0)):=J;rw[Lib.cell_of_heap this];rfl
  have ad:(Builtin.unsafeString_ #[189,3] 9 #[.pointer none, .int .i64 0]).run Tryz.prog w.drew= .ok (.string .empty) w.drew:=Lib.run_unsafeString_none w.drew _ _ _ _;have ab:(Builtin.unsafeSliceData_ #[98] 189 #[.slice none 0 0]).run Tryz.prog w.drew= .ok (.pointer none) w.drew:=rfl;clear hb J;go_enter Tryz.func151,Tryz.ntmps151;go_wp2
  go_region_o
  all_goals (go_wp2;go_ret;exact⟨rfl,Below.drew (Below.refl B w)⟩)
 ·obtain⟨p,hB,v,J,dD,dV⟩:∃p,Lib.BuilderAt 173 5 B b p (Lib.byteCells l) w:=by
   rcases hb.is with h |h
   ·exact⟨_,h⟩
   ·exact⟨_,h⟩
  have uZ:l.length≠0:=by simpa using h0
  rw[Lib.byteCells_length]at dD;obtain⟨g,cap,cur,rfl,Tv,hg,um,Ft,kF,Zj⟩:∃g cap cur,v= .slice (some ⟨g,0,none⟩) l.length cap/\B<=g/\w.heap[g]? =some (.cells cur 5 (0,0))/\l.length<=cap/\cap<=maxLen/\cur.size=cap*1/\cur.toList.take (l.length*1)=Lib.byteCells l:=by
   rcases dD.2 with⟨_,hz⟩ |⟨g,cap,cur,hv,r⟩
   ·exact absurd hz uZ
   ·exact⟨g,cap,cur,hv,r⟩
  have c1:w.drew.cell? ⟨b,1,none⟩=some (.slice (some ⟨g,0,none⟩) l.length cap):=by have :w.drew.heap[b]? =some (.cells #[p, .slice (some ⟨g,0,none⟩) l.length cap] 173 (0,0)):=J;rw[Lib.cell_of_heap this];rfl
  have ab:(Builtin.unsafeSliceData_ #[98] 189 #[.slice (some ⟨g,0,none⟩) l.length cap]).run Tryz.prog w.drew= .ok (.pointer (some ⟨g,0,none⟩)) w.drew:=
   Lib.run_unsafeSliceData_row _ _ _ _ _ _ (by omega)
  have ad:(Builtin.unsafeString_ #[189,3] 9 #[.pointer (some ⟨g,0,none⟩), .int .i64 l.length]).run Tryz.prog w.drew= .ok (.string ⟨l.toArray⟩) (w.drew.freeze ⟨g,0,none⟩ l.length):=by refine Lib.run_unsafeString_row w.drew 189 3 9 5 Tryz.underlying189 (by kernel_rfl) g cur.size (by have pK:w.drew.heap[g]? =some (.cells cur 5 (0,0)):=hg;simp[World.shape?,pK]) l h0 (by omega) (by unfold maxLen at Ft;omega) ?_;intro j x hx;have :=dD.cells (g:=g) rfl j (.int .u8 x.toNat) (by simp[Lib.byteCells,hx]);exact this
  clear hb J;go_enter Tryz.func151,Tryz.ntmps151;go_wp2
  go_region_o
  all_goals (go_wp2;go_ret;exact⟨rfl,Lib.below_freeze (Below.drew (Below.refl B w)) (p:=⟨g,0,none⟩) Tv _⟩)
theorem ub(w:World)(H:Hd)(C:Pc)(h:eZ w H C)(hv:Valid C)(f:Int)(hf:0<=f/\f<=80):
  Calls Tryz.prog 118 #[bY H C, .int .i64 f] w fun e w'=>e= .returned (.bool true)/\Fr [] w w':=by
 have J:=ae (Cx.start w H C);have KC:aj (Calls Tryz.prog 22 #[bY H C] (w.alloc (.cells (fv H C) 27)) fun e w'=>e= .returned (.int .i64 0)/\Fr [] (w.alloc (.cells (fv H C) 27)) w'):=(nt _ H C (h.keep J.o.fr)).mono fun e w' ⟨h1,h2⟩=>by
  rcases h1 with⟨h3,_⟩ |⟨_,h3⟩
  ·exact⟨h3,h2⟩
  ·exact absurd hv h3
 have d0:decide (0<=f)=true:=qak hf.1;have d1:decide (f<=80)=true:=qak hf.2;clear h hv;obtain⟨mx,ins,az,outs,aI,aH,au,bD⟩:=C;obtain⟨iA,iC,lA,lC,oA,oC,bA,bC,vA,vC,gA,gC,nA,nC⟩:=H;simp only[bY,fv]at *;obtain⟨c0,c1,c2,c3,c4,c5,c6,c7⟩:=J.o.cells;go_enter Tryz.func118,Tryz.ntmps118;go_wp2_with fail;refine KC.o.mono ?_;rintro e w1 ⟨rfl,di⟩;have HF:=ae (J.o.fr.ak di);clear di;go_wp2;go_ret;exact⟨rfl,HF.o⟩
theorem Cx.below{w wr w':World}{H:Hd}{C:Pc}{B:Nat}(h:Cx w wr H C)(hB:w.heap.size<B)(J:Below B wr w'):Cx w w' H C:=
 ⟨⟨J.os.trans h.fr.os,J.tape.trans h.fr.tape,J.output.trans h.fr.output,aE h.fr.size J.size,fun k hk hm=>(J.block k (by omega)).trans (h.fr.block k hk hm)⟩,(J.block _ hB).trans h.bx⟩
def Ix(S:Sv)(b:Int)(x:Int):UInt8:=if S.FL (b+x/2+1)=true then 49 else 48
def nQ(S:Sv)(b:Int)(l:List Int):List UInt8:=l.map (Ix S b)
theorem P2(S:Sv)(b:Int)(l:List Int)(k:Nat)(h:k<l.length):nQ S b (l.take (k+1))=nQ S b (l.take k)++[Ix S b l[k]!]:=by unfold nQ;rw[List.take_succ_eq_append_getElem h,bE,aa,af h];rfl
theorem wJ(w:World)(L:aO)(S:Sv)(hs:bh w L S)(hm:S.has=true->S.model.length=S.vars+1)(H:Hd)(C:Pc)(h:eZ w H C)(hv:Valid C)(f:Int)(hf:0<=f/\f<=80)(A:Option Addr)(c:Nat)(l:List Int)(hr:Rd w A l)(kQ:Ra l)(hx:∀x∈l,0<=x/\x<=4097)(hl:l.length<=1000000):
  Calls Tryz.prog 119 #[.pointer (some ⟨L.a,0,none⟩),bY H C, .int .i64 f, .slice A l.length c] w fun e w'=>e= .returned (.string ⟨(nQ S (cu C f) l).toArray⟩)/\Fr [] w w':=by
 have HX:=ae (Cx.start w H C);have hb:=jp hv.m0 hv.m1 (f:=f) (by omega);have HS:=ae hs;have HM:=ae hm;have HR:=ae hr;have tf:=ae kQ;have pL:=ae hx;have KB:=ae (fun W (hw:eZ W H C)=>p9 W H C hw hv f hf);have HH:=ae h;obtain⟨J,Ji⟩:∃J,cu C f=J:=⟨_,rfl⟩
 simp only[Ji]at KB hb⊢;have ar:=ae hb;have Z8:=ae (rZ.start (w.alloc (.cells (fv H C) 27)));obtain⟨w1,eo⟩:∃W,w.alloc (.cells (fv H C) 27)=W:=⟨_,rfl⟩
 rw[eo]at Z8 HX;obtain⟨w2,kE⟩:∃W,w1.alloc (.cells #[.pointer none, .slice none 0 0] 173)=W:=⟨_,rfl⟩
 rw[kE]at Z8;have aB:aj (Fr [] w1 w2):=kE▸aR _ _;have fZ:=ae (HX.o.keep aB.o);obtain⟨B,hB⟩:∃B,w1.heap.size=B:=⟨_,rfl⟩
 have aK:=ae hB;clear h hv hs hm hr kQ hx hb Ji;obtain⟨mx,ins,az,outs,aI,aH,au,bD⟩:=C;obtain⟨iA,iC,lA,lC,oA,oC,bA,bC,vA,vC,gA,gC,nA,nC⟩:=H;simp only[bY,fv]at *;go_enter Tryz.func119,Tryz.ntmps119;go_upto_region 2 with fail;clear eo kE;have UC:aj (w.heap.size<B):=(by have :=HX.o.bx.lt;rwa[hB]at this:w.heap.size<B)
 rw[hB]at Z8;clear hB;go_wp2_with fail;go_loopg [16] l.length (fun g Ve wr=>∃k:Nat,k+g=l.length/\Ve= .int .i64 k/\aj (rZ B B (nQ S J (l.take k)) wr)/\aj (Cx w wr ⟨iA,iC,lA,lC,oA,oC,bA,bC,vA,vC,gA,gC,nA,nC⟩ ⟨mx,ins,az,outs,aI,aH,au,bD⟩));case atStart=>exact⟨0,by omega,rfl,Z8,fZ⟩
 case round=>
  obtain⟨k,hk,rfl,HB,eh⟩:=hrel;have HK:=ae hk;have iS:k<=l.length:=by omega
  obtain⟨d0,d1,d2,d3,d4,d5,d6,d7⟩:=eh.o.cells;clear hk fZ Z8;by_cases bt:k<l.length
  ·obtain⟨b,o,x,hA,he,cx,-,-⟩:=(HR.o.keep eh.o.fr).one tf.o bt;subst hA;have rN:=pL.o x (by rw[<-he.o];exact bk bt);have rC:=ar.o;have ad:=ae (KB.o wr (HH.o.keep eh.o.fr));have KV:=ae (fun W=>kO W x rN.1 (by omega));have eo:IntKind.i64.wrap (J+x/2)=J+x/2:=IntWalk.i64_in _ (by omega);have kE:IntKind.i64.wrap (J+x/2+1)=J+x/2+1:=IntWalk.i64_in _ (by omega);have ab:=ae (P2 S J l k bt);rw[he.o]at ab;have nV:(nQ S J (l.take k)).length+1<=140737488355328:=by unfold nQ;rw[aG,bz];omega
   have rK:=ae nV;have KL:=ae (fun W (hW:Fr [] w W)=>FH W L S (HS.o.keep hW) HM.o (J+x/2+1));obtain⟨vb,WK⟩:∃vb,S.FL (J+x/2+1)=vb:=⟨_,rfl⟩
   rw[WK]at KL;have Yn:aj (Ix S J x=if vb=true then 49 else 48):=by show _=_;unfold Ix;rw[WK]
   clear nV WK rN rC;go_upto_region 6 with fail;refine ad.o.mono ?_;rintro e w3 ⟨rfl,dN⟩;have kK:=ae (eh.o.keep dN);have U9:=ae (HB.o.keep dN);clear dN d0 d1 d2 d3 d4 d5 d6 d7 cx ad;go_upto_region 6 with fail;refine(KV.o w3).mono ?_;rintro e w4 ⟨rfl,rfl⟩;go_upto_region 6 with fail;cases vb with
   |true=>
    have HC:aj (Ix S J x=49):=Yn.o;have KW:=U9.o.write 49 rK.o;have KW:=ae KW;clear Yn;go_wp2_with fail;refine(KL.o w3 kK.o.fr).mono ?_;rintro e w5 ⟨rfl,rfl⟩;go_wp2_with fail;refine KW.o.mono ?_;rintro e w6 ⟨rfl,h6,b6⟩;have Fi:aj (rZ B B (nQ S J (l.take (k+1))) w6):=by show rZ _ _ _ _;rw[ab.o,HC.o];exact h6
    have vU:=ae (kK.o.below UC.o b6);clear h6 b6 KW;go_wp2;go_roundg (gk-1);case measure=>have :=HK.o;omega
    case rel=>exact⟨k+1,by have :=HK.o;omega,by go_num,Fi,vU⟩
   |false=>
    have HC:aj (Ix S J x=48):=Yn.o;have KW:=U9.o.write 48 rK.o;have KW:=ae KW;clear Yn;go_wp2_with fail;refine(KL.o w3 kK.o.fr).mono ?_;rintro e w5 ⟨rfl,rfl⟩;go_wp2_with fail;refine KW.o.mono ?_;rintro e w6 ⟨rfl,h6,b6⟩;have Fi:aj (rZ B B (nQ S J (l.take (k+1))) w6):=by show rZ _ _ _ _;rw[ab.o,HC.o];exact h6
    have vU:=ae (kK.o.below UC.o b6);clear h6 b6 KW;go_wp2;go_roundg (gk-1);case measure=>have :=HK.o;omega
    case rel=>exact⟨k+1,by have :=HK.o;omega,by go_num,Fi,vU⟩
  ·obtain rfl :k=l.length:=by omega
   rw[cN]at HB;have KE:=ae HB.o.string;clear HK d0 d1 d2 d3 d4 d5 d6 d7;go_wp2_with fail;refine KE.o.mono ?_;rintro e w6 ⟨rfl,b6⟩;have vU:=ae (eh.o.below UC.o b6);clear b6;go_wp2;go_ret;exact⟨rfl,vU.o.fr⟩
end
section
open Go.RowKit
theorem DX(w:World)(L:aO)(S:Sv)(hs:bh w L S)(hm:S.has=true->S.model.length=S.vars+1)(H:Hd)(C:Pc)(h:eZ w H C)(hv:Valid C)(f:Int)(hf:0<=f/\f<=80):
  Calls Tryz.prog 80 #[.pointer (some ⟨L.a,0,none⟩),bY H C, .int .i64 f] w fun e w'=>e= .returned (.string ⟨(nQ S (cu C f) (C.az.map (·.a))).toArray⟩)/\Fr [] w w':=by
 have HX:=ae (Cx.start w H C);have KR:=ae (ub _ H C (h.keep HX.o.fr) hv f hf);have Ep:=hv.l;have ab:∀x∈C.az.map (·.a),0<=x/\x<=4097:=fun x hx=>by obtain⟨t,ht,rfl⟩:=aN.1 hx;obtain⟨j,J,rfl⟩:=List.getElem_of_mem ht;have :=eF hv j J;have h1:=hv.m1;rw[aa,af J]at this;simp only[aJ]at this;omega
 have kQ:Ra (C.az.map (·.a)):=fun j J=>by have :=ab _ (bk J);exact⟨by omega,by omega⟩
 have KB:=ae (fun W (hW:Fr [] w W) A c (hi:Ints W A c (C.az.map (·.a)))=>wJ W L S (hs.keep hW) hm H C (h.keep hW) hv f hf A c _ hi.rd kQ ab (by rw[aG];omega));have HH:=ae h;have rY:=ae h.lr;obtain⟨ms,G8⟩:∃ms,C.az.map (·.a)=ms:=⟨_,rfl⟩
 have yl:ms.length=C.az.length:=by rw[<-G8,aG]
 have AG:∀k,k<C.az.length->ms.take (k+1)=ms.take k++[(C.az[k]!).a]:=fun k hk=>by rw[List.take_succ_eq_append_getElem (by omega),aa,af hk];simp only[<-G8,List.getElem_map,aJ]
 have pL:=ae AG;rw[G8]at KB⊢;obtain⟨eH,eB⟩:∃eH,nQ S (cu C f) ms=eH:=⟨_,rfl⟩
 simp only[eB]at KB⊢;have Qp:=ae yl;clear h hv hs hm ab kQ AG eB G8 yl;obtain⟨mx,ins,az,outs,aI,aH,au,bD⟩:=C;obtain⟨iA,iC,lA,lC,oA,oC,bA,bC,vA,vC,gA,gC,nA,nC⟩:=H;simp only[bY,fv]at *;obtain⟨c0,c1,c2,c3,c4,c5,c6,c7⟩:=HX.o.cells;go_enter Tryz.func80,Tryz.ntmps80;go_wp2_with fail;refine KR.o.mono ?_;rintro e w1 ⟨rfl,di⟩;have ia:=ae (HX.o.keep di);obtain⟨e0,e1,e2,e3,e4,e5,e6,e7⟩:=ia.o.cells;clear di c0 c1 c2 c3 c4 c5 c6 c7 KR;go_wp2_with fail;go_loopg [7,17] az.length (fun g x7 MA wr=>∃(k:Nat)(A':Option Addr)(c':Nat),k+g=az.length/\x7= .slice A' k c'/\MA= .int .i64 k/\aj (Ints wr A' c' (ms.take k))/\aj (∀j∈ao A',w.heap.size<j)/\aj (Cx w wr ⟨iA,iC,lA,lC,oA,oC,bA,bC,vA,vC,gA,gC,nA,nC⟩ ⟨mx,ins,az,outs,aI,aH,au,bD⟩));case atStart=>exact⟨0,none,0,by omega,rfl,rfl,Ints.nil _,(fun j J=>by simp[ao]at J),ia.o⟩
 case round=>
  obtain⟨k,A',c',hk,rfl,rfl,HI,HN,eh⟩:=hrel;have HK:=ae hk;have iS:k<=az.length:=by omega
  obtain⟨d0,d1,d2,d3,d4,d5,d6,d7⟩:=eh.o.cells;clear hk ia e0 e1 e2 e3 e4 e5 e6 e7;have Cp:(ms.take k).length=k:=by rw[bz,Qp.o];exact li iS
  by_cases bt:k<az.length
  ·obtain⟨b,o,x,y,z,hA,he,cx,cy,cz,hx,hy,hz⟩:=(HH.o.keep eh.o.fr).l.one rY.o bt;simp only at hA he;subst hA;have AG:=pL.o k bt;simp only[he.o]at AG;have HT:=ae AG;clear AG;go_upto_region 7 with fail;obtain⟨wx,qH⟩:∃W,wr.alloc (.cells #[.int .i64 x, .int .i64 y, .int .i64 z] 62)=W:=⟨_,rfl⟩
   have xF:At wx wr.heap.size 62 #[.int .i64 x, .int .i64 y, .int .i64 z]:=qH▸At.new _ _ _;have oM:aj (Fr [] wr wx):=qH▸aR _ _;have f0:=xF.cell 0;simp at f0;rw[qH];have Fw:=ae (eh.o.keep oM.o);clear qH xF d0 d1 d2 d3 d4 d5 d6 d7 cx cy cz;obtain⟨wb,fS⟩:∃W,wx.alloc (.cells #[.int .i64 x] 3)=W:=⟨_,rfl⟩
   have ib:aj (Fr [] wx wb):=fS▸aR _ _;have nX:wb.cell? ⟨wx.heap.size,0,none⟩=some (.int .i64 x):=by have :=(At.new wx 3 #[.int .i64 x]).cell 0;rw[fS]at this;simpa using this
   have xr:aj (w.heap.size<wr.heap.size):=(eh.o.bx.lt:w.heap.size<wr.heap.size)
   go_wp2_with (at_builtin;(refine cL _ rfl _ _ rfl A' c' (ms.take k) k rfl Cp.symm ((HI.o.fr oM.o (by simp)).fr ib.o (by simp)) ⟨wx.heap.size,0,none⟩ 1 x rfl nX (by omega) ?_;intro ga ad w5 ym fT QT ar;have Z9:=ae ym;have xX:=ae ((Fw.o.keep ib.o).push fT HN.o);have Qm:aj (∀j∈ao (some (⟨ga,0,none⟩:Addr)),w.heap.size<j):=(fun j J=>by simp[ao]at J;subst J;rcases QT with h |h;exact HN.o _ h;rw[h];exact aS xr.o (aE oM.o.size ib.o.size));clear ym fT QT ar))
   clear fS;go_roundg (gk-1);case measure=>have :=HK.o;omega
   case rel=>exact⟨k+1,some ⟨ga,0,none⟩,ad,by have :=HK.o;omega,rfl,by go_num,(by show Ints _ _ _ _;rw[HT.o];exact Z9.o),Qm.o,xX.o⟩
  ·obtain rfl :k=az.length:=by omega
   clear HK;have KE:=KB.o wr eh.o.fr A' c' (by have :=HI.o;rwa[dv (by rw[Qp.o];exact aq _)]at this);rw[Qp.o]at KE;have KE:=ae KE;go_wp2_with fail;refine KE.o.mono ?_;rintro e w2 ⟨rfl,cE⟩;have HF:=ae (eh.o.fr.ak cE);clear cE;go_wp2;go_ret;exact⟨rfl,HF.o⟩
theorem DZ(w:World)(L:aO)(S:Sv)(hs:bh w L S)(hm:S.has=true->S.model.length=S.vars+1)(H:Hd)(C:Pc)(h:eZ w H C)(J:Valid C)(f:Int)(hf:0<=f/\f<=80):
  Calls Tryz.prog 81 #[.pointer (some ⟨L.a,0,none⟩),bY H C, .int .i64 f] w fun e w'=>e= .returned (.string ⟨(nQ S (cu C f) C.ins).toArray⟩)/\Fr [] w w':=by
 have HX:=ae (Cx.start w H C);have KR:=ae (ub _ H C (h.keep HX.o.fr) J f hf);have ab:∀x∈C.ins,0<=x/\x<=4097:=fun x hx=>by have :=eE J x (av _ (av _ hx));have h1:=J.m1;omega
 have KB:=ae (fun W (hW:Fr [] w W)=>wJ W L S (hs.keep hW) hm H C (h.keep hW) J f hf H.iA H.iC _ (h.keep hW).i (h.keep hW).ir ab (by have :=J.i;omega));obtain⟨eH,eB⟩:∃eH,nQ S (cu C f) C.ins=eH:=⟨_,rfl⟩
 simp only[eB]at KB⊢;clear h J hs hm ab eB;obtain⟨mx,ins,az,outs,aI,aH,au,bD⟩:=C;obtain⟨iA,iC,lA,lC,oA,oC,bA,bC,vA,vC,gA,gC,nA,nC⟩:=H;simp only[bY,fv]at *;obtain⟨c0,c1,c2,c3,c4,c5,c6,c7⟩:=HX.o.cells;go_enter Tryz.func81,Tryz.ntmps81;go_wp2_with fail;refine KR.o.mono ?_;rintro e w1 ⟨rfl,di⟩;have ia:=ae (HX.o.keep di);obtain⟨e0,e1,e2,e3,e4,e5,e6,e7⟩:=ia.o.cells;clear di c0 c1 c2 c3 c4 c5 c6 c7 KR;go_wp2_with fail;refine(KB.o w1 ia.o.fr).mono ?_;rintro e w2 ⟨rfl,cE⟩;have HF:=ae (ia.o.fr.ak cE);clear cE;go_wp2;go_ret;exact⟨rfl,HF.o⟩
theorem Sr:(Tryz.prog.info? 9).map (fun i=>(i.zero,i.size,i.bytes))=some (some (.string ⟨#[]⟩),1,16):=by kernel_rfl
def sv(s:List UInt8):Value:= .string ⟨s.toArray⟩
def eY(w:World)(A:Option Addr)(c:Nat)(l:List (List UInt8)):Prop:=w.ownsRow 0 9 1 (.slice A l.length c) l.length (l.map sv)
theorem eY.keep{w w':World}{A:Option Addr}{c:Nat}{l:List (List UInt8)}(h:eY w A c l)(J:Fr [] w w'):eY w' A c l:=J.own h (by simp)
def Fj(S:Sv)(C:Pc)(n:Nat):List (List UInt8):=(List.range n).map fun k:Nat=>nQ S (cu C (k:Int)) C.ins
theorem Su(S:Sv)(C:Pc)(n:Nat):Fj S C (n+1)=Fj S C n++[nQ S (cu C (n:Int)) C.ins]:=by unfold Fj;rw[ju,bE];rfl
theorem Ng(S:Sv)(C:Pc)(n:Nat):(Fj S C n).length=n:=by simp[Fj]
def VY(S:Sv)(C:Pc):List UInt8:=nQ S (cu C 0) (C.az.map (·.a))
def PaP(S:Sv)(C:Pc)(n:Nat)(bad:Int)(w:World)(e:Ending)(w':World):Prop:=∃A c,e= .returned (.agg #[.int .i64 bad,sv (VY S C), .slice A n c])/\eY w' A c (Fj S C n)/\(∀k∈ao A,w.heap.size<=k)/\Fr [] w w'
theorem Gt(w:World)(L:aO)(S:Sv)(hs:bh w L S)(hm:S.has=true->S.model.length=S.vars+1)(H:Hd)(C:Pc)(h:eZ w H C)(hv:Valid C)(last:Nat)(hl:last<=79)(bad:Int):
  Calls Tryz.prog 43 #[.pointer (some ⟨L.a,0,none⟩),bY H C, .int .i64 (last:Int), .int .i64 bad] w (PaP S C (last+1) bad w):=by
 have HX:=ae (Cx.start w H C);have KS:=ae (fun W (hW:Fr [] w W)=>DX W L S (hs.keep hW) hm H C (h.keep hW) hv 0 (by omega));have KI:=ae (fun W (hW:Fr [] w W) (k:Nat) (hk:k<=last)=>DZ W L S (hs.keep hW) hm H C (h.keep hW) hv k (by omega));have bO:min (last:Int) 80=last:=by omega
 obtain⟨st,pO⟩:∃st,VY S C=st:=⟨_,rfl⟩
 have aB:aj (∀A c W,eY W A c (Fj S C (last+1))->(∀k∈ao A,w.heap.size<=k)->Fr [] w W->PaP S C (last+1) bad w (.returned (.agg #[.int .i64 bad,sv st, .slice A (last+1) c])) W):=fun A c W h1 h2 h3=>⟨A,c,by rw[pO],h1,h2,h3⟩
 obtain⟨PP,bb⟩:∃PP,PaP S C (last+1) bad w=PP:=⟨_,rfl⟩
 rw[bb]at aB⊢
 change nQ S (cu C 0) (C.az.map (·.a))=st at pO
 rw[pO]at KS;have UT:=ae (fun k=>Su S C k);have aT:aj (Fj S C 0=[]):=(rfl :Fj S C 0=[])
 obtain⟨IN,ar⟩:∃IN,Fj S C=IN:=⟨_,rfl⟩
 have AS:aj (∀k,(IN k).length=k):=ar▸Ng S C;rw[ar]at aB aT;simp only[ar]at UT;obtain⟨BI,ba⟩:∃BI:Nat->List UInt8,(fun k:Nat=>nQ S (cu C (k:Int)) C.ins)=BI:=⟨_,rfl⟩
 have a1:∀k:Nat,nQ S (cu C (k:Int)) C.ins=BI k:=fun k=>congrFun ba k;simp only[a1]at KI UT;clear h hv hs hm pO ar bb ba a1;obtain⟨mx,ins,az,outs,aI,aH,au,bD⟩:=C;obtain⟨iA,iC,lA,lC,oA,oC,bA,bC,vA,vC,gA,gC,nA,nC⟩:=H;simp only[bY,fv]at *;obtain⟨c0,c1,c2,c3,c4,c5,c6,c7⟩:=HX.o.cells;go_enter Tryz.func43,Tryz.ntmps43;go_upto_region 1 with fail;obtain⟨wa,Vh⟩:∃W,w.alloc (.cells #[.int .i64 mx, .slice iA ins.length iC, .slice lA az.length lC, .slice oA outs.length oC, .slice bA aI.length bC, .slice vA aH.length vC, .slice gA au.length gC, .slice nA bD.length nC] 27)=W:=⟨_,rfl⟩
 rw[Vh]at HX c0 c1 c2 c3 c4 c5 c6 c7⊢;have nM:wa.heap.size=w.heap.size+1:=by rw[<-Vh];simp
 obtain⟨w1,eo⟩:∃W,wa.alloc (.cells #[.int .i64 0, .string ⟨#[]⟩, .slice none 0 0] 32)=W:=⟨_,rfl⟩
 rw[eo];have tz:aj (At w1 wa.heap.size 32 #[.int .i64 0, .string ⟨#[]⟩, .slice none 0 0]):=eo▸At.new _ _ _;have dZ:aj (Fr [] wa w1):=eo▸aR _ _;have ia:=ae (HX.o.keep dZ.o);obtain⟨d0,d1,d2,d3,d4,d5,d6,d7⟩:=ia.o.cells;clear Vh eo c0 c1 c2 c3 c4 c5 c6 c7 HX;go_upto_region 2 with fail;refine(KS.o w1 ia.o.fr).mono ?_;rintro e w2 ⟨rfl,cE⟩;have fZ:=ae (ia.o.keep cE);have AP:=ae (tz.o.keep cE);clear cE d0 d1 d2 d3 d4 d5 d6 d7 ia tz dZ;go_upto_region 2 with fail;obtain⟨o,ho⟩:∃o,w2.heap.size=o:=⟨_,rfl⟩
 obtain⟨w3,ow⟩:∃W,w2.alloc (.cells #[.int .i64 bad, .string ⟨st.toArray⟩, .slice none 0 0] 32)=W:=⟨_,rfl⟩
 have nZ:aj (At w3 o 32 #[.int .i64 bad, .string ⟨st.toArray⟩, .slice none 0 0]):=ow▸ho▸At.new _ _ _;have dN:Fr [] w2 w3:=ow▸aR _ _;have kK:=ae (fZ.o.keep dN);have IW:=ae (AP.o.keep dN);have AF:=AP.o.lt;rw[ho]at AF;have Z2:aj (wa.heap.size<o):=AF;have aK:=fZ.o.fr.size;rw[ho]at aK;have ab:aj (w.heap.size<=o):=aK;have bG:aj (o<w3.heap.size):=nZ.o.lt;rw[nM]at IW Z2;rw[ow,ho];clear dN ow ho AF aK fZ AP;go_wp2_with fail;go_loopg [10] (last+1) (fun g tj wr=>∃(k:Nat)(A':Option Addr)(c':Nat),k+g=last+1/\tj= .int .i64 k/\aj (At wr o 32 #[.int .i64 bad, .string ⟨st.toArray⟩, .slice A' k c'])/\aj (eY wr A' c' (IN k))/\aj (∀j∈ao A',o<j)/\aj (Cx w wr ⟨iA,iC,lA,lC,oA,oC,bA,bC,vA,vC,gA,gC,nA,nC⟩ ⟨mx,ins,az,outs,aI,aH,au,bD⟩)/\aj (At wr (w.heap.size+1) 32 #[.int .i64 0, .string ⟨#[]⟩, .slice none 0 0]));case atStart=>exact⟨0,none,0,by omega,rfl,nZ,(by show eY _ _ _ _;rw[aT.o];exact World.ownsRow_nil _ 0 _ 1),(fun j J=>by simp[ao]at J),kK,IW⟩
 case round=>
  obtain⟨k,A',c',hk,rfl,HO,HS,HN,eh,N8⟩:=hrel;have HK:=ae hk;have iS:k<=last+1:=by omega
  clear hk kK IW nZ;by_cases bt:k<last+1
  ·have qJ:(k:Int)<=(last:Int):=by omega
   have sS:=AS.o k;obtain⟨d0,d1,d2,d3,d4,d5,d6,d7⟩:=eh.o.cells;have D0:=ae d0;have D1:=ae d1;have D2:=ae d2;have D3:=ae d3;have D4:=ae d4;have D5:=ae d5;have D6:=ae d6;have D7:=ae d7;have o2:=HO.o.cell 2;simp at o2;have pM:=ae o2;have df:=ae (HO.o.frozen 2);have Ql:aj (o∉ao A'):=(fun hm=>da _ (HN.o _ hm))
   have xp:aj (w.heap.size∉ao A'):=(fun hm=>by have :=HN.o _ hm;have :=ab.o;omega)
   have Yx:aj (w.heap.size+1∉ao A'):=(fun hm=>by have :=HN.o _ hm;have :=Z2.o;omega)
   have rL:aj (∀W,Fr (ao A') wr W->Fr [] w W):=(fun W hW=>eh.o.fr.trans hW (fun j J=> .inr (by have :=HN.o j J;have :=ab.o;omega)))
   have vV:aj (o<wr.heap.size):=HO.o.lt;have iP:wr.ownsRow 0 9 1 (.slice A' k c') k ((IN k).map sv):=by have :=HS.o;unfold eY at this;rwa[sS]at this
   have mW:=ae iP;clear iP o2 d0 d1 d2 d3 d4 d5 d6 d7;go_upto_region 5 with fail;refine qan ?_;refine bw (fun w':World=>Fr (ao A') wr w') 9 (by kernel_rfl) ((Fr.refl _ wr).drew) (fun dy=> ?_);refine oI 5 [(0,[]),(1,[1,9]),(2,[]),(3,[3,9]),(4,[])] dy (fun w bT=>And.intro (bT.bF Ql.o pM.o) (And.intro (bT.bF xp.o D0.o) (And.intro (bT.bF xp.o D1.o) (And.intro (bT.bF xp.o D2.o) (And.intro (bT.bF xp.o D3.o) (And.intro (bT.bF xp.o D4.o) (And.intro (bT.bF xp.o D5.o) (And.intro (bT.bF xp.o D6.o) (bT.bF xp.o D7.o))))))))) ?_;intro dy;refine R2 5 dy fun K hK aM=> ?_
   (go_simp;refine(KI.o _ (rL.o _ aM) k (by omega)).mono ?_;rintro e w5 ⟨rfl,fT⟩;have CT:aj (w5.ownsRow 0 9 1 (.slice A' k c') k ((IN k).map sv)):=fT.own (by exact mW.o) (by simp);dsimp only)
   refine hK.out _ _ (.inr ?_) (fun Vr=> ?_)
   ·first |exact aM.ak jg |exact aM.trans fT (fun _ h=>by cases h) |exact aM.alloc _ |exact aM
   clear hK K;try simp only[Act.put,q5,q6,q7]
   refine R2 6 Vr fun K hK aM=> ?_;go_simp;refine hK.out _ _ (.inr ?_) (fun Vq=> ?_)
   ·first |exact aM.ak jg |exact aM.trans fT (fun _ h=>by cases h) |exact aM.alloc _ |exact aM
   clear hK K;try simp only[Act.put,q5,q6,q7]
   refine R2 7 Vq fun K hK aM=> ?_
   (refine pF rfl _ _ 30 rfl 9 (.string ⟨#[]⟩) 1 16 Tryz.underlying30 Sr rfl (by decide) A' c' k rfl ((IN k).map sv) ?SO _ 1 rfl [sv (BI k)] rfl ?PA ?bI (by unfold maxLen;omega) (by omega) ?_;(case SO=>first |exact World.ownsRow.alloc CT.o _ |exact CT.o);(case PA=>intro j u J;match j,J with |0,J=>(simp at J;subst J;simp[dQ,sv]));(case bI=>intro u hu;simp at hu;subst hu;rfl);intro g3 It w7 AJ jg Tk)
   refine hK.out _ _ (.inr ?_) (fun Lo=> ?_)
   ·first |exact aM.ak jg |exact aM.trans fT (fun _ h=>by cases h) |exact aM.alloc _ |exact aM
   clear hK K;try simp only[Act.put,q5,q6,q7]
   refine TB 1 [(8,[])] Lo ?_;intro Lo;refine R2 9 Lo fun K hK aM=> ?_
   (have sb:=aM.bF Ql.o pM.o;have fb:World.frozen? _ _=_:=(World.frozen?_of_block (aM.block o vV.o Ql.o)).trans df.o;go_simp)
   refine hK.out _ _ (.inl rfl) (fun kG=> ?_);clear hK K;try simp only[Act.put,q5,q6,q7]
   refine fO ?_;obtain⟨W,hW⟩:∃W,w7.setCell ⟨o,2,none⟩ (.slice (some ⟨g3,0,none⟩) (k+1) It)=W:=⟨_,rfl⟩
   rw[hW];have Nv:Fr [o] w7 W:=hW▸(Fr.refl _ w7).setCell (.inl (by simp)) _;have bj:aj (At W o 32 #[.int .i64 bad, .string ⟨st.toArray⟩, .slice (some ⟨g3,0,none⟩) (k+1) It]):=by have :=(aM.at_ HO.o Ql.o).dL 2 (.slice (some ⟨g3,0,none⟩) (k+1) It);rw[hW]at this;exact this
   have YH:aj (o<g3):=(by
    rcases Tk with h |h
    ·exact HN.o _ h
    ·rw[h];have :=fT.size;have :=vV.o;simp at *;omega:o<g3)
   have bg:aj (∀j∈ao (some (⟨g3,0,none⟩:Addr)),o<j):=(fun j J=>by simp[ao]at J;subst J;exact YH.o)
   have bo:=ae (Nv.at_ (aM.at_ N8.o Yx.o) (by have :=Z2.o;simp;omega));have Yl:aj (Cx w W ⟨iA,iC,lA,lC,oA,oC,bA,bC,vA,vC,gA,gC,nA,nC⟩ ⟨mx,ins,az,outs,aI,aH,au,bD⟩):=⟨(rL.o w7 aM).trans Nv (fun j J=> .inr (by simp at J;subst J;exact ab.o)),Nv.at_ (aM.at_ eh.o.bx xp.o) (by have :=Z2.o;simp;omega)⟩
   have bB:aj (eY W (some ⟨g3,0,none⟩) It (IN (k+1))):=by show eY _ _ _ _;unfold eY;rw[AS.o,UT.o,bE];exact Nv.own AJ (fun j J=>by simp[Value.ownBlock]at J;subst J;have :=YH.o;simp;omega)
   clear hW Nv AJ jg Tk aM;go_wp2;go_roundg (gk-1);case measure=>have :=HK.o;omega
   case rel=>exact⟨k+1,some ⟨g3,0,none⟩,It,by have :=HK.o;omega,by go_num,bj,bB,bg,Yl,bo⟩
  ·obtain rfl :k=last+1:=by omega
   have rz:¬(((last+1:Nat):Int)<=(last:Int)):=by omega
   have o0:=HO.o.cell 0;have o1:=HO.o.cell 1;have o2:=HO.o.cell 2;simp at o0 o1 o2;clear HK;have r0:=N8.o.cell 0;have r1:=N8.o.cell 1;have r2:=N8.o.cell 2;simp at r0 r1 r2;have f0:=N8.o.frozen 0;have f1:=N8.o.frozen 1;have f2:=N8.o.frozen 2;go_upto_region 6 with fail;go_wp2_with fail;obtain⟨W,hW⟩:∃W,((wr.setCell ⟨w.heap.size+1,0,none⟩ (.int .i64 bad)).setCell ⟨w.heap.size+1,1,none⟩ (.string ⟨st.toArray⟩)).setCell ⟨w.heap.size+1,2,none⟩ (.slice A' (last+1) c')=W:=⟨_,rfl⟩
   rw[hW];have j4:At W (w.heap.size+1) 32 #[.int .i64 bad, .string ⟨st.toArray⟩, .slice A' (last+1) c']:=by have :=((N8.o.dL 0 (.int .i64 bad)).dL 1 (.string ⟨st.toArray⟩)).dL 2 (.slice A' (last+1) c');rw[hW]at this;exact this
   have Nv:Fr [w.heap.size+1] wr W:=hW▸(((Fr.refl _ wr).setCell (.inl (by simp)) _).setCell (.inl (by simp)) _).setCell (.inl (by simp)) _;have Yx:aj (w.heap.size+1∉ao A'):=(fun hm=>by have :=HN.o _ hm;have :=Z2.o;omega)
   have FF:=ae (aB.o A' c' W (by
    have h1:=HS.o;unfold eY at h1⊢;exact Nv.own h1 (fun j J=>by
     intro hm;rw[ag.1 hm]at J;refine Yx.o ?_;cases A' with
     |none=>cases J
     |some ad=>simp[Value.ownBlock]at J;simp[ao];exact J.symm)) (fun j J=>by have :=HN.o j J;have :=ab.o;omega) (eh.o.fr.trans Nv (fun j J=> .inr (by rw[ag.1 J];omega))))
   have e0:=j4.cell 0;have e1:=j4.cell 1;have e2:=j4.cell 2;simp at e0 e1 e2;clear hW Nv j4;refine bodyPost_ret (v:= .agg #[.int .i64 bad, .string ⟨st.toArray⟩, .slice A' (last+1) c']) (by simp[results,go_sem,e0,e1,e2]) rfl ?_;exact FF.o
def pr(f:Nat->Bool)(l:Int):Bool:=f (l/2).toNat !=(l%2==1)
def jP(a:Nat->Bool)(b:Int)(v:Nat):Bool:=a (b+v+1).toNat
theorem ef{a:Nat->Bool}{b l:Int}(hb:0<=b)(hl:0<=l):jD a (bV b l)↔pr (jP a b) l=true:=by
 have e:b+((l/2).toNat:Int)+1=b+l/2+1:=by omega
 unfold jD pr jP bV;rw[e];by_cases h:l%2=1
 ·rw[qai h,Int.natAbs_neg,show(b+l/2+1).natAbs=(b+l/2+1).toNat by omega,h];rw[eq_false (show ¬0< -(b+l/2+1) by omega)];cases a (b+l/2+1).toNat<;>simp
 ·rw[qah h,show(b+l/2+1).natAbs=(b+l/2+1).toNat by omega];have h1:0<b+l/2+1:=by omega
  have J:(l%2==1)=false:=by simpa using h
  rw[J];cases a (b+l/2+1).toNat<;>simp[h1]
theorem Wp{b l:Int}(J:0<=b)(hl:0<=l):bV b l≠0:=by unfold bV;split<;>omega
theorem fM{a:Nat->Bool}{b l:Int}(J:0<=b)(hl:0<=l):jD a (-(bV b l))↔pr (jP a b) l=false:=by rw[jD.neg (Wp J hl),ef J hl,Bool.not_eq_true]
structure nS(C:Pc)(f:Nat->Bool):Prop where
 und:∀v:Nat,v<(CK C).length->(CK C)[v]! =false->f v=false
 X0:∀x∈C.au,f (x.a/2).toNat=(pr f x.b&&pr f x.c)
theorem o3{a:Nat->Bool}{x:Int}:eX a [x]↔jD a x:=⟨fun⟨y,J,h⟩=>by rw[ag.1 J]at h;exact h,fun h=>⟨x,ag.2 rfl,h⟩⟩
theorem qZ{a:Nat->Bool}{x y:Int}:eX a [x,y]↔jD a x\/jD a y:=⟨fun⟨z,J,h⟩=>by
 simp only[ay,bi,or_false]at J;rcases J with rfl |rfl
 ·exact .inl h
 ·exact .inr h,fun h=>by
 rcases h with h |h
 ·exact⟨x,by simp,h⟩
 ·exact⟨y,by simp,h⟩⟩
theorem rf{a:Nat->Bool}{x y z:Int}:eX a [x,y,z]↔jD a x\/jD a y\/jD a z:=⟨fun⟨u,hu,h⟩=>by
 simp only[ay,bi,or_false]at hu;rcases hu with rfl |rfl |rfl
 ·exact .inl h
 ·exact .inr (.inl h)
 ·exact .inr (.inr h),fun h=>by
 rcases h with h |h |h
 ·exact⟨x,by simp,h⟩
 ·exact⟨y,by simp,h⟩
 ·exact⟨z,by simp,h⟩⟩
theorem kH{C:Pc}(J:Valid C){x:T3}(hx:x∈C.au):0<=x.a/\x.a%2=0/\0<=x.b/\0<=x.c/\x.b<x.a/\x.c<x.a/\x.a<=2*C.mx:=by
 obtain⟨j,hj,rfl⟩:=List.getElem_of_mem hx;have h1:=J.au j hj;have h2:=J.own (C.ins.length+C.az.length+j) (by simp[cm];omega);have e:(cm C)[C.ins.length+C.az.length+j]! =(C.au[j]).a:=by
  unfold cm;rw[aa,bX (by simp),aZ];have :C.ins.length+C.az.length+j-(C.ins++C.az.map fun x=>x.a).length=j:=by simp
  rw[this,af hj];rfl
 unfold kw at h2;rw[e]at h2;have e2:C.au[j]! =C.au[j]:=by rw[aa,af hj];rfl
 rw[e2]at h1;unfold vQ at h1;simp only[ax,qam]at h1 h2;obtain⟨⟨⟨⟨-,k1⟩,k2⟩,k3⟩,k4⟩:=h1;have ab:=fI J k3;have ad:=fI J k4;omega
theorem CA{C:Pc}(hv:Valid C){a:Nat->Bool}{b:Int}(J:0<=b):(∀c∈j6 C b,eX a c)↔nS C (jP a b):=by
 constructor
 ·intro h;refine⟨fun v hl hd=> ?_,fun x hx=> ?_⟩
  ·have h1:=h [-(b+v+1)] (av _ (cH.2 ⟨v,bl.2 hl,by unfold yI;rw[hd];simp⟩));rw[o3,jD.neg (by omega)]at h1;unfold jD at h1;unfold jP;rw[show(b+(v:Int)+1).natAbs=(b+v+1).toNat by omega]at h1;have h2:(0:Int)<b+v+1:=by omega
   cases hq:a (b+v+1).toNat
   ·rfl
   ·exact absurd ⟨fun _=>h2,fun _=>hq⟩ h1
  ·obtain⟨n1,n2,n3,n4,-⟩:=kH hv hx;have hg:∀c∈zH b x,eX a c:=fun c hc=>h c (bP _ (by unfold zG;rw[cN];exact cH.2 ⟨x,hx,hc⟩));have h1:=qZ.1 (hg [-(bV b x.a),bV b x.b] (by simp[zH]));have h2:=qZ.1 (hg [-(bV b x.a),bV b x.c] (by simp[zH]));have h3:=rf.1 (hg [bV b x.a,-(bV b x.b),-(bV b x.c)] (by simp[zH]));rw[fM J n1,ef J n3]at h1;rw[fM J n1,ef J n4]at h2;rw[ef J n1,fM J n3,fM J n4]at h3;have e:pr (jP a b) x.a=jP a b (x.a/2).toNat:=by unfold pr;rw[show(x.a%2==1)=false by rw[n2];rfl];simp
   rw[e]at h1 h2 h3;revert h1 h2 h3;cases jP a b (x.a/2).toNat<;>cases pr (jP a b) x.b<;>cases pr (jP a b) x.c<;>simp
 ·intro h c hc;rcases ah.1 hc with hc |hc
  ·obtain⟨v,WL,hc⟩:=cH.1 hc;have hl:=bl.1 WL;unfold yI at hc;split at hc
   ·cases hc
   ·rename_i hd;rw[ag.1 hc,o3,jD.neg (by omega)];have h1:=h.und v hl (by simpa using hd);unfold jP at h1;unfold jD;rw[show(b+(v:Int)+1).natAbs=(b+v+1).toNat by omega,h1];simp;omega
  ·unfold zG at hc;rw[cN]at hc;obtain⟨x,hx,hc⟩:=cH.1 hc;obtain⟨n1,n2,n3,n4,-⟩:=kH hv hx;have h1:=h.X0 x hx;have e:pr (jP a b) x.a=jP a b (x.a/2).toNat:=by unfold pr;rw[show(x.a%2==1)=false by rw[n2];rfl];simp
   rw[<-e]at h1;simp only[zH,ay,bi,or_false]at hc;rcases hc with rfl |rfl |rfl
   ·rw[qZ,fM J n1,ef J n3,h1];cases pr (jP a b) x.b<;>cases pr (jP a b) x.c<;>simp
   ·rw[qZ,fM J n1,ef J n4,h1];cases pr (jP a b) x.b<;>cases pr (jP a b) x.c<;>simp
   ·rw[rf,ef J n1,fM J n3,fM J n4,h1];cases pr (jP a b) x.b<;>cases pr (jP a b) x.c<;>simp
theorem XP(xs:List Int):∀(bs:List Bool)(v:Nat),v<bs.length->((AN xs bs)[v]! =true↔bs[v]! =true\/∃x∈xs,(x/2).toNat=v):=by
 induction xs with
 |nil=>intro bs v J;simp[AN]
 |cons x r ih=>
  intro bs v J;show(AN r (bs.set (x/2).toNat true))[v]! =true↔_;rw[ih _ v (by rw[aw];exact J)];by_cases e:(x/2).toNat=v
  ·have :(bs.set (x/2).toNat true)[v]! =true:=by rw[e,aa,kj J];rfl
   rw[this];exact⟨fun _=> .inr ⟨x,bM,e⟩,fun _=> .inl rfl⟩
  ·have :(bs.set (x/2).toNat true)[v]! =bs[v]! :=by rw[aa,aa,gW e]
   rw[this];simp[e]
theorem NI{C:Pc}{v:Nat}(J:v<(CK C).length):(CK C)[v]! =true↔∃x∈cm C,(x/2).toNat=v:=by
 rw[lU]at J;unfold CK;rw[XP _ _ _ (by rw[a8];exact J)];have :(List.replicate (C.mx+1).toNat false)[v]! =false:=by rw[aa,List.getElem?_replicate];split<;>rfl
 simp[this]
theorem PH{C:Pc}(hv:Valid C){f g:Nat->Bool}(hf:nS C f)(hg:nS C g)(hi:∀x∈C.ins,f (x/2).toNat=g (x/2).toNat)(hl:∀x∈C.az,f (x.a/2).toNat=g (x.a/2).toNat):∀v:Nat,v<(CK C).length->f v=g v:=by
 intro v;induction v using Nat.strongRecOn with
 |ind v ih=>
  intro zx;cases hd:(CK C)[v]! with
  |false=>rw[hf.und v zx hd,hg.und v zx hd]
  |true=>
   obtain⟨x,J,rfl⟩:=(NI zx).1 hd;unfold cm at J;rcases ah.1 J with J |J
   ·rcases ah.1 J with J |J
    ·exact hi x J
    ·obtain⟨y,hy,rfl⟩:=aN.1 J;exact hl y hy
   ·obtain⟨y,hy,rfl⟩:=aN.1 J;obtain⟨n1,n2,n3,n4,n5,n6,n7⟩:=kH hv hy;have e:∀z:Int,0<=z->z<y.a->pr f z=pr g z:=fun z h0 h1=>by unfold pr;rw[ih (z/2).toNat (by omega) (by omega)]
    rw[hf.X0 y hy,hg.X0 y hy,e y.b n3 n5,e y.c n4 n6]
theorem CF{C:Pc}(hv:Valid C){a:Nat->Bool}{b:Int}(hb:0<=b){am:List (List Int)}(jN:∀l∈am,∀x∈l,0<=x):(∀c∈iX C am b,eX a c)↔C.aH.all (pr (jP a b))=true/\∀l∈am,l.any (pr (jP a b))=true:=by
 have ab:∀x∈C.aH,0<=x:=fun x J=>by have h:=hv.v;unfold nR at h;rw[ax,cR]at h;exact(fI hv (h.1 x J)).1
 unfold iX;rw[cR];constructor
 ·intro h;refine⟨fun x J=> ?_,fun l hl=> ?_⟩
  ·have :=h [bV b x] (av _ (aN.2 ⟨x,J,rfl⟩));rwa[o3,ef hb (ab x J)]at this
  ·obtain⟨y,hy,ht⟩:=h (l.map (bV b)) (bP _ (aN.2 ⟨l,hl,rfl⟩));obtain⟨x,J,rfl⟩:=aN.1 hy;exact cP.2 ⟨x,J,(ef hb (jN l hl x J)).1 ht⟩
 ·rintro⟨h1,h2⟩ c hc;rcases ah.1 hc with hc |hc
  ·obtain⟨x,J,rfl⟩:=aN.1 hc;rw[o3,ef hb (ab x J)];exact h1 x J
  ·obtain⟨l,hl,rfl⟩:=aN.1 hc;obtain⟨x,J,ht⟩:=cP.1 (h2 l hl);exact⟨bV b x,aN.2 ⟨x,J,rfl⟩,(ef hb (jN l hl x J)).2 ht⟩
theorem yg{C:Pc}{f:Int}{i:Nat}:sj C f ((i:Int)+1)=bV (cu C f) (C.az[i]!).a:=by unfold sj;rw[qah (by omega),show((i:Int)+1-1).toNat=i by omega]
theorem Wv{C:Pc}{f:Int}{i:Nat}:sj C f (-(i:Int)-1)= -(bV (cu C f) (C.az[i]!).a):=by unfold sj;rw[qai (by omega),show(-(-(i:Int)-1)-1).toNat=i by omega]
def uW(C:Pc)(f:Nat->Bool)(i:Nat):Bool:=f ((C.az[i]!).a/2).toNat
theorem mD{C:Pc}(J:Valid C){i:Nat}(hi:i<C.az.length)(f:Nat->Bool):pr f (C.az[i]!).a=uW C f i:=by have h:=eF J i hi;unfold pr uW;rw[show((C.az[i]!).a%2==1)=false by rw[h.2.2];rfl];simp
theorem nP{C:Pc}(J:Valid C){k:Int}(hk:0<=k):0<=cu C k:=by unfold cu;have :=J.m0;exact Int.mul_nonneg hk (by omega)
theorem M6{C:Pc}(J:Valid C){a:Nat->Bool}{k:Int}(hk:0<=k):(∀c∈oo C k C.az.length,eX a c)↔∀i:Nat,i<C.az.length->uW C (jP a (cu C (k+1))) i=pr (jP a (cu C k)) (C.az[i]!).b:=by
 have h0:=nP J hk;have h1:=nP J (show 0<=k+1 by omega);have key:∀i:Nat,i<C.az.length->((∀c∈Gy C k i,eX a c)↔uW C (jP a (cu C (k+1))) i=pr (jP a (cu C k)) (C.az[i]!).b):=fun i hi=>by have hp:=eF J i hi;have hq:=mj J i hi;unfold Gy;rw[yg];simp only[ay,bi,or_false,forall_eq_or_imp,forall_eq];rw[qZ,qZ,ef h1 (by omega),fM h0 (by omega),fM h1 (by omega),ef h0 (by omega),mD J hi];cases uW C (jP a (cu C (k+1))) i<;>cases pr (jP a (cu C k)) (C.az[i]!).b<;>simp
 unfold oo;constructor
 ·intro h i hi;exact(key i hi).1 fun c hc=>h c (cH.2 ⟨i,bl.2 hi,hc⟩)
 ·intro h c hc;obtain⟨i,hi,hc⟩:=cH.1 hc;exact(key i (bl.1 hi)).2 (h i (bl.1 hi)) c hc
theorem NC{C:Pc}(J:Valid C){a:Nat->Bool}:(∀c∈ut C C.az.length,eX a c)↔∀i:Nat,i<C.az.length->((C.az[i]!).c=0->uW C (jP a (cu C 0)) i=false)/\((C.az[i]!).c=1->uW C (jP a (cu C 0)) i=true):=by
 have h0:=nP J (show(0:Int)<=0 by omega);have key:∀i:Nat,i<C.az.length->((∀c∈EF C i,eX a c)↔((C.az[i]!).c=0->uW C (jP a (cu C 0)) i=false)/\((C.az[i]!).c=1->uW C (jP a (cu C 0)) i=true)):=fun i hi=>by
  have hp:=eF J i hi;unfold EF;rw[yg,Wv];split
  ·rename_i hc;simp only[ag,forall_eq];rw[o3,fM h0 (by omega),mD J hi,hc];simp
  ·rename_i hc;split
   ·rename_i tq;simp only[ag,forall_eq];rw[o3,ef h0 (by omega),mD J hi,tq];simp
   ·rename_i tq;exact⟨fun _=>⟨fun h=>absurd h hc,fun h=>absurd h tq⟩,fun _ c hm=>by cases hm⟩
 unfold ut;constructor
 ·intro h i hi;exact(key i hi).1 fun c hc=>h c (cH.2 ⟨i,bl.2 hi,hc⟩)
 ·intro h c hc;obtain⟨i,hi,hc⟩:=cH.1 hc;exact(key i (bl.1 hi)).2 (h i (bl.1 hi)) c hc
section
variable {St In:Type} {OR:St->Prop} {BH:St->In->Prop} {nx:St->In->St} {bd:St->In->Prop}
structure Way(BH:St->In->Prop)(nx:St->In->St)(n:Nat)(p:Nat->St)(i:Nat->In):Prop where
 al:∀k:Nat,k<n->BH (p k) (i k)
 DU:∀k:Nat,k<n->p (k+1)=nx (p k) (i k)
def Jo(OR:St->Prop)(BH:St->In->Prop)(nx:St->In->St)(s:St):Prop:=∃n p i,OR (p 0)/\Way BH nx n p i/\p n=s
def AA(OR:St->Prop)(BH:St->In->Prop)(nx:St->In->St)(bd:St->In->Prop)(n:Nat):Prop:=∃p i,OR (p 0)/\Way BH nx n p i/\BH (p n) (i n)/\bd (p n) (i n)
theorem Way.less{n m:Nat}{p:Nat->St}{i:Nat->In}(h:Way BH nx n p i)(hm:m<=n):Way BH nx m p i:=⟨fun k hk=>h.al k (by omega),fun k hk=>h.DU k (by omega)⟩
theorem Way.cut{n a d:Nat}{p:Nat->St}{i:Nat->In}(h:Way BH nx n p i)(ab:a+d<=n)(he:p a=p (a+d)):
  Way BH nx (n-d) (fun k=>if k<=a then p k else p (k+d)) (fun k=>if k<a then i k else i (k+d)):=by
 refine⟨fun k hk=> ?_,fun k hk=> ?_⟩
 ·by_cases h1:k<a
  ·simp only[h1,if_true,show k<=a by omega];exact h.al k (by omega)
  ·by_cases J:k=a
   ·subst J;simp only[da,if_false,aq,if_true];rw[he];exact h.al (k+d) (by omega)
   ·simp only[show ¬k<a by omega,show ¬k<=a by omega,if_false];exact h.al (k+d) (by omega)
 ·by_cases h1:k<a
  ·simp only[h1,if_true,show k<=a by omega,show k+1<=a by omega];exact h.DU k (by omega)
  ·by_cases J:k=a
   ·subst J;simp only[da,if_false,aq,if_true,show ¬k+1<=k by omega];rw[he,show k+1+d=k+d+1 by omega];exact h.DU (k+d) (by omega)
   ·simp only[show ¬k<a by omega,show ¬k<=a by omega,show ¬k+1<=a by omega,if_false];rw[show k+1+d=k+d+1 by omega];exact h.DU (k+d) (by omega)
def acp(OR:St->Prop)(BH:St->In->Prop)(nx:St->In->St)(bd:St->In->Prop)(k:Nat):Prop:=
 ∃p i,Way BH nx k p i/\BH (p k) (i k)/\bd (p k) (i k)/\(∀a b:Nat,a<b->b<=k->p a≠p b)/\(∀j:Nat,j<k->¬bd (p j) (i j))/\∀j:Nat,j<=k->Jo OR BH nx (p j)
theorem Sn{k:Nat}(hb:∀j:Nat,j<=k->¬AA OR BH nx bd j)(hs:¬acp OR BH nx bd k):∀n:Nat,¬AA OR BH nx bd n:=by
 intro n;induction n using Nat.strongRecOn with
 |ind n ih=>
  rintro⟨p,i,J,hw,ha,mT⟩;by_cases Vj:n<=k
  ·exact hb n Vj ⟨p,i,J,hw,ha,mT⟩
  ·refine hs ⟨fun j=>p (n-k+j),fun j=>i (n-k+j),⟨fun j hj=>hw.al _ (by omega),fun j hj=> ?_⟩,?_,?_,fun a b ab Bn he=> ?_,fun j hj QY=> ?_,fun j hj=> ?_⟩
   ·have :=hw.DU (n-k+j) (by omega);rw[show n-k+(j+1)=n-k+j+1 by omega];exact this
   ·show BH (p (n-k+k)) (i (n-k+k));rw[show n-k+k=n by omega];exact ha
   ·show bd (p (n-k+k)) (i (n-k+k));rw[show n-k+k=n by omega];exact mT
   ·have jZ:p (n-k+a)=p (n-k+a+(b-a)):=by rw[show n-k+a+(b-a)=n-k+b by omega];exact he
    have hc:=hw.cut (by omega) jZ;refine ih (n-(b-a)) (by omega) ⟨_,_,?_,hc,?_,?_⟩
    ·simp only[aU,if_true];exact J
    ·by_cases e:b=k
     ·subst e;simp only[show n-(b-a)<=n-b+a by omega,show ¬n-(b-a)<n-b+a by omega,if_true,if_false,show n-(b-a)+(b-a)=n by omega];rw[show n-(b-a)=n-b+a by omega,jZ,show n-b+a+(b-a)=n by omega];exact ha
     ·simp only[show ¬n-(b-a)<=n-k+a by omega,show ¬n-(b-a)<n-k+a by omega,if_false,show n-(b-a)+(b-a)=n by omega];exact ha
    ·by_cases e:b=k
     ·subst e;simp only[show n-(b-a)<=n-b+a by omega,show ¬n-(b-a)<n-b+a by omega,if_true,if_false,show n-(b-a)+(b-a)=n by omega];rw[show n-(b-a)=n-b+a by omega,jZ,show n-b+a+(b-a)=n by omega];exact mT
     ·simp only[show ¬n-(b-a)<=n-k+a by omega,show ¬n-(b-a)<n-k+a by omega,if_false,show n-(b-a)+(b-a)=n by omega];exact mT
   ·exact ih (n-k+j) (by omega) ⟨p,i,J,hw.less (by omega),hw.al _ (by omega),QY⟩
   ·exact⟨n-k+j,p,i,J,hw.less (by omega),rfl⟩
end
def mV(T:Nat->Nat->Option Nat)(n i:Nat)(o:List Int):Nat->List Int
 |0=>o
 |k+1=>match T i k with
  |none=>mV T n i o k
  |some t=>if(mV T n i o k)[t]! <0 then(mV T n i o k).set t ((n:Int)+1)else mV T n i o k
def Ah(T:Nat->Nat->Option Nat)(K n:Nat)(o:List Int):Nat->List Int
 |0=>o
 |i+1=>if(Ah T K n o i)[i]! =(n:Int)then mV T n i (Ah T K n o i) K else Ah T K n o i
def yw(T:Nat->Nat->Option Nat)(K m:Nat)(o:List Int):Nat->List Int
 |0=>o
 |n+1=>Ah T K n (yw T K m o n) m
theorem lS{α:Type}[Inhabited α]{l:List α}{t:Nat}{x:α}(h:t<l.length):(l.set t x)[t]! =x:=by rw[aa,kj h];rfl
theorem pk{α:Type}[Inhabited α]{l:List α}{t j:Nat}{x:α}(h:t≠j):(l.set t x)[j]! =l[j]! :=by rw[aa,aa,gW h]
structure BfS(T:Nat->Nat->Option Nat)(m n:Nat)(R:Nat->Prop)(o o':List Int):Prop where
 len:o'.length=o.length
 keep:∀j:Nat,0<=o[j]! ->o'[j]! =o[j]!
 new:∀j:Nat,0<=o'[j]! ->o[j]! <0->o'[j]! =(n:Int)+1/\R j
namespace BfS
variable {T:Nat->Nat->Option Nat} {m n:Nat} {R:Nat->Prop} {o o' o2:List Int}
theorem refl(o:List Int):BfS T m n R o o:=⟨rfl,fun _ _=>rfl,fun j h1 J=>by omega⟩
theorem trans(h:BfS T m n R o o')(k:BfS T m n R o' o2):BfS T m n R o o2:=by
 refine⟨k.len.trans h.len,fun j hj=> ?_,fun j h1 h2=> ?_⟩
 ·have :=h.keep j hj;rw[k.keep j (by omega),this]
 ·by_cases J:0<=o'[j]!
  ·have :=h.new j J h2;rw[k.keep j J];exact this
  ·exact k.new j h1 (by omega)
end BfS
theorem IA{T:Nat->Nat->Option Nat}{m n i:Nat}{R:Nat->Prop}{o:List Int}(hl:o.length=m)(hT:∀k t,T i k=some t->t<m/\R t):∀k,BfS T m n R o (mV T n i o k)/\∀k' t,k'<k->T i k'=some t->0<=(mV T n i o k)[t]!
 |0=>⟨BfS.refl _,fun k' t h=>absurd h (aD _)⟩
 |k+1=>by
  obtain⟨h1,h2⟩:=IA (n:=n) (o:=o) hl hT k;rw[mV];cases ht:T i k with
  |none=>
   refine⟨h1,fun k' t hk J=> ?_⟩;rcases Nat.lt_succ_iff_lt_or_eq.1 hk with h |rfl
   ·exact h2 k' t h J
   ·rw[ht]at J;cases J
  |some t=>
   simp only;obtain⟨t1,t2⟩:=hT k t ht;by_cases hn:(mV T n i o k)[t]! <0
   ·rw[qai hn];have bt:t<(mV T n i o k).length:=by rw[h1.len,hl];exact t1
    have h3:BfS T m n R (mV T n i o k) ((mV T n i o k).set t ((n:Int)+1)):=by
     refine⟨aw,fun j hj=> ?_,fun j h1 h2=> ?_⟩
     ·by_cases e:t=j
      ·subst e;omega
      ·exact pk e
     ·by_cases e:t=j
      ·subst e;exact⟨lS bt,t2⟩
      ·rw[pk e]at h1;omega
    refine⟨h1.trans h3,fun k' t' hk J=> ?_⟩;rcases Nat.lt_succ_iff_lt_or_eq.1 hk with h |rfl
    ·have :=h2 k' t' h J;rw[h3.keep t' this];exact this
    ·rw[ht]at J;cases J;rw[lS bt];omega
   ·rw[qah hn];refine⟨h1,fun k' t' hk J=> ?_⟩;rcases Nat.lt_succ_iff_lt_or_eq.1 hk with h |rfl
    ·exact h2 k' t' h J
    ·rw[ht]at J;cases J;omega
theorem IB{T:Nat->Nat->Option Nat}{m n K:Nat}{R:Nat->Prop}{o:List Int}(hl:o.length=m)(hT:∀i k t,i<m->o[i]! =(n:Int)->T i k=some t->t<m/\R t):∀i,i<=m->BfS T m n R o (Ah T K n o i)/\∀J k t,J<i->k<K->o[J]! =(n:Int)->T J k=some t->0<=(Ah T K n o i)[t]!
 |0,_=>⟨BfS.refl _,fun J k t h=>absurd h (aD _)⟩
 |i+1,hi=>by
  obtain⟨h1,h2⟩:=IB (K:=K) (n:=n) hl hT i (by omega);rw[Ah];have hlen:(Ah T K n o i).length=m:=h1.len.trans hl;by_cases he:(Ah T K n o i)[i]! =(n:Int)
  ·rw[qai he];have hold:o[i]! =(n:Int):=by
    by_cases h0:0<=o[i]!
    ·rw[<-h1.keep i h0];exact he
    ·have :=(h1.new i (by omega) (by omega)).1;omega
   obtain⟨k1,k2⟩:=IA (n:=n) (i:=i) (R:=R) hlen (fun k t ht=>hT i k t (by omega) hold ht) K;refine⟨h1.trans k1,fun J k t ab hk ho ht=> ?_⟩;rcases Nat.lt_succ_iff_lt_or_eq.1 ab with h |rfl
   ·have :=h2 J k t h hk ho ht;rw[k1.keep t this];exact this
   ·exact k2 k t hk ht
  ·rw[qah he];refine⟨h1,fun J k t ab hk ho ht=> ?_⟩;rcases Nat.lt_succ_iff_lt_or_eq.1 ab with h |rfl
   ·exact h2 J k t h hk ho ht
   ·exact absurd (by rw[h1.keep J (by omega)];exact ho) he
structure BfA(T:Nat->Nat->Option Nat)(m K n:Nat)(R:Nat->Prop)(o o':List Int):Prop where
 len:o'.length=m
 sound:∀j:Nat,j<m->0<=o'[j]! ->R j
 fF:∀j:Nat,j<m->o'[j]! <=n
 db:∀j v:Nat,j<m->(v:Int)<=o'[j]! ->∃j',j'<m/\o'[j']! =(v:Int)
 keep:∀j:Nat,0<=o[j]! ->o'[j]! =o[j]!
 aho:∀i k t,i<m->0<=o'[i]! ->o'[i]! <n->k<K->T i k=some t->0<=o'[t]!
theorem RW:∀(m:Nat)(f:Nat->Nat),(∀v,v<=m->f v<m)->(∀u v,u<=m->v<=m->f u=f v->u=v)->False
 |0,f,h,_=>absurd (h 0 (aq _)) (aD _)
 |m+1,f,h,hi=>by
  refine RW m (fun v=>if f v=m then f (m+1)else f v) (fun v hv=> ?_) (fun u v hu hv he=> ?_)
  ·show(if f v=m then f (m+1)else f v)<m;by_cases e:f v=m
   ·rw[qai e];have h1:=h (m+1) (aq _);have h2:f (m+1)≠m:=fun J=>by have :=hi v (m+1) (by omega) (aq _) (by rw[e,J]);omega
    omega
   ·rw[qah e];have :=h v (by omega);omega
  ·have he:(if f u=m then f (m+1)else f u)=(if f v=m then f (m+1)else f v):=he;by_cases e1:f u=m
   ·by_cases J:f v=m
    ·exact hi u v (by omega) (by omega) (by rw[e1,J])
    ·rw[qai e1,qah J]at he;have :=hi (m+1) v (aq _) (by omega) he;omega
   ·by_cases J:f v=m
    ·rw[qah e1,qai J]at he;have :=hi u (m+1) (by omega) (aq _) he;omega
    ·rw[qah e1,qah J]at he;exact hi u v (by omega) (by omega) he
theorem Iy{T:Nat->Nat->Option Nat}{m K:Nat}{R:Nat->Prop}{o:List Int}(hl:o.length=m)(hR:∀j:Nat,j<m->0<=o[j]! ->R j)(h0:∀j:Nat,j<m->o[j]! <=0)(hT:∀i k t,i<m->R i->T i k=some t->t<m/\R t):∀n,BfA T m K n R o (yw T K m o n)
 |0=>⟨hl,hR,fun j J=>by have :=h0 j J;exact this,fun j v J hv=>⟨j,J,by have :=h0 j J;have :(v:Int)<=o[j]! :=hv;show o[j]! =_;omega⟩,fun j _=>rfl,fun i k t hi h1 h2=>by omega⟩
 |n+1=>by
  have A:=Iy (K:=K) hl hR h0 hT n;obtain⟨h1,h2⟩:=IB (K:=K) (n:=n) (R:=fun t=>R t/\∃i,i<m/\(yw T K m o n)[i]! =(n:Int)) A.len (fun i k t hi hn ht=>by obtain⟨t1,t2⟩:=hT i k t hi (A.sound i hi (by omega)) ht;exact⟨t1,t2,i,hi,hn⟩) m (aq _);rw[yw];generalize yw T K m o n=o1 at *;generalize Ah T K n o1 m=o2 at *;refine⟨h1.len.trans A.len,fun j J hp=> ?_,fun j J=> ?_,fun j v J hv=> ?_,fun j J=> ?_,fun i k t hi hp bt hk ht=> ?_⟩
  ·by_cases h3:0<=o1[j]!
   ·exact A.sound j J h3
   ·exact(h1.new j hp (by omega)).2.1
  ·by_cases h3:0<=o1[j]!
   ·rw[h1.keep j h3];have :=A.fF j J;omega
   ·by_cases h4:0<=o2[j]!
    ·have :=(h1.new j h4 (by omega)).1;omega
    ·omega
  ·by_cases h3:0<=o1[j]!
   ·rw[h1.keep j h3]at hv;obtain⟨j',k1,k2⟩:=A.db j v J hv;exact⟨j',k1,by rw[h1.keep j' (by omega)];exact k2⟩
   ·obtain⟨k1,-,i,k2,k3⟩:=h1.new j (by omega) (by omega);by_cases e:v=n+1
    ·exact⟨j,J,by rw[k1,e];omega⟩
    ·obtain⟨j',k4,k5⟩:=A.db i v k2 (by omega);exact⟨j',k4,by rw[h1.keep j' (by omega)];exact k5⟩
  ·have :=A.keep j J;rw[h1.keep j (by omega),this]
  ·by_cases h3:0<=o1[i]!
   ·rw[h1.keep i h3]at bt;by_cases e:o1[i]! =(n:Int)
    ·exact h2 i k t hi hk e ht
    ·have :=A.aho i k t hi h3 (by omega) hk ht;rw[h1.keep t this];exact this
   ·have :=(h1.new i hp (by omega)).1;omega
theorem acf{T:Nat->Nat->Option Nat}{m K:Nat}{R:Nat->Prop}{o:List Int}(hl:o.length=m)(hR:∀j:Nat,j<m->0<=o[j]! ->R j)(h0:∀j:Nat,j<m->o[j]! <=0)(hT:∀i k t,i<m->R i->T i k=some t->t<m/\R t):
  (yw T K m o m).length=m/\(∀j:Nat,j<m->0<=(yw T K m o m)[j]! ->R j)/\(∀j:Nat,0<=o[j]! ->0<=(yw T K m o m)[j]!)/\∀i k t,i<m->0<=(yw T K m o m)[i]! ->k<K->T i k=some t->0<=(yw T K m o m)[t]! :=by
 have A:=Iy (K:=K) hl hR h0 hT m;refine⟨A.len,A.sound,fun j hj=>by rw[A.keep j hj];exact hj,fun i k t hi hp hk ht=>A.aho i k t hi hp ?_ hk ht⟩;rcases Int.lt_or_le (yw T K m o m)[i]! m with h |h
 ·exact h
 ·exfalso;have hex:∀v:Nat,∃j',v<=m->j'<m/\(yw T K m o m)[j']! =(v:Int):=fun v=>by
   by_cases J:v<=m
   ·obtain⟨j',k1,k2⟩:=A.db i v hi (by omega);exact⟨j',fun _=>⟨k1,k2⟩⟩
   ·exact⟨0,fun h=>absurd h J⟩
  refine RW m (fun v=>(hex v).choose) (fun v J=>((hex v).choose_spec J).1) (fun u v hu J he=> ?_);have h1:=((hex u).choose_spec hu).2;have h2:=((hex v).choose_spec J).2;have he:(hex u).choose=(hex v).choose:=he;rw[he,h2]at h1;omega
theorem XL{α:Type}[Inhabited α]{l:List α}{k:Nat}(h:k<l.length):l[k]? =some l[k]! :=by rw[aa,af h];rfl
theorem Nc{ins:List Int}{J v:List UInt8}{p:Nat}:∀k,(∀j:Nat,j<k->(ins[j]! /2).toNat≠p)->(ov ins J v k)[p]? =v[p]?
 |0,_=>rfl
 |k+1,h=>by rw[ov,gW (h k (by omega))];exact Nc k (fun j hj=>h j (by omega))
theorem Nd{ins:List Int}{jY v:List UInt8}{p j:Nat}(hp:p<v.length)(J:(ins[j]! /2).toNat=p):∀k,j<k->(∀j':Nat,j<j'->j'<k->(ins[j']! /2).toNat≠p)->(ov ins jY v k)[p]? =some jY[j]!
 |0,h,_=>absurd h (aD _)
 |k+1,h,hn=>by
  rw[ov];by_cases e:j=k
  ·subst e;rw[J,kj (by rw[ou];exact hp)]
  ·rw[gW (hn k (by omega) (by omega))];exact Nd hp J k (by omega) (fun j' h1 h2=>hn j' h1 (by omega))
theorem Ec{az:List T3}{st v:List UInt8}{p:Nat}:∀k,(∀j:Nat,j<k->((az[j]!).a/2).toNat≠p)->(pg az st v k)[p]? =v[p]?
 |0,_=>rfl
 |k+1,h=>by rw[pg,gW (h k (by omega))];exact Ec k (fun j J=>h j (by omega))
theorem M8{az:List T3}{st v:List UInt8}{p j:Nat}(hp:p<v.length)(J:((az[j]!).a/2).toNat=p):∀k,j<k->(∀j':Nat,j<j'->j'<k->((az[j']!).a/2).toNat≠p)->(pg az st v k)[p]? =some st[j]!
 |0,h,_=>absurd h (aD _)
 |k+1,h,hn=>by
  rw[pg];by_cases e:j=k
  ·subst e;rw[J,kj (by rw[qE];exact hp)]
  ·rw[gW (hn k (by omega) (by omega))];exact M8 hp J k (by omega) (fun j' h1 h2=>hn j' h1 (by omega))
theorem XI{v:List UInt8}{x:T3}{p:Nat}(h:(x.a/2).toNat≠p):(Lt v x)[p]? =v[p]? :=by
 unfold Lt;split
 ·rw[gW h]
 ·rfl
theorem mI{au:List T3}{v:List UInt8}{p j:Nat}:∀k,j<=k->(∀j':Nat,j<=j'->j'<k->((au[j']!).a/2).toNat≠p)->(yr au v k)[p]? =(yr au v j)[p]?
 |0,h,_=>by rw[show j=0 by omega]
 |k+1,h,J=>by
  by_cases e:j=k+1
  ·rw[e]
  ·rw[yr,XI (J k (by omega) (by omega))];exact mI k (by omega) (fun j' h1 h2=>J j' h1 (by omega))
theorem o7{C:Pc}(hv:Valid C){i j:Nat}(Nq:i<j)(hj:j<(cm C).length):((cm C)[i]! /2).toNat≠((cm C)[j]! /2).toNat:=by
 have h1:=hv.own i (by omega);have J:=hv.own j hj;unfold kw at h1 J;simp only[ax,qam,i8,decide_eq_false_iff_not]at h1 J;obtain⟨⟨⟨a1,a2⟩,a3⟩,-⟩:=h1;obtain⟨⟨⟨b1,b2⟩,b3⟩,b4⟩:=J;intro e;refine b4 ?_;have e2:(cm C)[j]! =(cm C)[i]! :=by omega
 rw[e2,List.mem_iff_getElem?];exact⟨i,by rw[List.getElem?_take,qai Nq,XL (by omega)]⟩
theorem qx(C:Pc){j:Nat}(J:j<C.ins.length):(cm C)[j]! =C.ins[j]! :=by unfold cm;rw[dB,aa,cV J,<-aa]
theorem qw(C:Pc){j:Nat}(J:j<C.az.length):(cm C)[C.ins.length+j]! =(C.az[j]!).a:=by unfold cm;rw[dB,aa,bX (by omega),Nat.add_sub_cancel_left,cV (by simpa using J),aZ,XL J];rfl
theorem y8(C:Pc){j:Nat}(J:j<C.au.length):(cm C)[C.ins.length+C.az.length+j]! =(C.au[j]!).a:=by
 unfold cm;rw[aa,bX (by simp),aZ];have :C.ins.length+C.az.length+j-(C.ins++C.az.map fun x=>x.a).length=j:=by simp
 rw[this,XL J];rfl
theorem om(C:Pc):(cm C).length=C.ins.length+C.az.length+C.au.length:=by simp[cm];omega
theorem aaH{C:Pc}(J:Valid C){i j:Nat}(hi:i<C.ins.length)(hj:j<C.ins.length)(h:i≠j):(C.ins[i]! /2).toNat≠(C.ins[j]! /2).toNat:=by
 have hl:=om C;rw[<-qx C hi,<-qx C hj];rcases Nat.lt_or_gt_of_ne h with h |h
 ·exact o7 J h (by omega)
 ·exact(o7 J h (by omega)).symm
theorem aaG{C:Pc}(J:Valid C){i j:Nat}(hi:i<C.az.length)(hj:j<C.az.length)(h:i≠j):((C.az[i]!).a/2).toNat≠((C.az[j]!).a/2).toNat:=by
 have hl:=om C;rw[<-qw C hi,<-qw C hj];rcases Nat.lt_or_gt_of_ne h with h |h
 ·exact o7 J (by omega) (by omega)
 ·exact(o7 J (i:=C.ins.length+j) (by omega) (by omega)).symm
theorem aeV{C:Pc}(hv:Valid C){i j:Nat}(hi:i<C.ins.length)(J:j<C.az.length):(C.ins[i]! /2).toNat≠((C.az[j]!).a/2).toNat:=by have hl:=om C;rw[<-qx C hi,<-qw C J];exact o7 hv (by omega) (by omega)
theorem Y4{C:Pc}(hv:Valid C){i j:Nat}(hi:i<C.ins.length)(J:j<C.au.length):(C.ins[i]! /2).toNat≠((C.au[j]!).a/2).toNat:=by have hl:=om C;rw[<-qx C hi,<-y8 C J];exact o7 hv (by omega) (by omega)
theorem Y3{C:Pc}(hv:Valid C){i j:Nat}(hi:i<C.az.length)(J:j<C.au.length):((C.az[i]!).a/2).toNat≠((C.au[j]!).a/2).toNat:=by have hl:=om C;rw[<-qw C hi,<-y8 C J];exact o7 hv (by omega) (by omega)
theorem E5{C:Pc}(J:Valid C){j:Nat}:∀k:Nat,j<k->k<C.au.length->(C.au[j]!).a<(C.au[k]!).a
 |0,h,_=>absurd h (aD _)
 |k+1,h,hk=>by
  have h1:=J.au (k+1) hk;unfold vQ V8 at h1;rw[qah (by omega),show k+1-1=k by omega]at h1;simp only[ax,qam]at h1;obtain⟨⟨⟨⟨k1,-⟩,-⟩,-⟩,-⟩:=h1;by_cases e:j=k
  ·rw[e];exact k1
  ·have :=E5 J (j:=j) k (by omega) (by omega);omega
def vL(C:Pc)(s i:List UInt8):List UInt8:=tG C (tx s) (tx i)
def vF(C:Pc)(s i:List UInt8)(v:Nat):Bool:=(vL C s i)[v]? ==some 49
theorem uz(C:Pc)(s i:List UInt8)(l:Int):pr (vF C s i) l=lJ (vL C s i) l:=rfl
theorem Oj{C:Pc}(J:Valid C)(s i:List UInt8){k:Nat}(hk:k<C.ins.length):(vL C s i)[(C.ins[k]! /2).toNat]? =some i[k]! :=by have hz:=tC C J.m0;have ho:=Nb J k hk;unfold vL tG;rw[mI (j:=0) _ (aU _) (fun j' _ h=>(Y4 J hk h).symm),yr];unfold sI;rw[Ec _ (fun j hj=>(aeV J hk hj).symm)];exact Nd (by omega) rfl _ hk (fun j' h1 h2=>aaH J h2 hk (by omega))
theorem BU{C:Pc}(J:Valid C)(s i:List UInt8){k:Nat}(hk:k<C.az.length):(vL C s i)[((C.az[k]!).a/2).toNat]? =some s[k]! :=by have hz:=tC C J.m0;have ho:=M7 J k hk;unfold vL tG;rw[mI (j:=0) _ (aU _) (fun j' _ h=>(Y3 J hk h).symm),yr];unfold sI;exact M8 (by rw[ou];omega) rfl _ hk (fun j' h1 h2=>aaG J h2 hk (by omega))
theorem B6{C:Pc}(hv:Valid C)(s i:List UInt8){p:Nat}(hp:p<(QA C).length)(h1:∀j:Nat,j<C.ins.length->(C.ins[j]! /2).toNat≠p)(J:∀j:Nat,j<C.az.length->((C.az[j]!).a/2).toNat≠p):(sI C (tx s) (tx i))[p]? =some 48:=by unfold sI;rw[Ec _ J,Nc _ h1];unfold QA at hp⊢;rw[a8]at hp;rw[List.getElem?_replicate,qai hp]
theorem YT{C:Pc}(hv:Valid C)(s i:List UInt8):nS C (vF C s i):=by
 have hz:=tC C hv.m0;have hm:=hv.m0;refine⟨fun v hl hd=> ?_,fun x hx=> ?_⟩
 ·have tk:∀x∈cm C,(x/2).toNat≠v:=fun x hx e=>by have :=(NI hl).2 ⟨x,hx,e⟩;rw[hd]at this;cases this
  rw[lU]at hl;have h1:∀j:Nat,j<(cm C).length->((cm C)[j]! /2).toNat≠v:=fun j J=>tk _ (by rw[aa,af J];exact gu J);have aB:=om C;have h2:(vL C s i)[v]? =some 48:=by unfold vL tG;rw[mI (j:=0) _ (aU _) (fun j' _ h=>by rw[<-y8 C h];exact h1 _ (by omega)),yr];exact B6 hv s i (by omega) (fun j J=>by rw[<-qx C J];exact h1 _ (by omega)) (fun j J=>by rw[<-qw C J];exact h1 _ (by omega))
  unfold vF;rw[h2];rfl
 ·obtain⟨j,J,rfl⟩:=List.getElem_of_mem hx;have e:C.au[j]! =C.au[j]:=by rw[aa,af J];rfl
  obtain⟨n1,n2,n3,n4,n5,n6,n7⟩:=kH hv hx;rw[<-e]at n1 n2 n3 n4 n5 n6 n7⊢;have ad:∀j':Nat,j<j'->j'<C.au.length->(C.au[j]!).a+2<=(C.au[j']!).a:=fun j' h1 h2=>by have h3:=E5 hv j' h1 h2;have h4:=kH hv (bk h2);omega
  have ab:∀y:Int,0<=y->y<(C.au[j]!).a->pr (vF C s i) y=lJ (yr C.au (sI C (tx s) (tx i)) j) y:=fun y h0 h1=>by
   rw[uz];unfold lJ vL tG;rw[mI (j:=j) C.au.length (by omega) (fun j' h2 h3=>by
    rcases Nat.lt_or_eq_of_le h2 with h2 |rfl
    ·have :=ad j' h2 h3;omega
    ·omega)]
  have j4:vF C s i ((C.au[j]!).a/2).toNat=((yr C.au (sI C (tx s) (tx i)) (j+1))[((C.au[j]!).a/2).toNat]? ==some 49):=by unfold vF vL tG;rw[mI (j:=j+1) C.au.length (by omega) (fun j' h2 h3=>by have :=ad j' (by omega) h3;omega)]
  have ar:(yr C.au (sI C (tx s) (tx i)) j)[((C.au[j]!).a/2).toNat]? =some 48:=by rw[mI (j:=0) j (aU _) (fun j' _ h=>by have h3:=E5 hv j h J;have h4:=kH hv (bk (show j'<C.au.length by omega));omega),yr];exact B6 hv s i (by omega) (fun k hk=>Y4 hv hk J) (fun k hk=>Y3 hv hk J)
  rw[j4,ab _ n3 n5,ab _ n4 n6,yr];unfold Lt;cases hq:lJ (yr C.au (sI C (tx s) (tx i)) j) (C.au[j]!).b&&lJ (yr C.au (sI C (tx s) (tx i)) j) (C.au[j]!).c with
  |true=>
   simp only[if_true];rw[kj (by rw[yq,Gc];omega)];rfl
  |false=>
   simp only[if_false,bu];rw[ar];rfl
theorem VS{C:Pc}(hv:Valid C){f:Nat->Bool}(h:nS C f){s i:List UInt8}(hs:∀k:Nat,k<C.az.length->(s[k]! =49↔uW C f k=true))(hi:∀k:Nat,k<C.ins.length->(i[k]! =49↔f (C.ins[k]! /2).toNat=true)):∀v:Nat,(v:Int)<=C.mx->f v=vF C s i v:=by
 have key:∀(b:Bool)(x:UInt8),(x=49↔b=true)->b=(some x==some 49):=fun b x J=>by
  cases b with
  |true=>rw[J.2 rfl];rfl
  |false=>
   have :x≠49:=fun e=>by have :=J.1 e;cases this
   simp[this]
 intro v ab;refine PH hv h (YT hv s i) (fun x J=> ?_) (fun x J=> ?_) v (by rw[lU];omega)
 ·obtain⟨k,hk,rfl⟩:=List.getElem_of_mem J;have e:C.ins[k]! =C.ins[k]:=by rw[aa,af hk];rfl
  rw[<-e];unfold vF;rw[Oj hv s i hk];exact key _ _ (hi k hk)
 ·obtain⟨k,hk,rfl⟩:=List.getElem_of_mem J;have e:C.az[k]! =C.az[k]:=by rw[aa,af hk];rfl
  rw[<-e];unfold vF;rw[BU hv s i hk];exact key _ _ (hs k hk)
def bW:Nat->List (List UInt8)
 |0=>[[]]
 |n+1=>(bW n).flatMap fun s=>[s++[48],s++[49]]
theorem im:∀{n:Nat}{s:List UInt8},s∈bW n->s.length=n
 |0,s,h=>by
  rw[bW,ag]at h;rw[h];rfl
 |n+1,s,h=>by rw[bW,cH]at h;obtain⟨t,J,h⟩:=h;have :=im J;simp only[ay,bi,or_false]at h;rcases h with rfl |rfl <;>simp[this]
theorem vS:∀{n:Nat}{s:List UInt8},s∈bW n->∀x∈s,x=48\/x=49
 |0,s,h,x,J=>by
  rw[bW,ag]at h;rw[h]at J;cases J
 |n+1,s,h,x,J=>by
  rw[bW,cH]at h;obtain⟨t,ht,h⟩:=h;have :=vS ht;simp only[ay,bi,or_false]at h;rcases h with rfl |rfl
  ·rcases ah.1 J with J |J
   ·exact this x J
   ·exact .inl (ag.1 J)
  ·rcases ah.1 J with J |J
   ·exact this x J
   ·exact .inr (ag.1 J)
theorem yB:∀{n:Nat}{s:List UInt8},s.length=n->(∀x∈s,x=48\/x=49)->s∈bW n
 |0,s,h,_=>by
  rw[aX h];exact ag.2 rfl
 |n+1,s,h,hb=>by
  have J:s≠[]:=fun e=>by rw[e]at h;cases h
  have e:=List.dropLast_concat_getLast J;rw[bW,cH];refine⟨s.dropLast,yB (by rw[List.length_dropLast,h];rfl) (fun x hx=>hb x ((List.dropLast_sublist s).subset hx)),?_⟩;have hl:=hb _ (List.getLast_mem J);simp only[ay,bi,or_false];rcases hl with hl |hl
  ·left
   rw[<-hl];exact e.symm
  ·right
   rw[<-hl];exact e.symm
theorem oH{n:Nat}{s:List UInt8}(h:s∈bW n){k:Nat}(hk:k<n):s[k]! =48\/s[k]! =49:=by have hl:=im h;exact vS h _ (bk (by omega))
theorem NU(b:Bool):(oG b=49↔b=true):=by cases b<;>simp[oG]
theorem EX(b:Bool):oG b=48\/oG b=49:=by cases b<;>simp[oG]
theorem ro{α β:Type}[Inhabited α][Inhabited β](f:α->β){l:List α}{k:Nat}(h:k<l.length):(l.map f)[k]! =f l[k]! :=by rw[aa,aZ,XL h];rfl
theorem vo{n k:Nat}(h:k<n):(List.range n)[k]! =k:=by rw[aa,List.getElem?_range h];rfl
def fm(C:Pc)(am:List (List Int))(s i:List UInt8):Prop:=i∈bW C.ins.length/\C.aH.all (lJ (vL C s i))=true/\∀l∈am,l.any (lJ (vL C s i))=true
def mR(C:Pc)(s i:List UInt8):List UInt8:=Gm C (tx s) (tx i)
def kf(C:Pc)(s:List UInt8):Prop:=s∈bW C.az.length/\∀k:Nat,k<C.az.length->((C.az[k]!).c=0->s[k]! =48)/\((C.az[k]!).c=1->s[k]! =49)
def xU(C:Pc)(x:Int)(s i:List UInt8):Prop:=lJ (vL C s i) x=true
theorem kM(C:Pc)(s i:List UInt8):mR C s i∈bW C.az.length:=by refine yB (by simp[mR,Gm]) (fun x J=> ?_);unfold mR Gm at J;obtain⟨y,_,rfl⟩:=aN.1 J;exact EX _
theorem M3{C:Pc}(s i:List UInt8){k:Nat}(hk:k<C.az.length):(mR C s i)[k]! =oG (lJ (vL C s i) (C.az[k]!).b):=by unfold mR Gm;rw[ro _ hk];rfl
theorem Gz{n:Nat}{s t:List UInt8}(hs:s.length=n)(ht:t.length=n)(h:∀k:Nat,k<n->s[k]! =t[k]!):s=t:=by refine List.ext_getElem (by omega) fun k h1 J=> ?_;have :=h k (by omega);rw[aa,aa,af h1,af J]at this;exact this
def P3(C:Pc)(am:List (List Int))(k:Nat):List (List Int):=(if k=0 then[]else oo C ((k:Int)-1) C.az.length)++po C am k
def jQ(C:Pc)(am:List (List Int))(fst:Bool)(n:Nat):List (List Int):=(if fst=true then ut C C.az.length else[])++(List.range n).flatMap (P3 C am)
def Over(mx:Int)(am:List (List Int)):Prop:=∀l∈am,∀x∈l,0<=x/\x<=2*mx+1
def Dz(C:Pc)(a:Nat->Bool)(k:Nat):List UInt8:=(List.range C.az.length).map fun j=>oG (uW C (jP a (cu C k)) j)
def Ja(C:Pc)(a:Nat->Bool)(k:Nat):List UInt8:=(List.range C.ins.length).map fun j=>oG (jP a (cu C k) (C.ins[j]! /2).toNat)
theorem Dy{C:Pc}{a:Nat->Bool}{k j:Nat}(J:j<C.az.length):(Dz C a k)[j]! =oG (uW C (jP a (cu C k)) j):=by unfold Dz;rw[ro _ (by rw[de];exact J),vo J]
theorem WB{C:Pc}{a:Nat->Bool}{k j:Nat}(J:j<C.ins.length):(Ja C a k)[j]! =oG (jP a (cu C k) (C.ins[j]! /2).toNat):=by unfold Ja;rw[ro _ (by rw[de];exact J),vo J]
theorem VZ(C:Pc)(a:Nat->Bool)(k:Nat):Dz C a k∈bW C.az.length:=yB (by simp[Dz]) fun x J=>by obtain⟨y,_,rfl⟩:=aN.1 J;exact EX _
theorem WA(C:Pc)(a:Nat->Bool)(k:Nat):Ja C a k∈bW C.ins.length:=yB (by simp[Ja]) fun x J=>by obtain⟨y,_,rfl⟩:=aN.1 J;exact EX _
theorem uy{C:Pc}{f g:Nat->Bool}(h:∀v:Nat,(v:Int)<=C.mx->f v=g v){x:Int}(J:0<=x/\x<=2*C.mx+1):pr f x=pr g x:=by unfold pr;rw[h (x/2).toNat (by omega)]
theorem PI{C:Pc}(hv:Valid C){a:Nat->Bool}{k:Nat}(hg:nS C (jP a (cu C k))):∀v:Nat,(v:Int)<=C.mx->jP a (cu C k) v=vF C (Dz C a k) (Ja C a k) v:=
 VS hv hg (fun j J=>by rw[Dy J];exact NU _) (fun j J=>by rw[WB J];exact NU _)
theorem zo{C:Pc}(J:Valid C):∀x∈C.aH,0<=x/\x<=2*C.mx+1:=fun x hx=>by have h:=J.v;unfold nR at h;rw[ax,cR]at h;exact fI J (h.1 x hx)
theorem E6{C:Pc}{f g:Nat->Bool}(h:∀v:Nat,(v:Int)<=C.mx->f v=g v){l:List Int}(hl:∀x∈l,0<=x/\x<=2*C.mx+1):l.all (pr f)=l.all (pr g)/\l.any (pr f)=l.any (pr g):=by
 have e:∀x∈l,pr f x=pr g x:=fun x J=>uy h (hl x J);constructor
 ·rw[Bool.eq_iff_iff,cR,cR];exact⟨fun k x J=>by rw[<-e x J];exact k x J,fun k x J=>by rw[e x J];exact k x J⟩
 ·rw[Bool.eq_iff_iff,cP,cP];exact⟨fun⟨x,J,k⟩=>⟨x,J,by rw[<-e x J];exact k⟩,fun⟨x,J,k⟩=>⟨x,J,by rw[e x J];exact k⟩⟩
theorem NE{C:Pc}{am:List (List Int)}{fst:Bool}{n:Nat}{a:Nat->Bool}:(∀c∈jQ C am fst n,eX a c)↔(fst=true->∀c∈ut C C.az.length,eX a c)/\∀k:Nat,k<n->(0<k->∀c∈oo C ((k:Int)-1) C.az.length,eX a c)/\(∀c∈j6 C (cu C k),eX a c)/\∀c∈iX C am (cu C k),eX a c:=by
 constructor
 ·intro h;refine⟨fun hf c hc=>h c (av _ (by rw[qai hf];exact hc)),fun k hk=> ?_⟩;have J:∀c∈P3 C am k,eX a c:=fun c hc=>h c (bP _ (cH.2 ⟨k,bl.2 hk,hc⟩));refine⟨fun h0 c hc=>J c (av _ (by rw[qah (by omega)];exact hc)),fun c hc=>J c (bP _ (av _ hc)),fun c hc=>J c (bP _ (bP _ hc))⟩
 ·rintro⟨h1,h2⟩ c hc;rcases ah.1 hc with hc |hc
  ·split at hc
   ·rename_i hf;exact h1 hf c hc
   ·cases hc
  ·obtain⟨k,hk,hc⟩:=cH.1 hc;obtain⟨k1,k2,k3⟩:=h2 k (bl.1 hk);rcases ah.1 hc with hc |hc
   ·split at hc
    ·cases hc
    ·exact k1 (by omega) c hc
   ·rcases ah.1 hc with hc |hc
    ·exact k2 c hc
    ·exact k3 c hc
theorem TV{C:Pc}(J:Valid C){am:List (List Int)}(jN:Over C.mx am){fst:Bool}{n:Nat}{a:Nat->Bool}(h:∀c∈jQ C am fst (n+1),eX a c):
  (fst=true->kf C (Dz C a 0))/\Way (fm C am) (mR C) n (Dz C a) (Ja C a)/\fm C am (Dz C a n) (Ja C a n)/\∀k:Nat,k<=n->∀x:Int,0<=x/\x<=2*C.mx+1->pr (jP a (cu C k)) x=lJ (vL C (Dz C a k) (Ja C a k)) x:=by
 obtain⟨h1,h2⟩:=NE.1 h;have hb:∀k:Nat,0<=cu C k:=fun k=>nP J (by omega);have mS:∀k:Nat,k<=n->∀v:Nat,(v:Int)<=C.mx->jP a (cu C k) v=vF C (Dz C a k) (Ja C a k) v:=fun k hk=>PI J ((CA J (hb k)).1 (h2 k (by omega)).2.1);have vN:∀k:Nat,k<=n->fm C am (Dz C a k) (Ja C a k):=fun k hk=>by
  obtain⟨f1,f2⟩:=(CF J (hb k) (fun l hl x hx=>(jN l hl x hx).1)).1 (h2 k (by omega)).2.2;refine⟨WA C a k,?_,fun l hl=> ?_⟩
  ·rw[(E6 (mS k hk) (zo J)).1]at f1;exact f1
  ·have :=f2 l hl;rw[(E6 (mS k hk) (jN l hl)).2]at this;exact this
 refine⟨fun hf=>⟨VZ C a 0,fun k hk=> ?_⟩,⟨fun k hk=>vN k (by omega),fun k hk=> ?_⟩,vN n (aq _),fun k hk x hx=> ?_⟩
 ·obtain⟨g1,g2⟩:=(NC J).1 (h1 hf) k hk;rw[Dy hk];exact⟨fun e=>by have :=g1 e;rw[show((0:Nat):Int)=0 from rfl,this];rfl,fun e=>by have :=g2 e;rw[show((0:Nat):Int)=0 from rfl,this];rfl⟩
 ·refine Gz (n:=C.az.length) (by simp[Dz]) (im (kM C _ _)) fun j hj=> ?_;have hl:=(M6 J (k:=((k+1:Nat):Int)-1) (by omega)).1 ((h2 (k+1) (by omega)).1 (by omega)) j hj;rw[show((k+1:Nat):Int)-1+1=((k+1:Nat):Int) by omega,show((k+1:Nat):Int)-1=(k:Int) by omega]at hl;rw[Dy hj,M3 _ _ hj,hl,uy (mS k (by omega)) (mj J j hj)];rfl
 ·rw[uy (mS k hk) hx];rfl
def BG(C:Pc)(p i:Nat->List UInt8)(aux:Nat->Bool)(N v:Nat):Bool:=if v<=N then vF C (p ((v-1)/(C.mx+1).toNat)) (i ((v-1)/(C.mx+1).toNat)) ((v-1)%(C.mx+1).toNat)else aux v
theorem aci{C:Pc}(hv:Valid C){p i:Nat->List UInt8}{aux:Nat->Bool}{N k v:Nat}(hN:(k+1)*(C.mx+1).toNat<=N)(ad:(v:Int)<=C.mx):jP (BG C p i aux N) (cu C k) v=vF C (p k) (i k) v:=by
 have hm:=hv.m0;obtain⟨M,hM⟩:∃M,(C.mx+1).toNat=M:=⟨_,rfl⟩
 have ab:C.mx+1=(M:Int):=by omega
 have e:(cu C k+v+1).toNat=k*M+v+1:=by unfold cu;rw[ab,<-Int.natCast_mul];omega
 have J:v<M:=by omega
 rw[hM,Nat.add_mul,Nat.one_mul]at hN;unfold jP BG;rw[e,hM];rw[qai (by omega),dt,Nat.mul_comm,Nat.mul_add_div (by omega),Nat.div_eq_of_lt J,Nat.add_zero,Nat.mul_add_mod,Nat.mod_eq_of_lt J]
theorem nS.congr{C:Pc}(J:Valid C){f g:Nat->Bool}(h:nS C g)(he:∀v:Nat,(v:Int)<=C.mx->f v=g v):nS C f:=by
 have hm:=J.m0;refine⟨fun v hl hd=> ?_,fun x hx=> ?_⟩
 ·rw[he v (by rw[lU]at hl;omega)];exact h.und v hl hd
 ·obtain⟨n1,n2,n3,n4,n5,n6,n7⟩:=kH J hx;rw[he _ (by omega),uy he (by omega),uy he (by omega)];exact h.X0 x hx
theorem J7{C:Pc}(hv:Valid C){s i:List UInt8}(hs:s∈bW C.az.length){j:Nat}(J:j<C.az.length):uW C (vF C s i) j=(s[j]! ==49):=by unfold uW vF;rw[BU hv s i J];rfl
theorem NF{C:Pc}(J:Valid C){am:List (List Int)}(jN:Over C.mx am){fst:Bool}{n:Nat}{p i:Nat->List UInt8}(h0:fst=true->kf C (p 0))(GW:p 0∈bW C.az.length)(hw:Way (fm C am) (mR C) n p i)(vN:fm C am (p n) (i n))(aux:Nat->Bool){N:Nat}(hN:(n+1)*(C.mx+1).toNat<=N):
  (∀c∈jQ C am fst (n+1),eX (BG C p i aux N) c)/\∀k:Nat,k<=n->∀v:Nat,(v:Int)<=C.mx->jP (BG C p i aux N) (cu C k) v=vF C (p k) (i k) v:=by
 have hb:∀k:Nat,0<=cu C k:=fun k=>nP J (by omega);have mS:∀k:Nat,k<=n->∀v:Nat,(v:Int)<=C.mx->jP (BG C p i aux N) (cu C k) v=vF C (p k) (i k) v:=fun k hk v ar=>aci J (aE (Nat.mul_le_mul_right _ (by omega)) hN) ar;have ad:∀k:Nat,k<=n->p k∈bW C.az.length:=fun k hk=>by
  cases k with
  |zero=>exact GW
  |succ k=>rw[hw.DU k (by omega)];exact kM C _ _
 have gZ:∀k:Nat,k<=n->fm C am (p k) (i k):=fun k hk=>by
  rcases Nat.lt_or_eq_of_le hk with h |rfl
  ·exact hw.al k h
  ·exact vN
 refine⟨NE.2 ⟨fun hf=>(NC J).2 fun j hj=> ?_,fun k hk=>⟨fun He=> ?_,(CA J (hb k)).2 (nS.congr J (YT J (p k) (i k)) (mS k (by omega))),?_⟩⟩,mS⟩
 ·obtain⟨g1,g2⟩:=(h0 hf).2 j hj;have ab:=eF J j hj;have e:uW C (jP (BG C p i aux N) (cu C 0)) j=(((p 0)[j]!)==49):=by rw[<-J7 J (i:=i 0) GW hj];unfold uW;exact mS 0 (aU _) _ (by omega)
  rw[e];exact⟨fun hc=>by rw[g1 hc];rfl,fun hc=>by rw[g2 hc];rfl⟩
 ·obtain⟨k',rfl⟩:∃k',k=k'+1:=⟨k-1,by omega⟩
  rw[show((k'+1:Nat):Int)-1=(k':Int) by omega];refine(M6 J (by omega)).2 fun j hj=> ?_;have ab:=eF J j hj;rw[uy (mS k' (by omega)) (mj J j hj),uz];have e:uW C (jP (BG C p i aux N) (cu C ((k':Int)+1))) j=((p (k'+1))[j]! ==49):=by rw[<-J7 J (i:=i (k'+1)) (ad (k'+1) (by omega)) hj];unfold uW;exact mS (k'+1) (by omega) _ (by omega)
  rw[e,hw.DU k' (by omega),M3 _ _ hj];cases lJ (vL C (p k') (i k')) (C.az[j]!).b<;>rfl
 ·obtain⟨-,f1,f2⟩:=gZ k (by omega);refine(CF J (hb k) (fun l hl x hx=>(jN l hl x hx).1)).2 ⟨?_,fun l hl=> ?_⟩
  ·rw[(E6 (mS k (by omega)) (zo J)).1];exact f1
  ·rw[(E6 (mS k (by omega)) (jN l hl)).2];exact f2 l hl
def Ui(C:Pc)(a b:Nat)(aux:Int)(i:Nat):List (List Int):=[[-(aux+i+1),sj C a ((i:Int)+1),sj C b ((i:Int)+1)],[-(aux+i+1),-(sj C a ((i:Int)+1)),-(sj C b ((i:Int)+1))]]
def E4(C:Pc)(a b:Nat)(aux:Int):List (List Int):=(List.range C.az.length).flatMap (Ui C a b aux)++[(List.range C.az.length).map fun i:Nat=>aux+i+1]
theorem acj{C:Pc}(J:Valid C){g:Nat->Bool}{a b:Nat}{aux:Int}(h0:0<=aux)(hd:∀i:Nat,i<C.az.length->g (aux+i+1).toNat=(uW C (jP g (cu C a)) i !=uW C (jP g (cu C b)) i))(hex:∃i,i<C.az.length/\uW C (jP g (cu C a)) i≠uW C (jP g (cu C b)) i):∀c∈E4 C a b aux,eX g c:=by
 have Ji:0<=cu C a:=nP J (by omega);have Bo:0<=cu C b:=nP J (by omega);have ht:∀i:Nat,jD g (aux+i+1)↔g (aux+i+1).toNat=true:=fun i=>by
  unfold jD;rw[show(aux+(i:Int)+1).natAbs=(aux+i+1).toNat by omega];have :0<aux+(i:Int)+1:=by omega
  simp[this]
 intro c hc;rcases ah.1 hc with hc |hc
 ·obtain⟨i,hi,hc⟩:=cH.1 hc;have hi:=bl.1 hi;have hp:=eF J i hi;have ab:=hd i hi;simp only[Ui,ay,bi,or_false]at hc;rw[yg,yg]at hc;rcases hc with rfl |rfl
  ·rw[rf,jD.neg (by omega),ht,ef Ji (by omega),ef Bo (by omega),mD J hi,mD J hi,ab];cases uW C (jP g (cu C a)) i<;>cases uW C (jP g (cu C b)) i<;>simp
  ·rw[rf,jD.neg (by omega),ht,fM Ji (by omega),fM Bo (by omega),mD J hi,mD J hi,ab];cases uW C (jP g (cu C a)) i<;>cases uW C (jP g (cu C b)) i<;>simp
 ·rw[ag.1 hc];obtain⟨i,hi,dV⟩:=hex;refine⟨aux+i+1,aN.2 ⟨i,bl.2 hi,rfl⟩,(ht i).2 ?_⟩;rw[hd i hi];simpa using dV
def QG(k:Nat):List (Nat×Nat):=(List.range (k+1)).flatMap fun b=>(List.range b).map fun a=>(a,b)
theorem MW{k:Nat}{x:Nat×Nat}(h:x∈QG k):x.1<x.2/\x.2<=k:=by obtain⟨b,hb,h⟩:=cH.1 h;obtain⟨a,J,rfl⟩:=aN.1 h;have :=bl.1 J;have :=bl.1 hb;exact⟨by omega,by omega⟩
def aps(C:Pc)(aux:Int)(l:List (Nat×Nat))(n:Nat):List (List Int):=(List.range n).flatMap fun t:Nat=>E4 C (l[t]!).1 (l[t]!).2 (aux+((t*C.az.length:Nat):Int))
def Rw(C:Pc)(am:List (List Int))(x:Int)(k:Nat):List (List Int):=jQ C am false (k+1)++aps C (cu C ((k+1:Nat):Int)) (QG k) (QG k).length++(List.range k).map fun a:Nat=>[-(bV (cu C a) x)]
theorem Rx{n:Nat}{s t:List UInt8}(hs:s∈bW n)(ht:t∈bW n)(h:s≠t):∃i,i<n/\(s[i]! ==49)≠(t[i]! ==49):=by
 by_cases hex:∃i,i<n/\(s[i]! ==49)≠(t[i]! ==49)
 ·exact hex
 ·refine absurd (Gz (im hs) (im ht) fun k hk=> ?_) h;have h1:(s[k]! ==49)=(t[k]! ==49):=by
   by_cases e:(s[k]! ==49)=(t[k]! ==49)
   ·exact e
   ·exact absurd ⟨k,hk,e⟩ hex
  rcases oH hs hk with J |J<;>rcases oH ht hk with h3 |h3<;>rw[J,h3]at h1⊢
  ·cases h1
  ·cases h1
theorem VX{C:Pc}(hv:Valid C){am:List (List Int)}(jN:Over C.mx am){x:Int}(hx:0<=x/\x<=2*C.mx+1){k:Nat}{p i:Nat->List UInt8}(GW:p 0∈bW C.az.length)(hw:Way (fm C am) (mR C) k p i)(vN:fm C am (p k) (i k))
  (dV:∀a b:Nat,a<b->b<=k->p a≠p b) (Fo:∀j:Nat,j<k->¬xU C x (p j) (i j)) (mT:xU C x (p k) (i k)):∃g,(∀c∈Rw C am x k,eX g c)/\jD g (bV (cu C k) x):=by
 obtain⟨L,hL⟩:∃L,C.az.length=L:=⟨_,rfl⟩
 obtain⟨N,hN⟩:∃N,(k+1)*(C.mx+1).toNat=N:=⟨_,rfl⟩
 have hm:=hv.m0;have aB:cu C ((k+1:Nat):Int)=(N:Int):=by unfold cu;rw[show C.mx+1=(((C.mx+1).toNat:Nat):Int) by omega,<-Int.natCast_mul,hN]
 have hb:∀j:Nat,0<=cu C j:=fun j=>nP hv (by omega);obtain⟨aux,ar⟩:∃aux:Nat->Bool,aux=fun v=>((p ((QG k)[(v-N-1)/L]!).1)[(v-N-1)%L]! ==49) !=((p ((QG k)[(v-N-1)/L]!).2)[(v-N-1)%L]! ==49):=⟨_,rfl⟩
 obtain⟨h1,h2⟩:=NF hv jN (fst:=false) (fun h=>by cases h) GW hw vN aux (Nat.le_of_eq hN);have ab:∀j:Nat,j<=k->p j∈bW C.az.length:=fun j hj=>by
  cases j with
  |zero=>exact GW
  |succ j=>rw[hw.DU j (by omega)];exact kM C _ _
 have Np:∀j:Nat,j<=k->∀n:Nat,n<C.az.length->uW C (jP (BG C p i aux N) (cu C j)) n=((p j)[n]! ==49):=fun j hj n J=>by have aK:=eF hv n J;rw[<-J7 hv (i:=i j) (ab j hj) J];unfold uW;exact h2 j hj _ (by omega)
 refine⟨BG C p i aux N,fun c hc=> ?_,?_⟩
 ·rcases ah.1 hc with hc |hc
  ·rcases ah.1 hc with hc |hc
   ·exact h1 c hc
   ·obtain⟨t,ht,hc⟩:=cH.1 hc;have ht:=bl.1 ht;obtain⟨e1,e2⟩:=MW (bk ht);rw[aB]at hc;refine acj hv (a:=((QG k)[t]!).1) (b:=((QG k)[t]!).2) (by omega) (fun n J=> ?_) ?_ c hc
    ·rw[Np _ (by omega) n J,Np _ e2 n J];have ad:n<L:=(by omega)
     have e:((N:Int)+((t*C.az.length:Nat):Int)+(n:Int)+1).toNat=N+(t*L+n)+1:=by rw[hL];omega
     have e3:(t*L+n)/L=t:=(by rw[Nat.mul_comm,Nat.mul_add_div (by omega),Nat.div_eq_of_lt ad,Nat.add_zero])
     have e4:(t*L+n)%L=n:=(by rw[Nat.mul_comm,Nat.mul_add_mod,Nat.mod_eq_of_lt ad])
     rw[e];unfold BG;rw[qah (by omega),ar];simp only;rw[show N+(t*L+n)+1-N-1=t*L+n by omega,e3,e4]
    ·obtain⟨n,J,hd⟩:=Rx (ab _ (by omega)) (ab _ e2) (dV _ _ e1 e2);exact⟨n,J,by rw[Np _ (by omega) n J,Np _ e2 n J];exact hd⟩
  ·obtain⟨j,hj,rfl⟩:=aN.1 hc;have hj:=bl.1 hj;rw[o3,fM (hb j) hx.1,uy (h2 j (by omega)) hx,uz];have :=Fo j hj;unfold xU at this;simpa using this
 ·rw[ef (hb k) hx.1,uy (h2 k (aq _)) hx,uz];exact mT
theorem Uf{C:Pc}(hv:Valid C){am:List (List Int)}(jN:Over C.mx am){x:Int}(hx:0<=x/\x<=2*C.mx+1){n:Nat}(h:AA (kf C) (fm C am) (mR C) (xU C x) n):∃g,(∀c∈jQ C am true (n+1),eX g c)/\jD g (bV (cu C n) x):=by obtain⟨p,i,J,hw,ha,hb⟩:=h;obtain⟨h1,h2⟩:=NF hv jN (fst:=true) (fun _=>J) J.1 hw ha (fun _=>false) (aq _);refine⟨_,h1,?_⟩;rw[ef (nP hv (by omega)) hx.1,uy (h2 n (aq _)) hx,uz];exact hb
theorem P5{C:Pc}(hv:Valid C){am:List (List Int)}(jN:Over C.mx am){x:Int}(hx:0<=x/\x<=2*C.mx+1){n:Nat}{g:Nat->Bool}(h:∀c∈jQ C am true (n+1),eX g c)(J:jD g (bV (cu C n) x)):
  kf C (Dz C g 0)/\Way (fm C am) (mR C) n (Dz C g) (Ja C g)/\fm C am (Dz C g n) (Ja C g n)/\xU C x (Dz C g n) (Ja C g n):=by
 obtain⟨h1,h2,h3,h4⟩:=TV hv jN h;refine⟨h1 rfl,h2,h3,?_⟩;rw[ef (nP hv (by omega)) hx.1,h4 n (aq _) x hx]at J;exact J
theorem DO{C:Pc}{am:List (List Int)}{s:List UInt8}(h:Jo (kf C) (fm C am) (mR C) s):s∈bW C.az.length:=by
 obtain⟨n,p,i,J,hw,rfl⟩:=h;cases n with
 |zero=>exact J.1
 |succ n=>rw[hw.DU n (by omega)];exact kM C _ _
theorem yA{C:Pc}{am:List (List Int)}(hl:∀s i,Jo (kf C) (fm C []) (mR C) s->fm C [] s i->∀l∈am,l.any (lJ (vL C s i))=true){s i:List UInt8}(hs:Jo (kf C) (fm C []) (mR C) s)(h:fm C [] s i):fm C am s i:=⟨h.1,h.2.1,hl s i hs h⟩
theorem uJ{C:Pc}{am:List (List Int)}{s i:List UInt8}(h:fm C am s i):fm C [] s i:=⟨h.1,h.2.1,fun l hl=>by cases hl⟩
theorem MC{C:Pc}{n:Nat}{p i:Nat->List UInt8}(J:kf C (p 0))(hw:Way (fm C []) (mR C) n p i){j:Nat}(hj:j<=n):Jo (kf C) (fm C []) (mR C) (p j):=⟨j,p,i,J,hw.less hj,rfl⟩
theorem OP{C:Pc}(hv:Valid C){am:List (List Int)}(jN:Over C.mx am){x:Int}(hx:0<=x/\x<=2*C.mx+1)(hl:∀s i,Jo (kf C) (fm C []) (mR C) s->fm C [] s i->∀l∈am,l.any (lJ (vL C s i))=true){k:Nat}
  (hb:∀j:Nat,j<=k->¬∃g,(∀c∈jQ C am true (j+1),eX g c)/\jD g (bV (cu C j) x)) (hs:¬∃g,(∀c∈Rw C am x k,eX g c)/\jD g (bV (cu C k) x)):∀n:Nat,¬AA (kf C) (fm C []) (mR C) (xU C x) n:=by
 refine Sn (k:=k) (fun j hj QY=>hb j hj ?_) (fun pO=>hs ?_)
 ·obtain⟨p,i,J,hw,ha,mT⟩:=QY;refine Uf hv jN hx ⟨p,i,J,⟨fun m hm=>yA hl (MC J hw (by omega)) (hw.al m hm),hw.DU⟩,yA hl (MC J hw (aq _)) ha,mT⟩
 ·obtain⟨p,i,hw,ha,mT,dV,Fo,hr⟩:=pO;exact VX hv jN hx (DO (hr 0 (aU _))) ⟨fun m hm=>yA hl (hr m (by omega)) (hw.al m hm),hw.DU⟩ (yA hl (hr k (aq _)) ha) dV Fo mT
end
end Go.Proofs.YtpjbaobgnhjgoaaGreat
