/- Parts of a proof. -/
import Derived.Test.YtpjbaobgnhjgoaaGreatGAD
set_option linter.unusedVariables false
set_option linter.unusedSimpArgs false
set_option maxHeartbeats 8000000
set_option maxRecDepth 100000
namespace Go.Proofs.YtpjbaobgnhjgoaaGreat
open Go.RowKit
theorem DG(W:World)(z:Int)(h0:0<=z)(h1:z<=1099511627776):
  (Instr.makeSlice 22 (.int .i64 z) (.int .i64 z)).run Tryz.prog W= .ok (.slice (some ⟨W.heap.size,0,none⟩) z.toNat z.toNat) (W.alloc (.cells (madeCells #[.int .i64 0] z.toNat) 3)):=by
 obtain⟨i0,hi,zq,pj,J⟩:=info_parts nh;obtain⟨n,rfl⟩:=Int.eq_ofNat_of_zero_le h0;have hr:=run_make (P:=Tryz.prog) W 22 3 i0 (.int .i64 0) Tryz.underlying22 hi zq .i64 .i64 n n (by omega) (gE _) (by rw[J];omega) (by omega);simp only[Int.toNat_natCast]at hr⊢;rw[pj,j9]at hr;exact hr
theorem Cg(W:World)(n:Nat)(h:n<=maxLen):Ints (W.alloc (.cells (madeCells #[.int .i64 0] n) 3)) (some ⟨W.heap.size,0,none⟩) n (List.replicate n 0):=by have :=World.ownsRow_lit (base:=0) (e:=3) (size:=1) W (madeCells #[.int .i64 0] n) n (aU _) h (by rw[size_madeCells];omega);rw[toList_madeCells_one]at this;unfold Ints;rw[a8,List.map_replicate];exact this
theorem GL:(Tryz.prog.info? 4).map (fun i=>(i.zero,i.size,i.bytes))=some (some (.bool false),1,1):=by kernel_rfl
theorem nF(W:World)(z:Int)(h0:0<=z)(h1:z<=1099511627776):
  (Instr.makeSlice 110 (.int .i64 z) (.int .i64 z)).run Tryz.prog W= .ok (.slice (some ⟨W.heap.size,0,none⟩) z.toNat z.toNat) (W.alloc (.cells (madeCells #[.bool false] z.toNat) 4)):=by
 obtain⟨i0,hi,zq,pj,J⟩:=info_parts GL;obtain⟨n,rfl⟩:=Int.eq_ofNat_of_zero_le h0;have hr:=run_make (P:=Tryz.prog) W 110 4 i0 (.bool false) Tryz.underlying110 hi zq .i64 .i64 n n (by omega) (gE _) (by rw[J];omega) (by omega);simp only[Int.toNat_natCast]at hr⊢;rw[pj,j9]at hr;exact hr
theorem sN(W:World)(n:Nat)(h:n<=maxLen):Bools (W.alloc (.cells (madeCells #[.bool false] n) 4)) (some ⟨W.heap.size,0,none⟩) n (List.replicate n false):=by have :=World.ownsRow_lit (base:=0) (e:=4) (size:=1) W (madeCells #[.bool false] n) n (aU _) h (by rw[size_madeCells];omega);rw[toList_madeCells_one]at this;unfold Bools;rw[a8,List.map_replicate];exact this
theorem bh.qj{w:World}{L:aO}{S:Sv}(h:bh w L S)(i:Nat)(v:Value)(S':Sv)(he:(qm L S).setIfInBounds i v=qm L S')
  (hS:S'.T=S.T/\S'.H=S.H/\S'.list=S.list/\S'.watch=S.watch/\S'.phase=S.phase/\S'.model=S.model/\S'.core=S.core):
  bh (w.setCell ⟨L.a,i,none⟩ v) L S'/\Fr (L.own w) w (w.setCell ⟨L.a,i,none⟩ v):=by
 have hf:Fr [L.a] w (w.setCell ⟨L.a,i,none⟩ v):=(Fr.refl _ w).setCell (.inl (by simp)) _;obtain⟨h1,_,J⟩:=h.top (L':=L) (S':=S') hf (by have :=h.obj.dL i v;rw[he]at this;exact this) ⟨rfl,rfl,rfl,rfl,rfl,rfl,rfl,rfl,rfl,rfl,rfl,rfl,rfl,rfl,rfl,rfl,rfl⟩ hS;exact⟨h1,J⟩
theorem bh.model{w w1:World}{L:aO}{S:Sv}(h:bh w L S){g n:Nat}{ms:List Bool}(hr:Bools w1 (some ⟨g,0,none⟩) n ms)(hg:w.heap.size<=g)(hf:Fr [] w w1):
  ∃L',bh (w1.setCell ⟨L.a,6,none⟩ (.slice (some ⟨g,0,none⟩) ms.length n)) L' { S with model:=ms }/\L.ext L' w/\Fr (L.own w) w (w1.setCell ⟨L.a,6,none⟩ (.slice (some ⟨g,0,none⟩) ms.length n))/\
   L'={ L with mA:=some ⟨g,0,none⟩,mC:=n,dh:=L.re w (6,0) }:=by
 have cE:Fr [L.a] w (w1.setCell ⟨L.a,6,none⟩ (.slice (some ⟨g,0,none⟩) ms.length n)):=(hf.mono (fun k hk=>by cases hk)).setCell (.inl (by simp)) _;have hF:∀k,k∈[L.a]->k<w.heap.size->L.dh k=(L.id,0,0):=fun k hk _=>by simp at hk;subst hk;exact h.t0
 have o:=h.off (P:=(· =(0,0))) cE (fun k hk hl=>⟨_,rfl,hF k hk hl⟩);have gt:=h.tags (6,0);have dV:L.a≠g:=by have :=h.obj.lt;omega
 refine⟨{ L with mA:=some ⟨g,0,none⟩,mC:=n,dh:=L.re w (6,0) },⟨?_,o.tr (by decide),o.hp (by decide),h.jf,h.CJ,h.CI,o.wD (by decide),o.rws (by decide),o.wv (by decide),?_,o.vm (by decide),fun n J=>o.qM n J (by simp),fun n J=>o.sV n J (by simp),
  gt.t0,gt.t1,gt.t2,gt.t3,gt.t4,gt.t5,fun k hk=> ?_,gt.t7,gt.t8,gt.t9⟩,⟨rfl,rfl,fun k hk e=>aO.qs hk e⟩,aO.iJ cE (fun k hk hl=>by rw[hF k hk hl]),rfl⟩
 ·have :=(hf.at_ h.obj (by simp)).dL 6 (.slice (some ⟨g,0,none⟩) ms.length n);simpa[qm]using this
 ·have dN:Fr [L.a] w1 (w1.setCell ⟨L.a,6,none⟩ (.slice (some ⟨g,0,none⟩) ms.length n)):=(Fr.refl _ w1).setCell (.inl (by simp)) _;refine fc hr dN (fun k hk hm=> ?_);simp[ao]at hk hm;omega
 ·simp[ao]at hk;subst hk;exact aO.RN hg
theorem bh.Y5{w:World}{L:aO}{S:Sv}(h:bh w L S){v:Nat}(hv:v<S.model.length)(b:Bool):
  ∃J,L.mA=some ⟨J,0,none⟩/\w.cell? ⟨J,v,none⟩=some (.bool S.model[v]!)/\w.frozen? ⟨J,v,none⟩=false/\bh (w.setCell ⟨J,v,none⟩ (.bool b)) L { S with model:=S.model.set v b }/\Fr (L.own w) w (w.setCell ⟨J,v,none⟩ (.bool b)):=by
 have r:=h.yd;unfold Bools at r;obtain⟨J,hg,wX⟩:∃J,L.mA=some ⟨J,0,none⟩/\J<w.heap.size:=by
  rcases r.2 with⟨_,h2⟩ |⟨g,cap,cur,hv,_,hg,_⟩
  ·omega
  ·simp only[Value.slice.injEq,true_and]at hv;exact⟨g,hv.1,At.lt (t:=4) hg⟩
 rw[hg]at r;have mH:L.dh J=(L.id,6,0):=h.t6 J (by rw[hg];simp[ao]);have hf:Fr [J] w (w.setCell ⟨J,v,none⟩ (.bool b)):=(Fr.refl _ w).setCell (.inl (by simp)) _;have o:=h.off (P:=(· =(6,0))) hf (fun k hk hl=>⟨_,rfl,by simp at hk;subst hk;exact mH⟩);have pO:=(World.ownsRow.stored r v (.bool b)).1;refine⟨J,hg,?_,World.ownsRow.frozenAt r v,⟨?_,o.tr (by decide),o.hp (by decide),h.jf,h.CJ,h.CI,o.wD (by decide),o.rws (by decide),o.wv (by decide),?_,o.vm (by decide),fun n hn=>o.qM n hn (by simp),fun n hn=>o.sV n hn (by simp),
  h.t0,h.t1,h.t2,h.t3,h.t4,h.t5,h.t6,h.t7,h.t8,h.t9⟩,aO.iJ hf (fun k hk hl=>by simp at hk;subst hk;rw[mH])⟩
 ·rw[World.ownsRow.cellAt r v (by omega)];simp only[aZ,af hv,dA,aa,aJ]
 ·have :=o.obj (by decide);simp only[qm,aw]at this⊢;exact this
 ·unfold Bools;simp only[aw,List.map_set];rw[hg];exact pO
namespace Sv
def pop(S:Sv):Sv:={ S with H:=S.H.lu }
theorem Ok.pop{S:Sv}{m:Nat}(ok:S.Ok m)(J:0<S.H.items.length):S.pop.Ok m:=by have h:=ok.hi.pop J;exact⟨ok.vl,ok.tr,h.1,by show S.H.lu.at_.length=_;rw[h.2.2.2.1];exact ok.hl,ok.ph,ok.wl,ok.ll,ok.wb,ok.wt,ok.lr,ok.ln,ok.lb,ok.hd,ok.rs⟩
theorem Ge{S:Sv}{f:Nat}(h:S.H.items.length=0):dg f S=(S,0):=by
 cases f with
 |zero=>rfl
 |succ f=>simp only[dg];rw[qai h]
theorem Gf{S:Sv}{f:Nat}(h:S.H.items.length≠0)(J:S.val (S.H.it 0)≠0):dg (f+1) S=dg f S.pop:=by simp only[dg];rw[qah h,qai (by exact J)];rfl
theorem B7{S:Sv}{f:Nat}(h:S.H.items.length≠0)(J:S.val (S.H.it 0)=0):dg (f+1) S=(S.pop,if S.phase[(S.H.it 0).toNat]! =true then S.H.it 0 else -(S.H.it 0)):=by simp only[dg];rw[qah h,qah (by exact not_not_intro J)];rfl
theorem Ok.dg{m:Nat}:∀(f:Nat)(S:Sv),S.Ok m->(dg f S).1.Ok m/\(Sv.dg f S).1.T=S.T/\(Sv.dg f S).1.vars=S.vars/\(Sv.dg f S).1.list=S.list/\(Sv.dg f S).1.head=S.head/\ -(S.vars:Int)<=(Sv.dg f S).2/\(Sv.dg f S).2<=S.vars
 |0,S,ok=>⟨ok,rfl,rfl,rfl,rfl,by simp only[Sv.dg];omega,by simp only[Sv.dg];omega⟩
 |f+1,S,ok=>by
  by_cases h:S.H.items.length=0
  ·rw[Ge h];exact⟨ok,rfl,rfl,rfl,rfl,by simp only;omega,by simp only;omega⟩
  ·have hp:=ok.pop (by omega);by_cases J:S.val (S.H.it 0)=0
   ·rw[B7 h J];have hr:=ok.hi.pc.pG 0 (by omega);have hl:=ok.hl;have e:S.H.it 0=S.H.items[0]! :=kD S.H 0;refine⟨hp,rfl,rfl,rfl,rfl,?_⟩;simp only;split<;>omega
   ·rw[Gf h J];exact Ok.dg f S.pop hp
theorem Ok.pick{S:Sv}{m:Nat}(ok:S.Ok m):S.pick.1.Ok m/\S.pick.1.T=S.T/\S.pick.1.vars=S.vars/\S.pick.1.list=S.list/\S.pick.1.head=S.head/\ -(S.vars:Int)<=S.pick.2/\S.pick.2<=S.vars:=Ok.dg _ _ ok
end Sv
theorem JP(w:World)(L:aO)(S:Sv)(h:bh w L S)(m:Nat)(ok:S.Ok m):
  Calls Tryz.prog 144 #[.pointer (some ⟨L.a,0,none⟩)] w (pB (.int .i64 S.pick.2) S.pick.1 L w):=by
 obtain⟨eH,eB⟩:∃eH,S.pick=eH:=⟨_,rfl⟩
 have gd:aj (Sv.dg (S.H.items.length+1) S=eH):=eB;rw[eB];have pT:aj (∀(S':Sv)(r:Int),eH=(S',r)->∀W L',bh W L' S'->L.ext L' w->Fr (L.own w) w W->pB (.int .i64 eH.2) eH.1 L w (.returned (.int .i64 r)) W):=fun S' r e W L' g1 g2 g3=>by subst e;exact⟨rfl,L',g1,g2,g3⟩
 have HH:=ae h;have lh:=ae ok;have lP:=ok.vl;clear eB h ok;go_enter Tryz.func144,Tryz.ntmps144;go_wp2_with fail;go_loopg [] (S.H.items.length+1) (fun g wr=>∃(J:Sv)(L1:aO),aj (Sv.dg g J=eH)/\J.H.items.length+1<=g/\aj (J.T=S.T/\J.vars=S.vars)/\aj (J.Ok m)/\aj (bh wr L1 J)/\aj (L.ext L1 w)/\aj (Fr (L.own w) w wr));case atStart=>exact⟨S,L,gd.o,aq _,⟨rfl,rfl⟩,lh.o,HH.o,aO.cw _ _,Fr.refl _ _⟩
 case round=>
  obtain⟨J,L1,tz,hg,sB,lZ,H1,fH,dZ⟩:=hrel;have HG:=ae hg;have nW:L1.a=L.a:=fH.o.1;obtain⟨-,c1,-⟩:=H1.o.cells;rw[nW]at c1;have aB:=ae nW;have nV:=lZ.o.hi.pc.len;have Th:=lZ.o.hl;have aK:J.vars=S.vars:=sB.o.2;clear nW hg;by_cases h0:J.H.items.length=0
  ·have hn:J.H.items=[]:=aX h0;have KP:=ae (Hn wr L1.hL J.H H1.o.hp hn);have HK:aj (eH=(J,0)):=by have :=tz.o;rw[Sv.Ge h0]at this;exact this.symm
   clear hn;go_wp2_with fail;refine KP.o.mono ?_;rintro e w2 ⟨rfl,rfl⟩;clear c1;have FF:=ae (pT.o J 0 HK.o _ L1 H1.o fH.o dZ.o);go_wp2;go_ret;exact FF.o
  ·obtain⟨f,rfl⟩:∃f,gk=f+1:=⟨gk-1,by have :=HG.o;omega⟩
   obtain⟨n,hn⟩:∃n,J.H.items.length=n+1:=⟨J.H.items.length-1,by omega⟩
   have KP:=ae (Ez wr L1.hL J.H H1.o.hp lZ.o.hi.pc.pG n hn (by omega));have hr:=lZ.o.hi.pc.pG 0 (by omega);have QW:J.H.it 0=J.H.items[0]! :=kD J.H 0;rw[<-QW]at hr;obtain⟨v,hv⟩:∃v:Nat,J.H.it 0=v:=⟨(J.H.it 0).toNat,by omega⟩
   rw[hv]at hr KP;have HP:=ae (lZ.o.hi.pop (by omega));have HV:=ae hv;have HN:=ae hn;have Mc:=ae (lZ.o.pop (by omega));clear QW hv hn;go_wp2_with fail;refine KP.o.mono ?_;clear KP c1;rintro e w2 ⟨rfl,ad,cE⟩;obtain⟨L2,g2,ZL,ZK⟩:=H1.o.heap ad (gK.cw _ _) cE;have G2:aj (bh w2 L2 J.pop):=g2;have dR:=ae (aO.a6 fH.o ZL dZ.o.size);have df:=ae (aO.aQ fH.o dZ.o ZK);have ab:L2.a=L.a:=dR.o.1;obtain⟨c0,-,-,-,-,c5,-⟩:=G2.o.cells;rw[ab]at c0 c5;have ar:v<J.pop.phase.length:=by rw[Mc.o.ph];show v<J.vars+1;omega
   obtain⟨gp,Tj,sp,fp⟩:=G2.o.aaA ar;rw[Tj]at c5;obtain⟨b,hb⟩:∃b,J.pop.phase[v]! =b:=⟨_,rfl⟩
   rw[hb]at sp;have HB:=ae hb;have GR:(v:Int)<(J.pop.phase.length:Int):=by omega
   obtain⟨pl,Cr⟩:∃pl,J.pop.phase.length=pl:=⟨_,rfl⟩
   rw[Cr]at c5 GR ar;have KV:=eN w2 L2.tL J.pop.T G2.o.tr (v:Int) (by omega) (by omega) Mc.o.small;obtain⟨y,hy⟩:∃y,J.pop.T.mQ (v:Int)=y:=⟨_,rfl⟩
   rw[hy]at KV;have KV:=ae KV;have HY:=ae hy;have eo:IntKind.i64.wrap (-(v:Int))= -(v:Int):=IntWalk.i64_in _ (by omega);clear hb hy Cr g2 ZL ZK cE ad ab Tj fp;by_cases lf:y=0
   ·have hd:decide (y≠0)=false:=by simp[lf]
    have xM:(y !=0)=false:=(by simp[lf])
    have HK:aj (eH=(J.pop,if b=true then(v:Int)else -(v:Int))):=by have :=tz.o;rw[Sv.B7 h0 (by rw[HV.o];exact HY.o.trans lf),HV.o,Int.toNat_natCast]at this;rw[<-HB.o];exact this.symm
    subst lf;cases b with
    |true=>
     have FF:=ae (pT.o J.pop (v:Int) HK.o _ L2 G2.o dR.o df.o);go_wp2_with fail;refine KV.o.mono ?_;rintro e w3 ⟨rfl,rfl⟩;clear KV;go_wp2;go_ret;exact FF.o
    |false=>
     have FF:=ae (pT.o J.pop (-(v:Int)) HK.o _ L2 G2.o dR.o df.o);go_wp2_with fail;refine KV.o.mono ?_;rintro e w3 ⟨rfl,rfl⟩;clear KV;go_wp2;go_ret;exact FF.o
   ·have xM:(y !=0)=true:=by simp[lf]
    have HK:aj (Sv.dg f J.pop=eH):=by have :=tz.o;rw[Sv.Gf h0 (by rw[HV.o];exact fun h=>lf (HY.o.symm.trans h))]at this;exact this
    go_wp2_with fail;refine KV.o.mono ?_;rintro e w3 ⟨rfl,rfl⟩;clear KV;go_wp2;go_roundg f;case measure=>omega
    case rel=>exact⟨J.pop,L2,HK.o,by have :=HG.o;have :=HP.o.2.2.1;have e:J.pop.H.items.length=J.H.lu.items.length:=rfl;omega,⟨sB.o.1,sB.o.2⟩,Mc.o,G2.o,dR.o,df.o⟩
theorem Sv.Ok.keep{S:Sv}{m:Nat}(ok:S.Ok m):S.keep.Ok m:=
 ⟨ok.vl,ok.tr,ok.hi,ok.hl,ok.ph,ok.wl,ok.ll,ok.wb,ok.wt,ok.lr,ok.ln,ok.lb,ok.hd,ok.rs⟩
theorem J9(w:World)(L:aO)(S:Sv)(h:bh w L S)(m:Nat)(ok:S.Ok m):
  Calls Tryz.prog 145 #[.pointer (some ⟨L.a,0,none⟩)] w (pB (.tuple #[]) S.keep L w):=by
 have HH:=ae h;have lh:=ae ok;have lP:=ok.vl;obtain⟨-,-,c2,-,-,-,d6,-⟩:=h.cells;obtain⟨n,hn⟩:∃n,((S.vars:Int)+1).toNat=n:=⟨_,rfl⟩
 have rP:n=S.vars+1:=by omega
 have SV:=fun W=>nF W ((S.vars:Int)+1) (by omega) (by omega);simp only[hn]at SV;have eo:IntKind.i64.wrap ((S.vars:Int)+1)=(S.vars:Int)+1:=IntWalk.i64_in _ (by omega);have HN:=ae rP;have gQ:=(h.obj.alloc (.cells (madeCells #[.bool false] n) 4)).frozen 6;have bj:=(aR w (.cells (madeCells #[.bool false] n) 4)).aF d6;obtain⟨L1,g1,ad,J,aB⟩:=h.model (sN w n (by unfold maxLen;omega)) (aq _) ((Fr.refl [] w).alloc _);rw[a8]at g1 J;obtain⟨W1,iQ⟩:∃W,(w.alloc (.cells (madeCells #[.bool false] n) 4)).setCell ⟨L.a,6,none⟩ (.slice (some ⟨w.heap.size,0,none⟩) n n)=W:=⟨_,rfl⟩
 have ba:=ae iQ;rw[iQ]at g1 J;have G1:=ae g1;have aK:=ae ad;have aT:=ae J;have nW:L1.a=L.a:=ad.1;have ab:=g1.cells.2.2.2.2.2.2.1;rw[aB]at ab;simp only[a8]at ab;have Qw:=ae ab;clear g1 ad J aB iQ hn rP h ok nW ab d6;go_enter Tryz.func145,Tryz.ntmps145;go_upto_region 1 with fail;rw[ba.o];clear SV eo gQ c2 bj;have c6:=Qw.o;go_wp2_with fail;clear c6;go_loopg [17] n (fun g MA wr=>∃(i:Nat)(L2:aO)(ms:List Bool),i+g=n/\MA= .int .i64 i/\aj (ms.length=n)/\aj (∀j:Nat,j<i->ms[j]! =decide (0<S.val (j:Int)))/\aj (bh wr L2 { S with model:=ms })/\aj (L.ext L2 w)/\aj (Fr (L.own w) w wr));case atStart=>exact⟨0,L1,List.replicate n false,by omega,rfl,a8,fun j hj=>absurd hj (aD _),G1.o,aK.o,aT.o⟩
 case round=>
  obtain⟨i,L2,ms,hi,rfl,Qp,Ob,H2,dR,df⟩:=hrel;have HI:=ae hi;have mO:i<=n:=by omega
  have nW:L2.a=L.a:=dR.o.1;clear hi;by_cases bt:i<n
  ·obtain⟨gp,Tj,sp,fp,h3,dN⟩:=H2.o.Y5 (v:=i) (by show i<ms.length;rw[Qp.o];exact bt) (decide (0<S.val (i:Int)));obtain⟨c0,-,-,-,-,-,c6,-⟩:=H2.o.cells;rw[nW]at c0 c6;simp only[Qp.o]at c6;rw[Tj]at c6;have vZ:=ae c0;have bg:=ae c6;have ar:=ae sp;have a1:=ae fp;have H3:=ae h3;have dG:=ae dN;have hd:decide ((i:Int)<(n:Int))=true:=qak (by omega);have Fo:n<=262144:=by have :=HN.o;omega
   have qJ:(i:Int)<(n:Int):=by omega
   obtain⟨y,hy⟩:∃y,S.T.mQ (i:Int)=y:=⟨_,rfl⟩
   have KV:=ae (fun W (hW:Fr [] wr W)=>eN W L2.tL S.T (H2.o.tr.fr hW (by simp)) (i:Int) (by omega) (by omega) lh.o.small);simp only[hy]at KV;have HY:aj (S.val (i:Int)=y):=hy;rw[HY.o]at H3 dG;clear Tj sp fp h3 dN c0 c6 nW hy;go_upto_region 4 with fail;refine qan ?_;refine bw (fun w':World=>Fr [] wr w') 13 (by kernel_rfl) ((Fr.refl [] wr).drew) (fun dy=> ?_);refine oI 10 [(0,[]),(1,[]),(2,[]),(3,[3,13]),(4,[]),(5,[]),(6,[]),(7,[]),(8,[8,13]),(9,[])] dy (fun w bT=>And.intro (bT.aF vZ.o) (bT.aF bg.o)) ?_;intro dy;refine R2 10 dy fun K hK aM=> ?_
   (go_simp;refine(KV.o _ aM).mono ?_;rintro e w5 ⟨rfl,rfl⟩;dsimp only)
   refine hK.out _ _ (.inr ?_) (fun nO=> ?_)
   ·exact aM
   clear hK K;try simp only[Act.put,q5,q6,q7]
   refine TB 2 [(11,[]),(12,[])] nO ?_;intro nO;refine R2 13 nO fun K hK aM=> ?_
   (have sb:=aM.aF ar.o;have fb:World.frozen? _ _=_:=(World.frozen?_of_block (aM.block gp (bR ar.o) (by simp))).trans a1.o;go_simp)
   refine hK.out _ _ (.inl rfl) (fun mU=> ?_);clear hK K;try simp only[Act.put,q5,q6,q7]
   refine fO ?_;have h5:=H3.o.keep (Fr.refl [] _).drew;have f5:=dG.o.drew;have bb:aj (∀j:Nat,j<i+1->(ms.set i (decide (0<y)))[j]! =decide (0<S.val (j:Int))):=fun j hj=>by
    rw[eQ];by_cases e:i=j
    ·subst e;rw[qai ⟨rfl,by rw[Qp.o];exact bt⟩,HY.o]
    ·rw[qah (fun x=>e x.1)];exact Ob.o j (by omega)
   obtain⟨W5,XF⟩:∃W,((wr.setCell ⟨gp,i,none⟩ (.bool (decide (0<y)))).drew)=W:=⟨_,rfl⟩
   rw[XF]at h5 f5;have H5:=ae h5;have F5:=ae f5;try rw[XF]
   clear h5 f5 XF;go_wp2;go_roundg (n-(i+1));case measure=>have :=HI.o;omega
   case rel=>exact⟨i+1,L2,ms.set i (decide (0<y)),by omega,by go_num,(by rw[aw];exact Qp.o),bb.o,H5.o,dR.o,aO.aQ dR.o df.o F5.o⟩
  ·obtain rfl :i=n:=by omega
   have hd:decide ((i:Int)<(i:Int))=false:=by simp
   have f14:=H2.o.obj.frozen 14;rw[nW]at f14;obtain⟨-,-,-,-,-,-,-,-,-,-,-,-,-,-,bo⟩:=H2.o.cells;rw[nW]at bo;obtain⟨h3,dN⟩:=H2.o.qj 14 (.bool true) ({ S with model:=ms,has:=true }:Sv) rfl ⟨rfl,rfl,rfl,rfl,rfl,rfl,rfl⟩;rw[nW]at h3 dN;have hK:({ S with model:=ms,has:=true }:Sv)=S.keep:=by
    unfold Sv.keep;congr 1;apply List.ext_getElem
    ·rw[Qp.o,aG,de,HN.o]
    ·intro j h1 h2;have :=Ob.o j (by rw[Qp.o]at h1;exact h1);simp only[List.getElem_map,List.getElem_range];rw[<-this];simp[aa,af h1]
   rw[hK]at h3;have FF:aj (pB (.tuple #[]) S.keep L w (.returned (.tuple #[])) _):=⟨rfl,L2,h3,dR.o,aO.aQ dR.o df.o dN⟩
   clear h3 dN hK;go_wp2_with fail;go_end0;exact FF.o
theorem pF{w:World}{ops:Array Oper}{o:Oper}{a:Act}{K:Act->World->Prop}{Q:Exit->Act->World->Prop}{E:Prop}(rA:o.guard=none)(s x:Operand)(t:TypeId)
  (ho:o.op= .call { callee:= .builtin .append,args:=#[s,x],argTypes:=#[t,t] }) (e:TypeId) (z:Value) (size bytes:Nat) (ht:Tryz.prog.underlying t=some (.slice e)) (hi:(Tryz.prog.info? e).map (fun i=>(i.zero,i.size,i.bytes))=some (some z,size,bytes)) (Cm:z.cells.size=size) (nM:0<size)
  (A:Option Addr) (c n:Nat) (hs:a.eval s= .slice A n c) (xs:List Value) (dD:w.ownsRow 0 e size (.slice A n c) n xs) (J:Addr) (c':Nat) (hx:a.eval x= .slice (some J) 1 c') (news:List Value) (hl:news.length=size)
  (mG:∀j u,news[j]? =some u->w.cell? (J.add j)=some u) (h1:∀u∈news,u.oneCell'=true) (NA:n+1<=maxLen) (j3:(n+1)*bytes<=140737488355328)
  (h:∀g cap w',w'.ownsRow 0 e size (.slice (some ⟨g,0,none⟩) (n+1) cap) (n+1) (xs++news)->Fr (ao A) w w'->(g∈ao A\/g=w.heap.size)->K (a.put o.dst (.slice (some ⟨g,0,none⟩) (n+1) cap)) w'):
  if Region.wanted o (yielded ops a.tmps)=true then Oper.wp Tryz.prog o a w K Q else E:=by
 have hw:Region.wanted o (yielded ops a.tmps)=true:=by simp[Region.wanted,rA]
 rw[qai hw];obtain⟨A',cap,w',hr,h2,h3,h4,h5,h6,h7⟩:=ik w t o.type e z size bytes ht hi Cm nM A c n xs dD J 1 c' news (by omega) mG h1 NA j3;cases A' with
 |none=>exact absurd (h6 rfl).1 (by decide)
 |some a'=>
  obtain⟨g,rfl⟩:=h7 a' rfl;unfold Oper.wp execOp;simp only[ho,resolve,invoke,builtin,Sem.run_bind,Sem.run_pure,Result.andThen_ok,List.map_toArray,dJ,fQ,hs,hx,hr];exact h g cap w' h2 h3 (h4 g (by simp[ao]))
theorem bh.jA{w w1:World}{L:aO}{S:Sv}(h:bh w L S){A':Option Addr}{c':Nat}{F:List Nat}{x:Cw}(hi:uN w1 A' c' (L.cs++[x]))(hf:Fr F w w1)(hF:∀k,k∈F->k<w.heap.size->L.dh k=(L.id,3,0))
  (hA:∀k,k∈ao A'->(k<w.heap.size/\L.dh k=(L.id,3,0))\/w.heap.size<=k) (hx:Ints w x.A x.c x.lits) (Ze:∀k,k∈ao x.A->L.dh k=(L.id,8,L.cs.length)):
  ∃L',bh (w1.setCell ⟨L.a,3,none⟩ (.slice A' (L.cs.length+1) c')) L' { S with list:=S.list++[x.rc] }/\L.ext L' w/\Fr (L.own w) w (w1.setCell ⟨L.a,3,none⟩ (.slice A' (L.cs.length+1) c'))/\L'={ L with cA:=A',cC:=c',cs:=L.cs++[x],dh:=L.re w (3,0) }:=by
 have cE:Fr (L.a::F) w (w1.setCell ⟨L.a,3,none⟩ (.slice A' (L.cs.length+1) c')):=(hf.mono (fun k hk=> .inl (by simp[hk]))).setCell (.inl (by simp)) _;have zC:∀k,k∈L.a::F->k<w.heap.size->∃t,(t=(3,0)\/t=(0,0))/\L.dh k=(L.id,t):=by
  intro k hk hl;rcases ay.1 hk with rfl |hk
  ·exact⟨_, .inr rfl,h.t0⟩
  ·exact⟨_, .inl rfl,hF k hk hl⟩
 have o:=h.off (P:=fun t=>t=(3,0)\/t=(0,0)) cE zC;have o1:=h.off (P:=(· =(3,0))) hf (fun k hk hl=>⟨_,rfl,hF k hk hl⟩);have g:=h.tags (3,0);have dV:L.a∉ao A':=fun hk=>by
  rcases hA _ hk with⟨_,h2⟩ |h2
  ·rw[h.t0]at h2;simp at h2
  ·have :=h.obj.lt;omega
 have rS:∀j:Nat,(L.cs++[x])[j]! =if j=L.cs.length then x else L.cs[j]! :=fun j=>by
  simp only[aa,List.getElem?_append];split
  ·rw[qah (by omega)]
  ·rename_i J;split
   ·rename_i e;subst e;simp
   ·rw[iZ (by simp;omega),iZ (by omega)]
 have ab:Ints (w1.setCell ⟨L.a,3,none⟩ (.slice A' (L.cs.length+1) c')) x.A x.c x.lits:=hx.fr cE (fun k hk hm=>by obtain⟨t,ht,hl⟩:=zC k hm (hx.lt k hk);rw[Ze k hk]at hl;simp only[Prod.mk.injEq,true_and]at hl;rcases ht with rfl |rfl <;>simp at hl);refine⟨{ L with cA:=A',cC:=c',cs:=L.cs++[x],dh:=L.re w (3,0) },⟨?_,o.tr (by simp),o.hp (by simp),h.jf,?_,h.CI,?_,o.rws (by simp),o.wv (by simp),o.yd (by simp),o.vm (by simp),?_,fun c hc=>o.sV c hc (by simp),
  g.t0,g.t1,g.t2,fun k hk=>aO.o4 (hA k hk),g.t4,g.t5,g.t6,g.t7,?_,g.t9⟩,⟨rfl,rfl,fun k hk e=>aO.qs hk e⟩,aO.iJ cE (fun k hk hl=>by obtain⟨t,_,e⟩:=zC k hk hl;rw[e]),rfl⟩
 ·have :=(o1.obj (by simp)).dL 3 (.slice A' (L.cs.length+1) c');simpa[qm]using this
 ·simp only[bE,dJ,fQ,h.CJ]
 ·unfold uN at hi⊢;have dN:Fr [L.a] w1 (w1.setCell ⟨L.a,3,none⟩ (.slice A' (L.cs.length+1) c')):=(Fr.refl _ w1).setCell (.inl (by simp)) _;exact fc hi dN (fun k hk hm=>dV (by simp at hm;subst hm;exact hk))
 ·intro j J;simp only[an,aV]at J;simp only;rw[rS];split
  ·exact ab
  ·exact o.qM j (by omega) (by simp)
 ·intro j J k hk;simp only[an,aV]at J;simp only at hk;rw[rS]at hk;split at hk
  ·rename_i e;subst e;show L.re w (3,0) k=_;rw[aO.jx (hx.lt k hk)];exact Ze k hk
  ·exact g.t8 j (by omega) k hk
namespace Sv
def jA(S:Sv)(ls:List Int)(b:Bool):Sv:={ S with list:=S.list++[⟨ls,b,S.used⟩] }
theorem ye(S:Sv)(ls:List Int)(b:Bool)(n:Nat):(S.jA ls b).rc n=if n=S.list.length then⟨ls,b,S.used⟩else S.rc n:=by
 simp only[rc,jA,aa,List.getElem?_append];split
 ·rw[qah (by omega)]
 ·rename_i J;split
  ·rename_i e;subst e;simp
  ·rw[iZ (by simp;omega),iZ (by omega)]
structure Fits(S:Sv)(ls:List Int):Prop where
 two:2<=ls.length
 top:ls.length<=1048576
 lit:∀x∈ls,x≠0/\ -(S.vars:Int)<=x/\x<=S.vars
theorem Ok.jA{S:Sv}{m:Nat}(ok:S.Ok m){ls:List Int}(hl:S.Fits ls)(b:Bool)(hr:S.list.length<2199023255552):(S.jA ls b).Ok (m+2):=by
 have hlen:(S.jA ls b).list.length=S.list.length+1:=by simp[Sv.jA]
 refine⟨ok.vl,ok.tr,ok.hi,ok.hl,ok.ph,ok.wl,by rw[hlen];omega,fun c n hn=> ?_,?_,fun n x J=> ?_,fun n=> ?_,fun n=> ?_,ok.hd,fun v=> ?_⟩
 ·have :=ok.wb c n hn;omega
 ·rw[hlen];have :=ok.wt;show(S.watch.map List.length).sum+(m+2)<=_;omega
 ·rw[ye]at J;split at J
  ·exact hl.lit x J
  ·exact ok.lr n x J
 ·rw[ye];split
  ·have :=hl.two;show ls.length≠1;omega
  ·exact ok.ln n
 ·rw[ye];split
  ·exact hl.top
  ·exact ok.lb n
 ·rw[hlen];have :=ok.rs v;show 0<=S.T.fV v/\S.T.fV v<=_;omega
theorem Ok.XX{S:Sv}{m:Nat}(ok:S.Ok m){ls:List Int}(hl:S.Fits ls)(b:Bool)(hr:S.list.length<2199023255552):((S.jA ls b).i9 (aW ls[0]!) S.list.length).Ok (m+1):=by
 have h:=ok.jA hl b hr;have h2:=hl.two;have hw:(S.jA ls b).watch.length=2*S.vars+2:=ok.wl;have hlen:(S.jA ls b).list.length=S.list.length+1:=by simp[Sv.jA]
 have J:=hl.lit _ (get_mem (l:=ls) (i:=0) (by omega));exact Ok.i9 (S:=S.jA ls b) (m:=m+1) h (c:=aW ls[0]!) (n:=S.list.length) (by rw[hw];exact iR J.2.1 J.2.2) (by omega)
theorem Ok.attach{S:Sv}{m:Nat}(ok:S.Ok m){ls:List Int}(hl:S.Fits ls)(b:Bool)(hr:S.list.length<2199023255552):(S.attach ls b).Ok m:=by
 have h:=ok.jA hl b hr;have h2:=hl.two;have hw:(S.jA ls b).watch.length=2*S.vars+2:=ok.wl;have hlen:(S.jA ls b).list.length=S.list.length+1:=by simp[Sv.jA]
 have J:=hl.lit _ (get_mem (l:=ls) (i:=0) (by omega));have b1:=hl.lit _ (get_mem (l:=ls) (i:=1) (by omega));have k1:=Ok.i9 (S:=S.jA ls b) (m:=m+1) h (c:=aW ls[0]!) (n:=S.list.length) (by rw[hw];exact iR J.2.1 J.2.2) (by omega);exact Ok.i9 k1 (c:=aW ls[1]!) (n:=S.list.length) (by show aW ls[1]! <((S.jA ls b).watch.set _ _).length;rw[aw,hw];exact iR b1.2.1 b1.2.2) (by show _<(S.jA ls b).list.length;omega)
theorem du(S:Sv)(ls:List Int)(b:Bool):(S.attach ls b).T=S.T/\(S.attach ls b).vars=S.vars/\(S.attach ls b).list.length=S.list.length+1/\(S.attach ls b).head=S.head/\(S.attach ls b).used=S.used/\(S.attach ls b).H=S.H:=by simp[attach,i9,cJ]
end Sv
theorem Wz:(Tryz.prog.info? 168).map (fun i=>(i.zero,i.size,i.bytes))=some (some (.agg #[.slice none 0 0, .bool false, .int .i64 0]),3,40):=by kernel_rfl
theorem FR{w:World}{g:Nat}{t:TypeId}{a b c:Value}(h:At w g t #[a,b,c]):∀j u,[a,b,c][j]? =some u->w.cell? ((Addr.mk g 0 none).add j)=some u:=fun j u hu=>by rw[dQ,dd,h.cell];simpa using hu
theorem PM(cs:List Cw)(x:Cw):fP cs++[.slice x.A x.lits.length x.c, .bool x.nI, .int .i64 x.act]=fP (cs++[x]):=by rw[PO];rfl
theorem YW{α β γ:Type}{C:α->β->γ->Prop}{P:α->β->γ->Prop}{G:Prop}(m:(∀x y z,C x y z->P x y z)->G)(t:∀x y z,C x y z->P x y z):G:=m t
def AtP(n:Nat)(S':Sv)(A:Option Addr)(c:Nat)(ls:List Int)(L:aO)(w:World)(e:Ending)(w':World):Prop:=
 e= .returned (.int .i64 (n:Nat))/\∃L',bh w' L' S'/\L'.a=L.a/\L'.id=L.id/\(∀k,k<w.heap.size->(L'.dh k).1=L.id->(L.dh k).1=L.id\/k∈ao A)/\Fr (ao A++L.own w) w w'/\Ints w' A c ls/\L'.tL=L.tL
theorem uH(w:World)(L:aO)(S:Sv)(h:bh w L S)(m:Nat)(ok:S.Ok m)(A:Option Addr)(c:Nat)(ls:List Int)(b:Bool)(hi:Ints w A c ls)(pS:S.Fits ls)(hA:∀k,k∈ao A->(L.dh k).1≠L.id)(hr:S.list.length<2199023255552)(hu:S.used<=2199023255552):
  Calls Tryz.prog 130 #[.pointer (some ⟨L.a,0,none⟩), .slice A ls.length c, .bool b] w (AtP S.list.length (S.attach ls b) A c ls L w):=by
 obtain⟨ga,rB,Xq⟩:=hi.pos (i:=0) (by have :=pS.two;omega);subst rB;have No:=h.pN;have WG:=h.uf.trans ok.wl;have tk:∀k,L.has k->k∉ao (some (⟨ga,0,none⟩:Addr)):=fun k hk hm=>hA k hm (h.kR hk);have h0:=h.MS (fun k=>if k∈ao (some (⟨ga,0,none⟩:Addr))then(L.id,8,L.cs.length)else L.dh k) (fun k hk=>qah (tk k hk));obtain⟨L0,Vs⟩:∃L0,({ L with dh:=fun k=>if k∈ao (some (⟨ga,0,none⟩:Addr))then(L.id,8,L.cs.length)else L.dh k }:aO)=L0:=⟨_,rfl⟩
 rw[Vs]at h0;have a1:L0.a=L.a:=by rw[<-Vs]
 have eH:L0.cs=L.cs:=by rw[<-Vs]
 have c8:L0.ws=L.ws:=by rw[<-Vs]
 have b6:L0.id=L.id:=by rw[<-Vs]
 have cz:L0.dh ga=(L0.id,8,L0.cs.length):=by rw[<-Vs];simp[ao]
 have Bn:aj (∀W L',bh W L' (S.attach ls b)->L0.ext L' w->Fr (L0.own w) w W->Ints W (some ⟨ga,0,none⟩) c ls->L'.tL=L0.tL->AtP S.list.length (S.attach ls b) (some ⟨ga,0,none⟩) c ls L w (.returned (.int .i64 (S.list.length:Nat))) W):=fun W L' g1 g2 g3 g4 g5=>by
  refine⟨rfl,L',g1,g2.1.trans a1,g2.2.1.trans b6,fun k hk e=> ?_,?_,g4,by rw[g5,<-Vs]⟩
  ·have e2:=g2.2.2 k hk (e.trans b6.symm);rw[<-Vs]at e2;simp only at e2;by_cases hm:k∈ao (some (⟨ga,0,none⟩:Addr))
   ·exact .inr hm
   ·rw[qah hm]at e2;exact .inl e2
  ·refine g3.mono (fun k hk=> ?_);rw[aO.cj]at hk
   left
   by_cases hm:k∈ao (some (⟨ga,0,none⟩:Addr))
   ·exact av _ hm
   ·refine bP _ (aO.cj.2 ⟨hk.1,?_⟩);have e2:=hk.2;rw[<-Vs]at e2;simp only[qah hm]at e2;exact e2
 have ea:L0.cs.length=S.list.length:=h0.pN;have cI:L0.ws.length=2*S.vars+2:=by rw[c8];exact WG
 have Zo:=hi.cell (i:=0) (by have :=pS.two;omega);have Zn:=hi.cell (i:=1) (by have :=pS.two;omega);obtain⟨-,-,-,c3,c4,-,-,-,-,c9,-⟩:=h0.cells;have f3:=h0.obj.frozen 3;rw[a1]at c3 c4 c9 f3;have I5:=ae c3;have Qx:=ae c4;have cn:=ae c9;have dG:=ae f3;have Mn:=ae pS;have nX:uN w L0.cA L0.cC L0.cs:=h0.wD;have rX:aj (L.a∉ao L0.cA):=fun hm=>by have e1:=h0.t3 _ hm;rw[<-a1,h0.t0]at e1;simp at e1
 have cy:∀k,k∈ao L0.cA->k<w.heap.size:=eK nX;have Zr:∀k,k∈ao L0.cA->L0.dh k=(L0.id,3,0):=h0.t3;have dn:=ae cy;have UH:=ae Zr;have H0:=ae h0;have HI:=ae hi;have Fb:=ae cz;have ds:=ae a1;have lh:=ae (ok.jA pS b hr);have UI:=ae (ok.XX pS b hr);have fi:=ae ea;have fJ:=ae cI;have fj:=ae Zo;have tz:=ae Zn;have en:L0.cs.length<2199023255552:=by omega
 obtain⟨n,hn⟩:∃n,L0.cs.length=n:=⟨_,rfl⟩
 have cc:S.list.length=n:=by omega
 rw[cc]at Bn⊢;rw[hn]at c3 en;have HN:=ae hn;unfold uN at nX;rw[hn]at nX;have c7:=ae nX;have pJ:2<=ls.length:=pS.two;have cp:=ae cc;have bt:ls.length<=1048576:=pS.top;have cr:=ae ok.vl;clear f3 c4 c9 nX cy Zr h0 hi cz a1 h ok pS hA tk Vs eH c8 b6 No WG ea cI Zo Zn hn cc hr;go_enter Tryz.func130,Tryz.ntmps130;go_wp2_with fail;clear c3;go_upto_region 2 with fail;refine qan ?_;refine bw (fun w':World=>Fr (ao L0.cA) w w') 16 (by kernel_rfl) ((Fr.refl _ w).drew) (fun dy=> ?_);refine TB 12 [(0,[]),(1,[]),(2,[]),(3,[]),(4,[4,16]),(5,[]),(6,[]),(7,[]),(8,[]),(9,[]),(10,[10,16]),(11,[])] dy ?_ (hr:=by(repeat (apply ZR;rfl;rfl;(intro w bT;(try(have bT:=bT.resolve_left (List.cons_ne_nil _ _);(have s3:=bT.bF rX.o I5.o;have s9:=bT.bF rX.o cn.o;rw[HN.o]at s3)));go_simp<;>with_reducible rfl);try simp only[Act.put,q5,q6,q7]));exact ZQ);intro dy;refine R2 12 dy fun K hK J=> ?_;go_simp;refine hK.out _ _ (.inr ?_) (fun oE=> ?_)
 ·first |exact J.ak dN |exact J.alloc _ |exact J
 clear hK K;try simp only[Act.put,q5,q6,q7]
 refine R2 13 oE fun K hK J=> ?_
 (refine pF rfl _ _ 109 rfl 168 (.agg #[.slice none 0 0, .bool false, .int .i64 0]) 3 40 Tryz.underlying109 Wz rfl (by decide) L0.cA L0.cC n rfl (fP L0.cs) ?Pg _ 1 rfl [.slice (some ⟨ga,0,none⟩) ls.length c, .bool b, .int .i64 S.used] rfl ?Kt (by simp[Value.oneCell']) (by unfold maxLen;omega) (by omega) ?_;(case Pg=>exact fc c7.o ((Fr.refl [] w).alloc _).drew (fun k hk hm=>by cases hm));(case Kt=>exact FR (At.new _ _ _));intro g3 It w3 dV dN AK)
 refine hK.out _ _ (.inr ?_) (fun mU=> ?_)
 ·first |exact J.ak dN |exact J.alloc _ |exact J
 clear hK K;try simp only[Act.put,q5,q6,q7]
 refine TB 2 [(14,[]),(15,[])] mU ?_;intro mU;refine R2 16 mU fun K hK J=> ?_
 (have sb:=J.bF rX.o I5.o;have fb:World.frozen? _ _=_:=(World.frozen?_of_block (J.block L.a (bR I5.o) rX.o)).trans dG.o;go_simp)
 refine hK.out _ _ (.inl rfl) (fun iW=> ?_);clear hK K;try simp only[Act.put,q5,q6,q7]
 refine fO ?_;have u0:uN w3 (some ⟨g3,0,none⟩) It (L0.cs++[⟨some ⟨ga,0,none⟩,c,ls,b,S.used⟩]):=by unfold uN;rw[<-PM,an,aV,HN.o];exact dV
 obtain⟨L1,h1,yo,di,xP⟩:=H0.o.jA (x:=⟨some ⟨ga,0,none⟩,c,ls,b,S.used⟩) u0 J (fun k hk _=>UH.o k hk) (fun k hk=>by
  simp[ao]at hk;subst hk;rcases AK with h5 |h5
  ·exact .inl ⟨dn.o _ h5,UH.o _ h5⟩
  ·right
   rw[h5];simp) HI.o (fun k hk=>by simp[ao]at hk;subst hk;exact Fb.o)
 rw[ds.o,HN.o]at h1 di;obtain⟨W1,iQ⟩:∃W,w3.setCell ⟨L.a,3,none⟩ (.slice (some ⟨g3,0,none⟩) (n+1) It)=W:=⟨_,rfl⟩
 rw[iQ]at h1 di⊢;have H1:aj (bh W1 L1 (S.jA ls b)):=h1;have EB:L1.cs=L0.cs++[⟨some ⟨ga,0,none⟩,c,ls,b,S.used⟩]:=by rw[xP]
 have b7:=ae EB;have eA:aj (L1.tL=L0.tL):=(by rw[xP]:L1.tL=L0.tL)
 have Q3:aj (L1.cs[n]! =⟨some ⟨ga,0,none⟩,c,ls,b,S.used⟩):=by show _=_;rw[EB,<-HN.o];simp
 have U4:aj (L1.a=L.a):=(yo.1.trans ds.o:L1.a=L.a)
 have e4:aj (Ints W1 (some ⟨ga,0,none⟩) c ls):=by have :=h1.qM n (by rw[EB,an,HN.o];simp);rw[Q3.o]at this;exact this
 have eV:aj (L1.dh ga=(L1.id,8,n)):=h1.t8 n (by rw[EB,an,HN.o];simp) ga (by rw[Q3.o];simp[ao]);have fH:=ae yo;have dZ:=ae di;clear iQ h1 di yo xP EB J dV u0 dN AK c7 I5 Qx cn dG rX dn UH;go_wp2_with fail;obtain⟨y0,lf⟩:∃y,ls[0]! =y:=⟨_,rfl⟩
 have cB:=Mn.o.lit _ (get_mem (l:=ls) (i:=0) (by omega));rw[lf]at cB;obtain⟨-,ey,er⟩:=cB;have Hs:aW y0<L1.ws.length:=by rw[H1.o.uf,lh.o.wl];exact iR (v:=S.vars) ey er
 obtain⟨Jl,Xy⟩:∃c,aW y0=c:=⟨_,rfl⟩
 have fG:=cr.o;have ab:=ae (fun W'=>pu W' y0 (by omega) (by omega));have e6:=ae Xy;simp only[Xy]at ab;rw[Xy]at Hs;obtain⟨ad,Xp,bB,dx⟩:=H1.o.whd Hs;have WQ:=H1.o.sV Jl Hs;have Xm:=lh.o.room Jl;have OW:=H1.o.qab Hs;unfold Sv.gG at OW;rw[OW]at Xm;have Kv:∀j,j∈ao (L1.ws[Jl]!).A->L1.dh j=(L1.id,9,Jl):=H1.o.t9 Jl Hs;obtain⟨⟨VQ,b9,QJ⟩,cG⟩:∃x,L1.ws[Jl]! =x:=⟨_,rfl⟩
 rw[cG]at bB WQ Xm OW Kv;simp only at bB WQ Xm OW Kv;obtain⟨-,-,-,-,cf,-⟩:=H1.o.cells;rw[Xp,U4.o]at cf;have UM:aj (L.a∉ao VQ):=fun hm=>by have e1:=Kv _ hm;rw[<-U4.o,H1.o.t0]at e1;simp at e1
 have UL:aj (ga∉ao VQ):=fun hm=>by have e1:=Kv _ hm;rw[eV.o]at e1;simp at e1
 have Ax:aj (ad∉ao VQ):=fun hm=>by have e1:=Kv _ hm;rw[H1.o.t4 ad (by rw[Xp];simp[ao])]at e1;simp at e1
 have eb:W1.cell? ⟨ga,0,none⟩=some (.int .i64 y0):=by rw[e4.o.cell (i:=0) (by omega),lf]
 have UE:=ae cf;have UF:=ae eb;have Au:=ae bB;have Od:=ae dx;have Av:=ae WQ;have b5:=ae Kv;have eC:=ae OW;have eT:=ae Xp;have ei:=ae Hs;have fz:Jl<L1.ws.length:=Hs;have fw:(Jl:Int)<(L1.ws.length:Int):=by omega
 have fB:(0:Int)<(ls.length:Int):=by omega
 have ft:0<ls.length:=by omega
 have UP:aj (QJ.length<17592186044416):=(by omega:QJ.length<17592186044416)
 have ct:aj (Fr (ao VQ) W1 W1):=Fr.refl _ _;have eg:=ae lf;clear Xp Hs WQ Xm OW Kv cG cf eb bB dx Xy lf;go_upto_region 3 with fail;apply YW (C:=fun(gA cA:Nat)(wA:World)=>Ints wA (some ⟨gA,0,none⟩) cA (cd QJ++[(n:Int)])/\Fr (ao VQ) W1 wA/\(gA∈ao VQ\/W1.heap.size<=gA))
 ·intro Um;refine qan ?_;refine bw (fun w':World=>Fr (ao VQ) W1 w') 22 (by kernel_rfl) (ct.o.drew) (fun dy=> ?_);refine oI 15 [(0,[]),(1,[]),(2,[]),(3,[3,22]),(4,[]),(5,[]),(6,[6,22]),(8,[]),(9,[]),(10,[]),(11,[11,22]),(12,[]),(13,[]),(14,[14,22]),(18,[])] dy (fun w bT=>And.intro (bT.bF UM.o UE.o) (And.intro (bT.bF UL.o UF.o) (bT.bF Ax.o Au.o))) ?_;intro dy;have J:=dy.resolve_left (by decide);refine aY (rs:=[7,19]) (by kernel_rfl) (by simp) ?_;refine cM.cons (o:= ?akV) ?Xc ?Km ?_;case Xc=>rfl
  case Km=>
   intro K hK
   (go_simp;refine(ab.o _).mono ?_;rintro e w5 ⟨rfl,rfl⟩;dsimp only)
   refine hK.out _ _ (.inr ?_) (fun lR=> ?_)
   ·first |exact J.ak vI |exact J.alloc _ |exact J
   clear hK K;try simp only[Act.put,q5,q6,q7]
   have J:=lR.resolve_left (by decide);refine aY (rs:=[15,19]) (by kernel_rfl) (by simp) ?_;refine cM.cons (o:= ?akU) ?Xb ?Kl ?_;case Xb=>rfl
   case Kl=>
    intro K hK
    (go_simp;refine(ab.o _).mono ?_;rintro e w5 ⟨rfl,rfl⟩;dsimp only)
    refine hK.out _ _ (.inr ?_) (fun iW=> ?_)
    ·first |exact J.ak vI |exact J.alloc _ |exact J
    clear hK K;try simp only[Act.put,q5,q6,q7]
    refine oI 2 [(16,[]),(17,[17,22])] iW (fun w bT=>And.intro (bT.bF UM.o UE.o) (And.intro (bT.bF UL.o UF.o) (bT.bF Ax.o Au.o))) ?_;intro iW;refine R2 19 iW fun K hK J=> ?_;go_simp;refine hK.out _ _ (.inr ?_) (fun zA=> ?_)
    ·first |exact J.ak vI |exact J.alloc _ |exact J
    clear hK K;try simp only[Act.put,q5,q6,q7]
    refine R2 20 zA fun K hK J=> ?_
    (refine co rfl _ _ rfl VQ b9 (cd QJ) _ rfl (bv QJ).symm ?Pd _ 1 n rfl ?Ll (by rw[bv];exact UP.o) ?_;(case Pd=>first |exact Av.o.drew.alloc _ |exact Av.o.alloc _ |exact Av.o);(case Ll=>simp);intro ba aT bg Hg vI Hj cS)
    refine hK.out _ _ (.inr ?_) (fun iq=> ?_)
    ·first |exact J.ak vI |exact J.alloc _ |exact J
    clear hK K;try simp only[Act.put,q5,q6,q7]
    refine TB 1 [(21,[])] iq ?_;intro iq;refine R2 22 iq fun K hK J=> ?_
    (have sb:=J.bF Ax.o Au.o;have fb:World.frozen? _ _=_:=(World.frozen?_of_block (J.block ad (bR Au.o) Ax.o)).trans Od.o;go_simp)
    refine hK.out _ _ (.inl rfl) (fun Hu=> ?_);clear hK K;try simp only[Act.put,q5,q6,q7]
    refine fO ?_;exact Um _ _ _ ⟨Hg,J,Hj.imp id (fun h=>by rw[h];first |exact aq _ |simp)⟩
   refine cM.cons (o:= ?akR) ?W9 ?aba cM.nil;case W9=>rfl
   intro K hK;go_simp;refine hK.out _ _ (.inr ?_) (fun iW=> ?_)
   ·first |exact J.ak vI |exact J.alloc _ |exact J
   clear hK K;try simp only[Act.put,q5,q6,q7]
   refine R2 15 iW fun K hK J=> ?_
   (go_simp;refine(ab.o _).mono ?_;rintro e w5 ⟨rfl,rfl⟩;dsimp only)
   refine hK.out _ _ (.inr ?_) (fun k6=> ?_)
   ·first |exact J.ak vI |exact J.alloc _ |exact J
   clear hK K;try simp only[Act.put,q5,q6,q7]
   refine oI 2 [(16,[]),(17,[17,22])] k6 (fun w bT=>And.intro (bT.bF UM.o UE.o) (And.intro (bT.bF UL.o UF.o) (bT.bF Ax.o Au.o))) ?_;intro k6;refine R2 20 k6 fun K hK J=> ?_
   (refine co rfl _ _ rfl VQ b9 (cd QJ) _ rfl (bv QJ).symm ?O9 _ 1 n rfl ?Lg (by rw[bv];exact UP.o) ?_;(case O9=>first |exact Av.o.drew.alloc _ |exact Av.o.alloc _ |exact Av.o);(case Lg=>simp);intro ba aT bg Hg vI Hj cS)
   refine hK.out _ _ (.inr ?_) (fun iq=> ?_)
   ·first |exact J.ak vI |exact J.alloc _ |exact J
   clear hK K;try simp only[Act.put,q5,q6,q7]
   refine TB 1 [(21,[])] iq ?_;intro iq;refine R2 22 iq fun K hK J=> ?_
   (have sb:=J.bF Ax.o Au.o;have fb:World.frozen? _ _=_:=(World.frozen?_of_block (J.block ad (bR Au.o) Ax.o)).trans Od.o;go_simp)
   refine hK.out _ _ (.inl rfl) (fun Hu=> ?_);clear hK K;try simp only[Act.put,q5,q6,q7]
   refine fO ?_;exact Um _ _ _ ⟨Hg,J,Hj.imp id (fun h=>by rw[h];first |exact aq _ |simp)⟩
  refine cM.cons (o:= ?akO) ?W6 ?aa9 cM.nil;case W6=>rfl
  intro K hK;go_simp;refine hK.out _ _ (.inr ?_) (fun lR=> ?_)
  ·first |exact J.ak vI |exact J.alloc _ |exact J
  clear hK K;try simp only[Act.put,q5,q6,q7]
  refine R2 7 lR fun K hK J=> ?_
  (go_simp;refine(ab.o _).mono ?_;rintro e w5 ⟨rfl,rfl⟩;dsimp only)
  refine hK.out _ _ (.inr ?_) (fun iW=> ?_)
  ·first |exact J.ak vI |exact J.alloc _ |exact J
  clear hK K;try simp only[Act.put,q5,q6,q7]
  refine R2 15 iW fun K hK J=> ?_
  (go_simp;refine(ab.o _).mono ?_;rintro e w5 ⟨rfl,rfl⟩;dsimp only)
  refine hK.out _ _ (.inr ?_) (fun k6=> ?_)
  ·first |exact J.ak vI |exact J.alloc _ |exact J
  clear hK K;try simp only[Act.put,q5,q6,q7]
  refine oI 2 [(16,[]),(17,[17,22])] k6 (fun w bT=>And.intro (bT.bF UM.o UE.o) (And.intro (bT.bF UL.o UF.o) (bT.bF Ax.o Au.o))) ?_;intro k6;refine R2 20 k6 fun K hK J=> ?_
  (refine co rfl _ _ rfl VQ b9 (cd QJ) _ rfl (bv QJ).symm ?O6 _ 1 n rfl ?Ld (by rw[bv];exact UP.o) ?_;(case O6=>first |exact Av.o.drew.alloc _ |exact Av.o.alloc _ |exact Av.o);(case Ld=>simp);intro ba aT bg Hg vI Hj cS)
  refine hK.out _ _ (.inr ?_) (fun iq=> ?_)
  ·first |exact J.ak vI |exact J.alloc _ |exact J
  clear hK K;try simp only[Act.put,q5,q6,q7]
  refine TB 1 [(21,[])] iq ?_;intro iq;refine R2 22 iq fun K hK J=> ?_
  (have sb:=J.bF Ax.o Au.o;have fb:World.frozen? _ _=_:=(World.frozen?_of_block (J.block ad (bR Au.o) Ax.o)).trans Od.o;go_simp)
  refine hK.out _ _ (.inl rfl) (fun Hu=> ?_);clear hK K;try simp only[Act.put,q5,q6,q7]
  refine fO ?_;exact Um _ _ _ ⟨Hg,J,Hj.imp id (fun h=>by rw[h];first |exact aq _ |simp)⟩
 ·intro ba aT bg ⟨Hg,J,Hj⟩;have c6:Ints bg (some ⟨ba,0,none⟩) aT (cd (QJ++[n])):=by rw[<-mg];exact Hg
  obtain⟨e8,b0,_,_,L2,ar,b2,Xt,bO⟩:=H1.o.cJ ei.o c6 J (fun j hj _=>b5.o j hj) (fun j hj=>by simp[ao]at hj;subst hj;exact Hj.imp (fun h5=>⟨(Av.o.lt _ h5),b5.o _ h5⟩) id);obtain rfl :ad=e8:=by rw[eT.o]at b0;simpa using b0
  simp only[an,aV]at ar Xt;obtain⟨W2,ZF⟩:∃W,bg.setCell ⟨ad,Jl,none⟩ (.slice (some ⟨ba,0,none⟩) (QJ.length+1) aT)=W:=⟨_,rfl⟩
  rw[ZF]at ar Xt⊢;have QZ:(S.jA ls b).cJ Jl (QJ++[n])=(S.jA ls b).i9 (aW ls[0]!) S.list.length:=by unfold Sv.i9 Sv.gG;rw[eg.o,e6.o,eC.o,cp.o]
  rw[QZ]at ar;have rU:L2.cs=L1.cs:=by rw[bO]
  have ez:aj (L2.tL=L0.tL):=(by rw[bO]:L2.tL=L1.tL).trans eA.o;have e7:aj (L2.cs=L0.cs++[⟨some ⟨ga,0,none⟩,c,ls,b,S.used⟩]):=rU.trans b7.o;have dq:aj (L2.a=L.a):=(b2.1.trans U4.o:L2.a=L.a)
  have e3:aj (Ints W2 (some ⟨ga,0,none⟩) c ls):=by have :=ar.qM n (by rw[rU,b7.o,an,HN.o];simp);rw[rU,Q3.o]at this;exact this
  have eU:aj (L2.dh ga=(L2.id,8,n)):=ar.t8 n (by rw[rU,b7.o,an,HN.o];simp) ga (by rw[rU,Q3.o];simp[ao]);have dR:=ae (aO.a6 fH.o b2 dZ.o.size);have df:=ae (aO.aQ fH.o dZ.o Xt);have H2:=ae ar;clear ZF ar Xt b2 bO rU J Hg c6 Hj b0;clear ct UE UF Au Od Av b5 UM UL Ax;go_wp2_with fail;clear ab;obtain⟨y1,iO⟩:∃y,ls[1]! =y:=⟨_,rfl⟩
  have WD:=Mn.o.lit _ (get_mem (l:=ls) (i:=1) (by omega));rw[iO]at WD;obtain⟨-,et,eo⟩:=WD;have Hr:aW y1<L2.ws.length:=by rw[H2.o.uf,UI.o.wl];exact iR (v:=S.vars) et eo
  obtain⟨PW,Xx⟩:∃c,aW y1=c:=⟨_,rfl⟩
  have fC:=cr.o;have aB:=ae (fun W'=>pu W' y1 (by omega) (by omega));have e5:=ae Xx;simp only[Xx]at aB;rw[Xx]at Hr;obtain⟨aK,Xo,bG,dD⟩:=H2.o.whd Hr;have WP:=H2.o.sV PW Hr;have Xl:=UI.o.room PW;have OV:=H2.o.qab Hr;unfold Sv.gG at OV;rw[OV]at Xl;have Ku:∀j,j∈ao (L2.ws[PW]!).A->L2.dh j=(L2.id,9,PW):=H2.o.t9 PW Hr;obtain⟨⟨VP,ca,Sg⟩,cE⟩:∃x,L2.ws[PW]! =x:=⟨_,rfl⟩
  rw[cE]at bG WP Xl OV Ku;simp only at bG WP Xl OV Ku;obtain⟨-,-,-,-,ch,-⟩:=H2.o.cells;rw[Xo,dq.o]at ch;have YC:aj (L.a∉ao VP):=fun hm=>by have e1:=Ku _ hm;rw[<-dq.o,H2.o.t0]at e1;simp at e1
  have YB:aj (ga∉ao VP):=fun hm=>by have e1:=Ku _ hm;rw[eU.o]at e1;simp at e1
  have BM:aj (aK∉ao VP):=fun hm=>by have e1:=Ku _ hm;rw[H2.o.t4 aK (by rw[Xo];simp[ao])]at e1;simp at e1
  have ec:W2.cell? ⟨ga,1,none⟩=some (.int .i64 y1):=by rw[e3.o.cell (i:=1) (by omega),iO]
  have Yr:=ae ch;have Ys:=ae ec;have BK:=ae bG;have UV:=ae dD;have BL:=ae WP;have dm:=ae Ku;have eB:=ae OV;have eL:=ae Xo;have ek:=ae Hr;have fy:PW<L2.ws.length:=Hr;have fu:(PW:Int)<(L2.ws.length:Int):=by omega
  have fA:(1:Int)<(ls.length:Int):=by omega
  have fk:1<ls.length:=by omega
  have UO:aj (Sg.length<17592186044416):=(by omega:Sg.length<17592186044416)
  have ej:aj (Fr (ao VP) W2 W2):=Fr.refl _ _;have eh:=ae iO;clear Xo Hr WP Xl OV Ku cE ch ec bG dD Xx iO;go_upto_region 4 with fail;apply YW (C:=fun(gA cA:Nat)(wA:World)=>Ints wA (some ⟨gA,0,none⟩) cA (cd Sg++[(n:Int)])/\Fr (ao VP) W2 wA/\(gA∈ao VP\/W2.heap.size<=gA))
  ·intro Ul;refine qan ?_;refine bw (fun w':World=>Fr (ao VP) W2 w') 22 (by kernel_rfl) (ej.o.drew) (fun dy=> ?_);refine oI 15 [(0,[]),(1,[]),(2,[]),(3,[3,22]),(4,[]),(5,[]),(6,[6,22]),(8,[]),(9,[]),(10,[]),(11,[11,22]),(12,[]),(13,[]),(14,[14,22]),(18,[])] dy (fun w bT=>And.intro (bT.bF YC.o Yr.o) (And.intro (bT.bF YB.o Ys.o) (bT.bF BM.o BK.o))) ?_;intro dy;have J:=dy.resolve_left (by decide);refine aY (rs:=[7,19]) (by kernel_rfl) (by simp) ?_;refine cM.cons (o:= ?akL) ?WZ ?Ki ?_;case WZ=>rfl
   case Ki=>
    intro K hK
    (go_simp;refine(aB.o _).mono ?_;rintro e w5 ⟨rfl,rfl⟩;dsimp only)
    refine hK.out _ _ (.inr ?_) (fun lR=> ?_)
    ·first |exact J.ak vH |exact J.alloc _ |exact J
    clear hK K;try simp only[Act.put,q5,q6,q7]
    have J:=lR.resolve_left (by decide);refine aY (rs:=[15,19]) (by kernel_rfl) (by simp) ?_;refine cM.cons (o:= ?akK) ?WY ?Kh ?_;case WY=>rfl
    case Kh=>
     intro K hK
     (go_simp;refine(aB.o _).mono ?_;rintro e w5 ⟨rfl,rfl⟩;dsimp only)
     refine hK.out _ _ (.inr ?_) (fun iW=> ?_)
     ·first |exact J.ak vH |exact J.alloc _ |exact J
     clear hK K;try simp only[Act.put,q5,q6,q7]
     refine oI 2 [(16,[]),(17,[17,22])] iW (fun w bT=>And.intro (bT.bF YC.o Yr.o) (And.intro (bT.bF YB.o Ys.o) (bT.bF BM.o BK.o))) ?_;intro iW;refine R2 19 iW fun K hK J=> ?_;go_simp;refine hK.out _ _ (.inr ?_) (fun zA=> ?_)
     ·first |exact J.ak vH |exact J.alloc _ |exact J
     clear hK K;try simp only[Act.put,q5,q6,q7]
     refine R2 20 zA fun K hK J=> ?_
     (refine co rfl _ _ rfl VP ca (cd Sg) _ rfl (bv Sg).symm ?O5 _ 1 n rfl ?Lb (by rw[bv];exact UO.o) ?_;(case O5=>first |exact BL.o.drew.alloc _ |exact BL.o.alloc _ |exact BL.o);(case Lb=>simp);intro bo bj bI Hf vH Hi cO)
     refine hK.out _ _ (.inr ?_) (fun iq=> ?_)
     ·first |exact J.ak vH |exact J.alloc _ |exact J
     clear hK K;try simp only[Act.put,q5,q6,q7]
     refine TB 1 [(21,[])] iq ?_;intro iq;refine R2 22 iq fun K hK J=> ?_
     (have sb:=J.bF BM.o BK.o;have fb:World.frozen? _ _=_:=(World.frozen?_of_block (J.block aK (bR BK.o) BM.o)).trans UV.o;go_simp)
     refine hK.out _ _ (.inl rfl) (fun Hu=> ?_);clear hK K;try simp only[Act.put,q5,q6,q7]
     refine fO ?_;exact Ul _ _ _ ⟨Hf,J,Hi.imp id (fun h=>by rw[h];first |exact aq _ |simp)⟩
    refine cM.cons (o:= ?akJ) ?WX ?aa8 cM.nil;case WX=>rfl
    intro K hK;go_simp;refine hK.out _ _ (.inr ?_) (fun iW=> ?_)
    ·first |exact J.ak vH |exact J.alloc _ |exact J
    clear hK K;try simp only[Act.put,q5,q6,q7]
    refine R2 15 iW fun K hK J=> ?_
    (go_simp;refine(aB.o _).mono ?_;rintro e w5 ⟨rfl,rfl⟩;dsimp only)
    refine hK.out _ _ (.inr ?_) (fun k6=> ?_)
    ·first |exact J.ak vH |exact J.alloc _ |exact J
    clear hK K;try simp only[Act.put,q5,q6,q7]
    refine oI 2 [(16,[]),(17,[17,22])] k6 (fun w bT=>And.intro (bT.bF YC.o Yr.o) (And.intro (bT.bF YB.o Ys.o) (bT.bF BM.o BK.o))) ?_;intro k6;refine R2 20 k6 fun K hK J=> ?_
    (refine co rfl _ _ rfl VP ca (cd Sg) _ rfl (bv Sg).symm ?O4 _ 1 n rfl ?La (by rw[bv];exact UO.o) ?_;(case O4=>first |exact BL.o.drew.alloc _ |exact BL.o.alloc _ |exact BL.o);(case La=>simp);intro bo bj bI Hf vH Hi cO)
    refine hK.out _ _ (.inr ?_) (fun iq=> ?_)
    ·first |exact J.ak vH |exact J.alloc _ |exact J
    clear hK K;try simp only[Act.put,q5,q6,q7]
    refine TB 1 [(21,[])] iq ?_;intro iq;refine R2 22 iq fun K hK J=> ?_
    (have sb:=J.bF BM.o BK.o;have fb:World.frozen? _ _=_:=(World.frozen?_of_block (J.block aK (bR BK.o) BM.o)).trans UV.o;go_simp)
    refine hK.out _ _ (.inl rfl) (fun Hu=> ?_);clear hK K;try simp only[Act.put,q5,q6,q7]
    refine fO ?_;exact Ul _ _ _ ⟨Hf,J,Hi.imp id (fun h=>by rw[h];first |exact aq _ |simp)⟩
   refine cM.cons (o:= ?akI) ?WW ?aa7 cM.nil;case WW=>rfl
   intro K hK;go_simp;refine hK.out _ _ (.inr ?_) (fun lR=> ?_)
   ·first |exact J.ak vH |exact J.alloc _ |exact J
   clear hK K;try simp only[Act.put,q5,q6,q7]
   refine R2 7 lR fun K hK J=> ?_
   (go_simp;refine(aB.o _).mono ?_;rintro e w5 ⟨rfl,rfl⟩;dsimp only)
   refine hK.out _ _ (.inr ?_) (fun iW=> ?_)
   ·first |exact J.ak vH |exact J.alloc _ |exact J
   clear hK K;try simp only[Act.put,q5,q6,q7]
   refine R2 15 iW fun K hK J=> ?_
   (go_simp;refine(aB.o _).mono ?_;rintro e w5 ⟨rfl,rfl⟩;dsimp only)
   refine hK.out _ _ (.inr ?_) (fun k6=> ?_)
   ·first |exact J.ak vH |exact J.alloc _ |exact J
   clear hK K;try simp only[Act.put,q5,q6,q7]
   refine oI 2 [(16,[]),(17,[17,22])] k6 (fun w bT=>And.intro (bT.bF YC.o Yr.o) (And.intro (bT.bF YB.o Ys.o) (bT.bF BM.o BK.o))) ?_;intro k6;refine R2 20 k6 fun K hK J=> ?_
   (refine co rfl _ _ rfl VP ca (cd Sg) _ rfl (bv Sg).symm ?O3 _ 1 n rfl ?K9 (by rw[bv];exact UO.o) ?_;(case O3=>first |exact BL.o.drew.alloc _ |exact BL.o.alloc _ |exact BL.o);(case K9=>simp);intro bo bj bI Hf vH Hi cO)
   refine hK.out _ _ (.inr ?_) (fun iq=> ?_)
   ·first |exact J.ak vH |exact J.alloc _ |exact J
   clear hK K;try simp only[Act.put,q5,q6,q7]
   refine TB 1 [(21,[])] iq ?_;intro iq;refine R2 22 iq fun K hK J=> ?_
   (have sb:=J.bF BM.o BK.o;have fb:World.frozen? _ _=_:=(World.frozen?_of_block (J.block aK (bR BK.o) BM.o)).trans UV.o;go_simp)
   refine hK.out _ _ (.inl rfl) (fun Hu=> ?_);clear hK K;try simp only[Act.put,q5,q6,q7]
   refine fO ?_;exact Ul _ _ _ ⟨Hf,J,Hi.imp id (fun h=>by rw[h];first |exact aq _ |simp)⟩
  ·intro bo bj bI ⟨Hf,J,Hi⟩;have c5:Ints bI (some ⟨bo,0,none⟩) bj (cd (Sg++[n])):=by rw[<-mg];exact Hf
   obtain⟨e9,bS,_,_,L3,bb,c0,b1,b4⟩:=H2.o.cJ ek.o c5 J (fun j hj _=>dm.o j hj) (fun j hj=>by simp[ao]at hj;subst hj;exact Hi.imp (fun h5=>⟨(BL.o.lt _ h5),dm.o _ h5⟩) id);obtain rfl :aK=e9:=by rw[eL.o]at bS;simpa using bS
   simp only[an,aV]at bb b1;have dU:((S.jA ls b).i9 (aW ls[0]!) S.list.length).cJ PW (Sg++[n])=S.attach ls b:=by show _=((S.jA ls b).i9 (aW ls[0]!) S.list.length).i9 (aW ls[1]!) S.list.length;have hw:=eB.o;revert hw;generalize (S.jA ls b).i9 (aW ls[0]!) S.list.length=T;intro hw;unfold Sv.i9 Sv.gG;rw[eh.o,e5.o,hw,cp.o]
   rw[dU]at bb;have b3:L3.cs=L0.cs++[⟨some ⟨ga,0,none⟩,c,ls,b,S.used⟩]:=by rw[b4];exact e7.o
   have cb:=bb.qM n (by rw[b3,an,HN.o];simp);rw[b3,show(L0.cs++[(⟨some ⟨ga,0,none⟩,c,ls,b,S.used⟩:Cw)])[n]! =⟨some ⟨ga,0,none⟩,c,ls,b,S.used⟩from by rw[<-HN.o];simp]at cb;have pT:=ae (Bn.o _ L3 bb (aO.a6 dR.o c0 df.o.size) (aO.aQ dR.o df.o b1) cb ((by rw[b4]:L3.tL=L2.tL).trans ez.o));clear b3 cb;clear bb b1 c0 b4 dU J Hf c5 Hi bS Bn;go_wp2;go_ret;exact pT.o
structure T3 where
 a:Int
 b:Int
 c:Int
instance:Inhabited T3:=⟨⟨0,0,0⟩⟩
structure Nm where
 k:ByteArray
 i:Int
 t:ByteArray
instance:Inhabited Nm:=⟨⟨⟨#[]⟩,0,⟨#[]⟩⟩⟩
structure Pc where
 mx:Int
 ins:List Int
 az:List T3
 outs:List Int
 aI:List Int
 aH:List Int
 au:List T3
 bD:List Nm
structure Hd where
 iA:Option Addr
 iC:Nat
 lA:Option Addr
 lC:Nat
 oA:Option Addr
 oC:Nat
 bA:Option Addr
 bC:Nat
 vA:Option Addr
 vC:Nat
 gA:Option Addr
 gC:Nat
 nA:Option Addr
 nC:Nat
def fv(H:Hd)(C:Pc):Array Value:=
 #[.int .i64 C.mx, .slice H.iA C.ins.length H.iC, .slice H.lA C.az.length H.lC, .slice H.oA C.outs.length H.oC, .slice H.bA C.aI.length H.bC, .slice H.vA C.aH.length H.vC, .slice H.gA C.au.length H.gC, .slice H.nA C.bD.length H.nC]
def bY(H:Hd)(C:Pc):Value:= .agg (fv H C)
def ZT(w:World)(A:Option Addr)(l:List T3):Prop:=0<l.length->∃b o,A=some ⟨b,o,none⟩/\
 ∀j:Nat,j<l.length->w.cell? ⟨b,o+j*3,none⟩=some (.int .i64 (l[j]!).a)/\w.cell? ⟨b,o+j*3+1,none⟩=some (.int .i64 (l[j]!).b)/\w.cell? ⟨b,o+j*3+2,none⟩=some (.int .i64 (l[j]!).c)
def RdM(w:World)(A:Option Addr)(l:List Nm):Prop:=0<l.length->∃b o,A=some ⟨b,o,none⟩/\
 ∀j:Nat,j<l.length->w.cell? ⟨b,o+j*3,none⟩=some (.string (l[j]!).k)/\w.cell? ⟨b,o+j*3+1,none⟩=some (.int .i64 (l[j]!).i)/\w.cell? ⟨b,o+j*3+2,none⟩=some (.string (l[j]!).t)
theorem ZT.keep{w w':World}{A:Option Addr}{l:List T3}(h:ZT w A l)(J:Fr [] w w'):ZT w' A l:=by intro h0;obtain⟨b,o,hA,hx⟩:=h h0;exact⟨b,o,hA,fun j hj=>⟨J.aF (hx j hj).1,J.aF (hx j hj).2.1,J.aF (hx j hj).2.2⟩⟩
theorem RdM.keep{w w':World}{A:Option Addr}{l:List Nm}(h:RdM w A l)(J:Fr [] w w'):RdM w' A l:=by intro h0;obtain⟨b,o,hA,hx⟩:=h h0;exact⟨b,o,hA,fun j hj=>⟨J.aF (hx j hj).1,J.aF (hx j hj).2.1,J.aF (hx j hj).2.2⟩⟩
def eJ(x:Int):Prop:= -9223372036854775808<=x/\x<=9223372036854775807
def Ra(l:List Int):Prop:=∀j:Nat,j<l.length->eJ l[j]!
def Rt(l:List T3):Prop:=∀j:Nat,j<l.length->eJ (l[j]!).a/\eJ (l[j]!).b/\eJ (l[j]!).c
def Rm(l:List Nm):Prop:=∀j:Nat,j<l.length->(l[j]!).k.size<=maxLen/\eJ (l[j]!).i/\(l[j]!).t.size<=maxLen
structure eZ(w:World)(H:Hd)(C:Pc):Prop where
 i:Rd w H.iA C.ins
 l:ZT w H.lA C.az
 o:Rd w H.oA C.outs
 b:Rd w H.bA C.aI
 v:Rd w H.vA C.aH
 g:ZT w H.gA C.au
 n:RdM w H.nA C.bD
 iL:C.ins.length<=17592186044416
 lL:C.az.length<=5864062014635
 oL:C.outs.length<=17592186044416
 bL:C.aI.length<=17592186044416
 vL:C.aH.length<=17592186044416
 gL:C.au.length<=5864062014635
 nL:C.bD.length<=3518437208781
 mr:eJ C.mx
 ir:Ra C.ins
 lr:Rt C.az
 or_:Ra C.outs
 br:Ra C.aI
 vr:Ra C.aH
 gr:Rt C.au
 nr:Rm C.bD
theorem eZ.keep{w w':World}{H:Hd}{C:Pc}(h:eZ w H C)(J:Fr [] w w'):eZ w' H C:=
 ⟨h.i.keep J,h.l.keep J,h.o.keep J,h.b.keep J,h.v.keep J,h.g.keep J,h.n.keep J,h.iL,h.lL,h.oL,h.bL,h.vL,h.gL,h.nL,h.mr,h.ir,h.lr,h.or_,h.br,h.vr,h.gr,h.nr⟩
theorem Ua(w:World)(H:Hd)(C:Pc):At (w.alloc (.cells (fv H C) 27)) w.heap.size 27 (fv H C):=At.new w _ _
theorem cQ(w:World)(o:Obj):Fr [] w (w.alloc o):=(Fr.refl [] w).alloc o
structure Cx(w wr:World)(H:Hd)(C:Pc):Prop where
 fr:Fr [] w wr
 bx:At wr w.heap.size 27 (fv H C)
theorem Cx.start(w:World)(H:Hd)(C:Pc):Cx w (w.alloc (.cells (fv H C) 27)) H C:=⟨cQ _ _,Ua _ _ _⟩
theorem Cx.keep{w wr w':World}{H:Hd}{C:Pc}(h:Cx w wr H C)(J:Fr [] wr w'):Cx w w' H C:=⟨h.fr.ak J,h.bx.keep J⟩
theorem At.T8{w:World}{g:Nat}{t:TypeId}{H:Hd}{C:Pc}(h:At w g t (fv H C)):
  w.cell? ⟨g,0,none⟩=some (.int .i64 C.mx)/\w.cell? ⟨g,1,none⟩=some (.slice H.iA C.ins.length H.iC)/\w.cell? ⟨g,2,none⟩=some (.slice H.lA C.az.length H.lC)/\w.cell? ⟨g,3,none⟩=some (.slice H.oA C.outs.length H.oC)/\
  w.cell? ⟨g,4,none⟩=some (.slice H.bA C.aI.length H.bC)/\w.cell? ⟨g,5,none⟩=some (.slice H.vA C.aH.length H.vC)/\w.cell? ⟨g,6,none⟩=some (.slice H.gA C.au.length H.gC)/\w.cell? ⟨g,7,none⟩=some (.slice H.nA C.bD.length H.nC):=by
 refine⟨?_,?_,?_,?_,?_,?_,?_,?_⟩<;>(rw[h.cell];rfl)
theorem Cx.cells{w wr:World}{iA iC lA lC oA oC bA bC vA vC gA gC nA nC mx ins az outs aI aH au bD}(h:Cx w wr ⟨iA,iC,lA,lC,oA,oC,bA,bC,vA,vC,gA,gC,nA,nC⟩ ⟨mx,ins,az,outs,aI,aH,au,bD⟩):
  wr.cell? ⟨w.heap.size,0,none⟩=some (.int .i64 mx)/\wr.cell? ⟨w.heap.size,1,none⟩=some (.slice iA ins.length iC)/\wr.cell? ⟨w.heap.size,2,none⟩=some (.slice lA az.length lC)/\wr.cell? ⟨w.heap.size,3,none⟩=some (.slice oA outs.length oC)/\
  wr.cell? ⟨w.heap.size,4,none⟩=some (.slice bA aI.length bC)/\wr.cell? ⟨w.heap.size,5,none⟩=some (.slice vA aH.length vC)/\wr.cell? ⟨w.heap.size,6,none⟩=some (.slice gA au.length gC)/\wr.cell? ⟨w.heap.size,7,none⟩=some (.slice nA bD.length nC):=h.bx.T8
theorem Cx.ext{w wr:World}{iA iC lA lC oA oC bA bC vA vC gA gC nA nC mx ins az outs aI aH au bD}(h:Cx w wr ⟨iA,iC,lA,lC,oA,oC,bA,bC,vA,vC,gA,gC,nA,nC⟩ ⟨mx,ins,az,outs,aI,aH,au,bD⟩):
  (∀u:Ext wr,u.v.cell? ⟨w.heap.size,0,none⟩=some (.int .i64 mx))/\(∀u:Ext wr,u.v.cell? ⟨w.heap.size,1,none⟩=some (.slice iA ins.length iC))/\(∀u:Ext wr,u.v.cell? ⟨w.heap.size,2,none⟩=some (.slice lA az.length lC))/\(∀u:Ext wr,u.v.cell? ⟨w.heap.size,3,none⟩=some (.slice oA outs.length oC))/\
  (∀u:Ext wr,u.v.cell? ⟨w.heap.size,4,none⟩=some (.slice bA aI.length bC))/\(∀u:Ext wr,u.v.cell? ⟨w.heap.size,5,none⟩=some (.slice vA aH.length vC))/\(∀u:Ext wr,u.v.cell? ⟨w.heap.size,6,none⟩=some (.slice gA au.length gC))/\(∀u:Ext wr,u.v.cell? ⟨w.heap.size,7,none⟩=some (.slice nA bD.length nC)):=by
 obtain⟨J,c1,c2,c3,c4,c5,c6,c7⟩:=h.cells;exact⟨Ext.cell J,Ext.cell c1,Ext.cell c2,Ext.cell c3,Ext.cell c4,Ext.cell c5,Ext.cell c6,Ext.cell c7⟩
theorem Rd.one{w:World}{A:Option Addr}{l:List Int}(h:Rd w A l)(hr:Ra l){j:Nat}(J:j<l.length):∃b o x,A=some ⟨b,o,none⟩/\aj (l[j]! =x)/\w.cell? ⟨b,o+j,none⟩=some (.int .i64 x)/\ -9223372036854775808<=x/\x<=9223372036854775807:=by obtain⟨b,o,hA,hx⟩:=h (by omega);exact⟨b,o,_,hA,rfl,hx j J,hr j J⟩
theorem ZT.one{w:World}{A:Option Addr}{l:List T3}(h:ZT w A l)(hr:Rt l){j:Nat}(J:j<l.length):∃b o x y z,A=some ⟨b,o,none⟩/\aj (l[j]! =⟨x,y,z⟩)/\
  w.cell? ⟨b,o+j*3,none⟩=some (.int .i64 x)/\w.cell? ⟨b,o+j*3+1,none⟩=some (.int .i64 y)/\w.cell? ⟨b,o+j*3+2,none⟩=some (.int .i64 z)/\
  (-9223372036854775808<=x/\x<=9223372036854775807)/\(-9223372036854775808<=y/\y<=9223372036854775807)/\(-9223372036854775808<=z/\z<=9223372036854775807):=by
 obtain⟨b,o,hA,hx⟩:=h (by omega);obtain⟨h1,h2,h3⟩:=hx j J;exact⟨b,o,_,_,_,hA,rfl,h1,h2,h3,hr j J⟩
theorem RdM.one{w:World}{A:Option Addr}{l:List Nm}(h:RdM w A l)(hr:Rm l){j:Nat}(J:j<l.length):∃b o x y z,A=some ⟨b,o,none⟩/\aj (l[j]! =⟨x,y,z⟩)/\
  w.cell? ⟨b,o+j*3,none⟩=some (.string x)/\w.cell? ⟨b,o+j*3+1,none⟩=some (.int .i64 y)/\w.cell? ⟨b,o+j*3+2,none⟩=some (.string z)/\
  x.size<=maxLen/\(-9223372036854775808<=y/\y<=9223372036854775807)/\z.size<=maxLen:=by
 obtain⟨b,o,hA,hx⟩:=h (by omega);obtain⟨h1,h2,h3⟩:=hx j J;exact⟨b,o,_,_,_,hA,rfl,h1,h2,h3,hr j J⟩
def hit(v x:Int):Bool:=decide (0<=x)&&decide (x/2=v)
def gP(C:Pc)(v:Int):Bool:=decide (v=0) ||C.ins.any (hit v) ||C.az.any (fun x=>hit v x.a) ||C.au.any (fun x=>hit v x.a)
def kd(C:Pc)(v:Int):ByteArray:=
 if v=0 then⟨#[48]⟩else if C.ins.any (hit v)=true then⟨#[105]⟩else if C.az.any (fun x=>hit v x.a)=true then⟨#[108]⟩else if C.au.any (fun x=>hit v x.a)=true then⟨#[97]⟩else⟨#[]⟩
theorem N0{α:Type}[Inhabited α](l:List α)(p:α->Bool):(l.any p=true↔∃j:Nat,j<l.length/\p l[j]! =true):=by
 rw[cP];constructor
 ·rintro⟨x,hx,h⟩;obtain⟨j,J,e⟩:=List.mem_iff_getElem.1 hx;exact⟨j,J,by simp[J,e,h]⟩
 ·rintro⟨j,J,h⟩;simp only[aa,af J,aJ]at h;exact⟨l[j],gu J,h⟩
theorem XZ{α:Type}[Inhabited α](l:List α)(p:α->Bool)(h:∀j:Nat,j<l.length->p l[j]! =false):l.any p=false:=by rw[fa];intro J;obtain⟨j,hj,h1⟩:=(N0 l p).1 J;rw[h j hj]at h1;cases h1
theorem kU{α:Type}[Inhabited α](l:List α)(p:α->Bool)(k:Nat)(hk:k<l.length)(h:p l[k]! =true):l.any p=true:=(N0 l p).2 ⟨k,hk,h⟩
def dT{α:Type}[Inhabited α](l:List α)(p:α->Bool)(k:Nat):Prop:=∀j:Nat,j<k->p l[j]! =false
theorem dT.zero{α:Type}[Inhabited α](l:List α)(p:α->Bool):dT l p 0:=fun j J=>absurd J (aD _)
theorem dT.step{α:Type}[Inhabited α]{l:List α}{p:α->Bool}{k:Nat}(h:dT l p k)(hk:p l[k]! =false):dT l p (k+1):=fun j J=>by
 by_cases e:j=k
 ·subst e;exact hk
 ·exact h j (by omega)
theorem dT.all{α:Type}[Inhabited α]{l:List α}{p:α->Bool}{k:Nat}(h:dT l p k)(hk:¬k<l.length):l.any p=false:=XZ l p fun j J=>h j (by omega)
theorem Es{v x:Int}(J:0<=x)(h:x/2=v):hit v x=true:=by simp[hit,J,h]
theorem Eu{v x:Int}(J:x<0):hit v x=false:=by simp[hit,show ¬0<=x from by omega]
theorem Et{v x:Int}(h:¬x/2=v):hit v x=false:=by simp[hit,h]
theorem zm(w:World)(H:Hd)(C:Pc)(v:Int)(h:eZ w H C):
  Calls Tryz.prog 11 #[bY H C, .int .i64 v] w fun e w'=>e= .returned (.string (kd C v))/\Fr [] w w':=by
 have HH:=ae h;have aM:=h.iL;have aT:=h.lL;have aK:=h.gL;clear h;by_cases hv:v=0
 ·subst hv;simp only[bY,fv];go_enter Tryz.func11,Tryz.ntmps11;go_wp2;go_ret;exact⟨by simp[kd],cQ _ _⟩
 ·have Co:(v==0)=false:=aab.2 hv;have HV:=ae hv;clear hv;have hK:aj (∀s,kd C v=s->Ending.returned (.string s)= .returned (.string (kd C v))):=fun s h=>by rw[h]
  have HS:=ae (Cx.start w H C);obtain⟨mx,ins,az,outs,aI,aH,au,bD⟩:=C;obtain⟨iA,iC,lA,lC,oA,oC,bA,bC,vA,vC,gA,gC,nA,nC⟩:=H;simp only[bY,fv]at *;go_enter Tryz.func11,Tryz.ntmps11;go_wp2_with fail;go_loopg [5] ins.length (fun g i wr=>∃k:Nat,k+g=ins.length/\i= .int .i64 k/\Cx w wr ⟨iA,iC,lA,lC,oA,oC,bA,bC,vA,vC,gA,gC,nA,nC⟩ ⟨mx,ins,az,outs,aI,aH,au,bD⟩/\dT ins (hit v) k);case atStart=>exact⟨0,by omega,rfl,HS.o,dT.zero _ _⟩
  case round=>
   obtain⟨k,hk,rfl,hx,hn⟩:=hrel;have HK:=ae hk;have J:=ae hx;have HN:=ae hn;obtain⟨c0,c1,c2,c3,c4,c5,c6,c7⟩:=hx.cells;clear hk hx hn;by_cases bt:k<ins.length
   ·obtain⟨b,o,x,hA,he,cx,gU,jn⟩:=(HH.o.keep J.o.fr).i.one HH.o.ir bt;simp only at hA;subst hA;by_cases h0:0<=x
    ·by_cases h1:x/2=v
     ·have ab:(x/2==v)=true:=beq_iff_eq.2 h1;have H1:=ae h1;clear h1;go_wp2;go_ret;exact⟨hK.o _ (by rw[kd,qah HV.o,qai (kU _ _ k bt (by rw[he.o];exact Es h0 H1.o))]),J.o.fr⟩
     ·have ab:(x/2==v)=false:=aab.2 h1;have H1:=ae h1;clear h1;go_wp2;go_roundg (gk-1);case measure=>have :=HK.o;omega
      case rel=>exact⟨k+1,by have :=HK.o;omega,by go_num,J.o,HN.o.step (by rw[he.o];exact Et H1.o)⟩
    ·have H0:=ae h0;go_wp2;go_roundg (gk-1);case measure=>have :=HK.o;omega
     case rel=>exact⟨k+1,by have :=HK.o;omega,by go_num,J.o,HN.o.step (by rw[he.o];exact Eu H0.o)⟩
   ·have HT:=ae (HN.o.all bt);clear HN HK;go_wp2_with fail;have ad:=HT;clear HT;have ar:=J;clear J;clear c0 c1 c2 c3 c4 c5 c6 c7;go_loopg [6] az.length (fun g i wr=>∃k:Nat,k+g=az.length/\i= .int .i64 k/\Cx w wr ⟨iA,iC,lA,lC,oA,oC,bA,bC,vA,vC,gA,gC,nA,nC⟩ ⟨mx,ins,az,outs,aI,aH,au,bD⟩/\dT az (fun x=>hit v x.a) k);case atStart=>exact⟨0,by omega,rfl,ar.o,dT.zero _ _⟩
    case round=>
     obtain⟨k,hk,rfl,hx,hn⟩:=hrel;have HK:=ae hk;have J:=ae hx;have HN:=ae hn;obtain⟨c0,c1,c2,c3,c4,c5,c6,c7⟩:=hx.cells;clear hk hx hn;by_cases bt:k<az.length
     ·obtain⟨b,o,x,y,z,hA,he,cx,cy,cz,⟨gU,jn⟩,_,_⟩:=(HH.o.keep J.o.fr).l.one HH.o.lr bt;simp only at hA;subst hA;by_cases h0:0<=x
      ·by_cases h1:x/2=v
       ·have ab:(x/2==v)=true:=beq_iff_eq.2 h1;have H1:=ae h1;clear h1;go_wp2;go_ret;exact⟨hK.o _ (by rw[kd,qah HV.o,qah (by rw[ad.o];decide),qai (kU _ _ k bt (by rw[he.o];exact Es h0 H1.o))]),J.o.fr⟩
       ·have ab:(x/2==v)=false:=aab.2 h1;have H1:=ae h1;clear h1;go_wp2;go_roundg (gk-1);case measure=>have :=HK.o;omega
        case rel=>exact⟨k+1,by have :=HK.o;omega,by go_num,J.o,HN.o.step (by rw[he.o];exact Et H1.o)⟩
      ·have H0:=ae h0;go_wp2;go_roundg (gk-1);case measure=>have :=HK.o;omega
       case rel=>exact⟨k+1,by have :=HK.o;omega,by go_num,J.o,HN.o.step (by rw[he.o];exact Eu H0.o)⟩
     ·have HT:=ae (HN.o.all bt);clear HN HK;go_wp2_with fail;have LZ:=HT;clear HT;have aB:=J;clear J;clear c0 c1 c2 c3 c4 c5 c6 c7;go_loopg [7] au.length (fun g i wr=>∃k:Nat,k+g=au.length/\i= .int .i64 k/\Cx w wr ⟨iA,iC,lA,lC,oA,oC,bA,bC,vA,vC,gA,gC,nA,nC⟩ ⟨mx,ins,az,outs,aI,aH,au,bD⟩/\dT au (fun x=>hit v x.a) k);case atStart=>exact⟨0,by omega,rfl,aB.o,dT.zero _ _⟩
      case round=>
       obtain⟨k,hk,rfl,hx,hn⟩:=hrel;have HK:=ae hk;have J:=ae hx;have HN:=ae hn;obtain⟨c0,c1,c2,c3,c4,c5,c6,c7⟩:=hx.cells;clear hk hx hn;by_cases bt:k<au.length
       ·obtain⟨b,o,x,y,z,hA,he,cx,cy,cz,⟨gU,jn⟩,_,_⟩:=(HH.o.keep J.o.fr).g.one HH.o.gr bt;simp only at hA;subst hA;by_cases h0:0<=x
        ·by_cases h1:x/2=v
         ·have ab:(x/2==v)=true:=beq_iff_eq.2 h1;have H1:=ae h1;clear h1;go_wp2;go_ret;exact⟨hK.o _ (by rw[kd,qah HV.o,qah (by rw[ad.o];decide),qah (by rw[LZ.o];decide),qai (kU _ _ k bt (by rw[he.o];exact Es h0 H1.o))]),J.o.fr⟩
         ·have ab:(x/2==v)=false:=aab.2 h1;have H1:=ae h1;clear h1;go_wp2;go_roundg (gk-1);case measure=>have :=HK.o;omega
          case rel=>exact⟨k+1,by have :=HK.o;omega,by go_num,J.o,HN.o.step (by rw[he.o];exact Et H1.o)⟩
        ·have H0:=ae h0;go_wp2;go_roundg (gk-1);case measure=>have :=HK.o;omega
         case rel=>exact⟨k+1,by have :=HK.o;omega,by go_num,J.o,HN.o.step (by rw[he.o];exact Eu H0.o)⟩
       ·have HT:=ae (HN.o.all bt);clear HN HK;go_wp2;go_ret;exact⟨hK.o _ (by rw[kd,qah HV.o,qah (by rw[ad.o];decide),qah (by rw[LZ.o];decide),qah (by rw[HT.o];decide)]),J.o.fr⟩
def fh(C:Pc)(l:Int):Bool:=decide (0<=l)&&gP C (l/2)
theorem aaR{C:Pc}{v:Int}(h:gP C v=false):kd C v=⟨#[]⟩:=by simp only[gP,dw,decide_eq_false_iff_not]at h;obtain⟨⟨⟨h1,J⟩,h3⟩,h4⟩:=h;rw[kd,qah h1,qah (by rw[J];decide),qah (by rw[h3];decide),qah (by rw[h4];decide)]
theorem So{C:Pc}{v:Int}(h:gP C v=true):∃c,kd C v=⟨#[c]⟩:=by
 unfold kd;by_cases h1:v=0
 ·rw[qai h1];exact⟨_,rfl⟩
 ·rw[qah h1];by_cases J:C.ins.any (hit v)=true
  ·rw[qai J];exact⟨_,rfl⟩
  ·rw[qah J];by_cases h3:C.az.any (fun x=>hit v x.a)=true
   ·rw[qai h3];exact⟨_,rfl⟩
   ·rw[qah h3];by_cases h4:C.au.any (fun x=>hit v x.a)=true
    ·rw[qai h4];exact⟨_,rfl⟩
    ·simp only[gP,dI,qam]at h;exact absurd h (by simp only[h1,J,h3,h4,or_self,not_false_iff,bu])
theorem Na(w:World)(H:Hd)(C:Pc)(v:Int)(h:eZ w H C)(hk:gP C v=false):
  Calls Tryz.prog 11 #[bY H C, .int .i64 v] w fun e w'=>e= .returned (.string ⟨#[]⟩)/\Fr [] w w':=by
 rw[<-aaR hk];exact zm w H C v h
theorem GG(w:World)(H:Hd)(C:Pc)(v:Int)(h:eZ w H C)(hk:gP C v=true)(c:UInt8)(hc:kd C v=⟨#[c]⟩):
  Calls Tryz.prog 11 #[bY H C, .int .i64 v] w fun e w'=>e= .returned (.string ⟨#[c]⟩)/\Fr [] w w':=by
 rw[<-hc];exact zm w H C v h
theorem tS(w:World)(H:Hd)(C:Pc)(l:Int)(h:eZ w H C)(hr:eJ l):
  Calls Tryz.prog 58 #[bY H C, .int .i64 l] w fun e w'=>e= .returned (.bool (fh C l))/\Fr [] w w':=by
 have HH:=ae h;have HS:=ae (Cx.start w H C);obtain⟨QO,pP⟩:=hr;have hK:aj (∀s,fh C l=s->Ending.returned (.bool s)= .returned (.bool (fh C l))):=fun s h=>by rw[h]
 clear h;by_cases h0:0<=l
 ·have HL:aj (∀b,gP C (l/2)=b->fh C l=b):=fun b hb=>by simp[fh,h0,hb]
  by_cases hk:gP C (l/2)=true
  ·obtain⟨c,hc⟩:=So hk;have HC:=ae hc;have J:=ae hk;clear hc hk;have KC:=ae (fun W hW=>GG W H C (l/2) hW J.o c HC.o);obtain⟨mx,ins,az,outs,aI,aH,au,bD⟩:=C;obtain⟨iA,iC,lA,lC,oA,oC,bA,bC,vA,vC,gA,gC,nA,nC⟩:=H;simp only[bY,fv]at *;go_enter Tryz.func58,Tryz.ntmps58;go_wp2_with fail;refine(KC.o _ (HH.o.keep HS.o.fr)).mono ?_;rintro e w1 ⟨rfl,hf⟩;go_wp2;go_ret;exact⟨hK.o _ (HL.o _ J.o),HS.o.fr.ak hf⟩
  ·have J:=ae (fa.2 hk);clear hk;have KC:=ae (fun W hW=>Na W H C (l/2) hW J.o);obtain⟨mx,ins,az,outs,aI,aH,au,bD⟩:=C;obtain⟨iA,iC,lA,lC,oA,oC,bA,bC,vA,vC,gA,gC,nA,nC⟩:=H;simp only[bY,fv]at *;go_enter Tryz.func58,Tryz.ntmps58;go_wp2_with fail;refine(KC.o _ (HH.o.keep HS.o.fr)).mono ?_;rintro e w1 ⟨rfl,hf⟩;go_wp2;go_ret;exact⟨hK.o _ (HL.o _ J.o),HS.o.fr.ak hf⟩
 ·have HL:aj (fh C l=false):=(by simp[fh,h0]:fh C l=false)
  obtain⟨mx,ins,az,outs,aI,aH,au,bD⟩:=C;obtain⟨iA,iC,lA,lC,oA,oC,bA,bC,vA,vC,gA,gC,nA,nC⟩:=H;simp only[bY,fv]at *;go_enter Tryz.func58,Tryz.ntmps58;go_wp2;go_ret;exact⟨hK.o _ HL.o,HS.o.fr⟩
def nR(C:Pc)(l:List Int):Bool:=l.all (fh C)&&decide ((l.length:Int)<=64)
def qV{α:Type}[Inhabited α](l:List α)(p:α->Bool)(k:Nat):Prop:=∀j:Nat,j<k->p l[j]! =true
theorem qV.zero{α:Type}[Inhabited α](l:List α)(p:α->Bool):qV l p 0:=fun j J=>absurd J (aD _)
theorem qV.step{α:Type}[Inhabited α]{l:List α}{p:α->Bool}{k:Nat}(h:qV l p k)(hk:p l[k]! =true):qV l p (k+1):=fun j J=>by
 by_cases e:j=k
 ·subst e;exact hk
 ·exact h j (by omega)
theorem qV.all{α:Type}[Inhabited α]{l:List α}{p:α->Bool}{k:Nat}(h:qV l p k)(hk:¬k<l.length):l.all p=true:=by rw[cR];intro x hx;obtain⟨j,J,e⟩:=List.mem_iff_getElem.1 hx;have :=h j (by omega);simpa[aa,af J,e]using this
theorem N1{α:Type}[Inhabited α]{l:List α}{p:α->Bool}{k:Nat}(hk:k<l.length)(h:p l[k]! =false):l.all p=false:=by rw[fa];intro J;have :=cR.1 J l[k] (gu hk);simp only[aa,af hk,aJ]at h;rw[h]at this;cases this
theorem JN(w:World)(H:Hd)(C:Pc)(A:Option Addr)(c:Nat)(xs:List Int)(h:eZ w H C)(hx:Rd w A xs)(hr:Ra xs)(hl:xs.length<=17592186044416):
  Calls Tryz.prog 60 #[bY H C, .slice A xs.length c] w fun e w'=>e= .returned (.bool (nR C xs))/\Fr [] w w':=by
 have HH:=ae h;have HR:=ae hx;have HA:=ae hr;have HS:=ae (Cx.start w H C);have hK:aj (∀s,nR C xs=s->Ending.returned (.bool s)= .returned (.bool (nR C xs))):=fun s h=>by rw[h]
 clear h hx hr;have KC:=ae (fun W l hW hl=>tS W H C l hW hl);obtain⟨mx,ins,az,outs,aI,aH,au,bD⟩:=C;obtain⟨iA,iC,lA,lC,oA,oC,bA,bC,vA,vC,gA,gC,nA,nC⟩:=H;simp only[bY,fv]at *;go_enter Tryz.func60,Tryz.ntmps60;go_wp2_with fail;go_loopg [5] xs.length (fun g i wr=>∃k:Nat,k+g=xs.length/\i= .int .i64 k/\Cx w wr ⟨iA,iC,lA,lC,oA,oC,bA,bC,vA,vC,gA,gC,nA,nC⟩ ⟨mx,ins,az,outs,aI,aH,au,bD⟩/\qV xs (fh ⟨mx,ins,az,outs,aI,aH,au,bD⟩) k);case atStart=>exact⟨0,by omega,rfl,HS.o,qV.zero _ _⟩
 case round=>
  obtain⟨k,hk,rfl,hx,hn⟩:=hrel;have HK:=ae hk;have J:=ae hx;have HN:=ae hn;obtain⟨c0,c1,c2,c3,c4,c5,c6,c7⟩:=hx.cells;clear hk hx hn;by_cases bt:k<xs.length
  ·obtain⟨b,o,x,hA,he,cx,gU,jn⟩:=(HR.o.keep J.o.fr).one HA.o bt;subst hA;have ex:=Ext.cell cx;obtain⟨e0,e1,e2,e3,e4,e5,e6,e7⟩:=J.o.ext;by_cases hq:fh ⟨mx,ins,az,outs,aI,aH,au,bD⟩ x=true
   ·have HQ:=ae hq;have KQ:aj (∀W,eZ W ⟨iA,iC,lA,lC,oA,oC,bA,bC,vA,vC,gA,gC,nA,nC⟩ ⟨mx,ins,az,outs,aI,aH,au,bD⟩->Calls Tryz.prog 58 #[bY ⟨iA,iC,lA,lC,oA,oC,bA,bC,vA,vC,gA,gC,nA,nC⟩ ⟨mx,ins,az,outs,aI,aH,au,bD⟩, .int .i64 x] W fun e w'=>e= .returned (.bool true)/\Fr [] W w'):=fun W hW=>by rw[<-HQ.o];exact KC.o W x hW ⟨gU,jn⟩
    clear hq;go_wp2;refine ap ?_;repeat (go_big_quiet_step (exact bf (KQ.o _ (HH.o.keep (J.o.fr.ak (Ext.fr _))))))
    refine fq ?_;intro w2 aT;clear c0 c1 c2 c3 c4 c5 c6 c7 cx ex e0 e1 e2 e3 e4 e5 e6 e7;go_wp2;go_roundg (gk-1);case measure=>have :=HK.o;omega
    case rel=>exact⟨k+1,by have :=HK.o;omega,by go_num,J.o.keep aT.o,HN.o.step (by rw[he.o];exact HQ.o)⟩
   ·have HQ:=ae (fa.2 hq);have KQ:aj (∀W,eZ W ⟨iA,iC,lA,lC,oA,oC,bA,bC,vA,vC,gA,gC,nA,nC⟩ ⟨mx,ins,az,outs,aI,aH,au,bD⟩->Calls Tryz.prog 58 #[bY ⟨iA,iC,lA,lC,oA,oC,bA,bC,vA,vC,gA,gC,nA,nC⟩ ⟨mx,ins,az,outs,aI,aH,au,bD⟩, .int .i64 x] W fun e w'=>e= .returned (.bool false)/\Fr [] W w'):=fun W hW=>by rw[<-HQ.o];exact KC.o W x hW ⟨gU,jn⟩
    clear hq;go_wp2;refine ap ?_;repeat (go_big_quiet_step (exact bf (KQ.o _ (HH.o.keep (J.o.fr.ak (Ext.fr _))))))
    refine fq ?_;intro w2 aT;clear c0 c1 c2 c3 c4 c5 c6 c7 cx ex e0 e1 e2 e3 e4 e5 e6 e7;go_wp2;go_ret;exact⟨hK.o _ (by rw[nR,N1 bt (by rw[he.o];exact HQ.o)];rfl),J.o.fr.ak aT.o⟩
  ·have HT:=ae (HN.o.all bt);clear HK;go_wp2;go_ret;exact⟨hK.o _ (by rw[nR,HT.o,ff]),J.o.fr⟩
def kS(C:Pc)(k:ByteArray):Int:=
 if(k.toList==[105])=true then C.ins.length else if(k.toList==[108])=true then C.az.length else if(k.toList==[111])=true then C.outs.length else if(k.toList==[98])=true then C.aI.length else if(k.toList==[99])=true then C.aH.length else -1
def rk(k:ByteArray):Int:=if(k.toList==[105])=true then 0 else if(k.toList==[108])=true then 1 else if(k.toList==[111])=true then 2 else if(k.toList==[98])=true then 3 else if(k.toList==[99])=true then 4 else -1
theorem eS{a b:List UInt8}{c:Bool}(h:(a==b)=c):(b==a)=c:=by rw[<-h];exact BEq.comm
theorem jw(a b:List UInt8):(a==b)=true\/(a==b)=false:=by cases(a==b)<;>simp
theorem DM(w:World)(H:Hd)(C:Pc)(s:ByteArray):
  Calls Tryz.prog 91 #[bY H C, .string s] w fun e w'=>e= .returned (.int .i64 (kS C s))/\Fr [] w w':=by
 have hK:aj (∀x,kS C s=x->Ending.returned (.int .i64 x)= .returned (.int .i64 (kS C s))):=fun s h=>by rw[h]
 obtain⟨mx,ins,az,outs,aI,aH,au,bD⟩:=C;obtain⟨iA,iC,lA,lC,oA,oC,bA,bC,vA,vC,gA,gC,nA,nC⟩:=H;simp only[bY,fv]at *;rcases jw s.toList [105]with g0 |g0
 ·have J:=ae (show kS ⟨mx,ins,az,outs,aI,aH,au,bD⟩ s=_ from by simp only[kS,g0,if_true];rfl);go_enter Tryz.func91,Tryz.ntmps91;go_wp2;go_ret;exact⟨hK.o _ J.o,cQ _ _⟩
 rcases jw s.toList [108]with g1 |g1
 ·have J:=ae (show kS ⟨mx,ins,az,outs,aI,aH,au,bD⟩ s=_ from by simp only[kS,g0,g1,if_true,if_false,bu];rfl);go_enter Tryz.func91,Tryz.ntmps91;go_wp2;go_ret;exact⟨hK.o _ J.o,cQ _ _⟩
 rcases jw s.toList [111]with g2 |g2
 ·have J:=ae (show kS ⟨mx,ins,az,outs,aI,aH,au,bD⟩ s=_ from by simp only[kS,g0,g1,g2,if_true,if_false,bu];rfl);go_enter Tryz.func91,Tryz.ntmps91;go_wp2;go_ret;exact⟨hK.o _ J.o,cQ _ _⟩
 rcases jw s.toList [98]with g3 |g3
 ·have J:=ae (show kS ⟨mx,ins,az,outs,aI,aH,au,bD⟩ s=_ from by simp only[kS,g0,g1,g2,g3,if_true,if_false,bu];rfl);go_enter Tryz.func91,Tryz.ntmps91;go_wp2;go_ret;exact⟨hK.o _ J.o,cQ _ _⟩
 rcases jw s.toList [99]with g4 |g4
 ·have J:=ae (show kS ⟨mx,ins,az,outs,aI,aH,au,bD⟩ s=_ from by simp only[kS,g0,g1,g2,g3,g4,if_true,if_false,bu];rfl);go_enter Tryz.func91,Tryz.ntmps91;go_wp2;go_ret;exact⟨hK.o _ J.o,cQ _ _⟩
 have J:=ae (show kS ⟨mx,ins,az,outs,aI,aH,au,bD⟩ s=_ from by simp only[kS,g0,g1,g2,g3,g4,if_false,bu];rfl);go_enter Tryz.func91,Tryz.ntmps91;go_wp2;go_ret;exact⟨hK.o _ J.o,cQ _ _⟩
theorem F4(w:World)(s:ByteArray):
  Calls Tryz.prog 92 #[.string s] w fun e w'=>e= .returned (.int .i64 (rk s))/\Fr [] w w':=by
 have hK:aj (∀x,rk s=x->Ending.returned (.int .i64 x)= .returned (.int .i64 (rk s))):=fun s h=>by rw[h]
 rcases jw s.toList [105]with g0 |g0
 ·have J:=ae (show rk s=_ from by simp only[rk,g0,if_true];rfl);have f0:=eS g0;go_enter Tryz.func92,Tryz.ntmps92;go_wp2
  go_loop [4] (fun i=>∃k:Nat,k<=0/\i= .int .i64 k) (fun i=>0-(intOf i).toNat)
  case atStart=>exact⟨0,aU _,rfl⟩
  case round=>
   obtain⟨k,hk,rfl⟩:=hrel;obtain rfl :k=0:=by omega
   go_wp2;go_ret;exact⟨hK.o _ J.o,cQ _ _⟩
 rcases jw s.toList [108]with g1 |g1
 ·have J:=ae (show rk s=_ from by simp only[rk,g0,g1,if_true,if_false,bu];rfl);have f0:=eS g0;have f1:=eS g1;go_enter Tryz.func92,Tryz.ntmps92;go_wp2
  go_loop [4] (fun i=>∃k:Nat,k<=1/\i= .int .i64 k) (fun i=>1-(intOf i).toNat)
  case atStart=>exact⟨0,aU _,rfl⟩
  case round=>
   obtain⟨k,hk,rfl⟩:=hrel;rcases(by omega:k=0\/k=1)with rfl |rfl
   ·go_wp2
    go_round
    case rel=>exact⟨1,by omega,by go_num⟩
    case measure=>simp[intOf]
   ·go_wp2;go_ret;exact⟨hK.o _ J.o,cQ _ _⟩
 rcases jw s.toList [111]with g2 |g2
 ·have J:=ae (show rk s=_ from by simp only[rk,g0,g1,g2,if_true,if_false,bu];rfl);have f0:=eS g0;have f1:=eS g1;have f2:=eS g2;go_enter Tryz.func92,Tryz.ntmps92;go_wp2
  go_loop [4] (fun i=>∃k:Nat,k<=2/\i= .int .i64 k) (fun i=>2-(intOf i).toNat)
  case atStart=>exact⟨0,aU _,rfl⟩
  case round=>
   obtain⟨k,hk,rfl⟩:=hrel;rcases(by omega:k=0\/k=1\/k=2)with rfl |rfl |rfl
   ·go_wp2
    go_round
    case rel=>exact⟨1,by omega,by go_num⟩
    case measure=>simp[intOf]
   ·go_wp2
    go_round
    case rel=>exact⟨2,by omega,by go_num⟩
    case measure=>simp[intOf]
   ·go_wp2;go_ret;exact⟨hK.o _ J.o,cQ _ _⟩
 rcases jw s.toList [98]with g3 |g3
 ·have J:=ae (show rk s=_ from by simp only[rk,g0,g1,g2,g3,if_true,if_false,bu];rfl);have f0:=eS g0;have f1:=eS g1;have f2:=eS g2;have f3:=eS g3;go_enter Tryz.func92,Tryz.ntmps92;go_wp2
  go_loop [4] (fun i=>∃k:Nat,k<=3/\i= .int .i64 k) (fun i=>3-(intOf i).toNat)
  case atStart=>exact⟨0,aU _,rfl⟩
  case round=>
   obtain⟨k,hk,rfl⟩:=hrel;rcases(by omega:k=0\/k=1\/k=2\/k=3)with rfl |rfl |rfl |rfl
   ·go_wp2
    go_round
    case rel=>exact⟨1,by omega,by go_num⟩
    case measure=>simp[intOf]
   ·go_wp2
    go_round
    case rel=>exact⟨2,by omega,by go_num⟩
    case measure=>simp[intOf]
   ·go_wp2
    go_round
    case rel=>exact⟨3,by omega,by go_num⟩
    case measure=>simp[intOf]
   ·go_wp2;go_ret;exact⟨hK.o _ J.o,cQ _ _⟩
 rcases jw s.toList [99]with g4 |g4
 ·have J:=ae (show rk s=_ from by simp only[rk,g0,g1,g2,g3,g4,if_true,if_false,bu];rfl);have f0:=eS g0;have f1:=eS g1;have f2:=eS g2;have f3:=eS g3;have f4:=eS g4;go_enter Tryz.func92,Tryz.ntmps92;go_wp2
  go_loop [4] (fun i=>∃k:Nat,k<=4/\i= .int .i64 k) (fun i=>4-(intOf i).toNat)
  case atStart=>exact⟨0,aU _,rfl⟩
  case round=>
   obtain⟨k,hk,rfl⟩:=hrel;rcases(by omega:k=0\/k=1\/k=2\/k=3\/k=4)with rfl |rfl |rfl |rfl |rfl
   ·go_wp2
    go_round
    case rel=>exact⟨1,by omega,by go_num⟩
    case measure=>simp[intOf]
   ·go_wp2
    go_round
    case rel=>exact⟨2,by omega,by go_num⟩
    case measure=>simp[intOf]
   ·go_wp2
    go_round
    case rel=>exact⟨3,by omega,by go_num⟩
    case measure=>simp[intOf]
   ·go_wp2
    go_round
    case rel=>exact⟨4,by omega,by go_num⟩
    case measure=>simp[intOf]
   ·go_wp2;go_ret;exact⟨hK.o _ J.o,cQ _ _⟩
 have J:=ae (show rk s=_ from by simp only[rk,g0,g1,g2,g3,g4,if_false,bu];rfl);have f0:=eS g0;have f1:=eS g1;have f2:=eS g2;have f3:=eS g3;have f4:=eS g4;go_enter Tryz.func92,Tryz.ntmps92;go_wp2
 go_loop [4] (fun i=>∃k:Nat,k<=5/\i= .int .i64 k) (fun i=>5-(intOf i).toNat)
 case atStart=>exact⟨0,aU _,rfl⟩
 case round=>
  obtain⟨k,hk,rfl⟩:=hrel;rcases(by omega:k=0\/k=1\/k=2\/k=3\/k=4\/k=5)with rfl |rfl |rfl |rfl |rfl |rfl
  ·go_wp2
   go_round
   case rel=>exact⟨1,by omega,by go_num⟩
   case measure=>simp[intOf]
  ·go_wp2
   go_round
   case rel=>exact⟨2,by omega,by go_num⟩
   case measure=>simp[intOf]
  ·go_wp2
   go_round
   case rel=>exact⟨3,by omega,by go_num⟩
   case measure=>simp[intOf]
  ·go_wp2
   go_round
   case rel=>exact⟨4,by omega,by go_num⟩
   case measure=>simp[intOf]
  ·go_wp2
   go_round
   case rel=>exact⟨5,by omega,by go_num⟩
   case measure=>simp[intOf]
  ·go_wp2;go_ret;exact⟨hK.o _ J.o,cQ _ _⟩
end Go.Proofs.YtpjbaobgnhjgoaaGreat
