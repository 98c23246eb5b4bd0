/- Parts of a proof. -/
import Derived.Test.YtpjbaobgnhjgoaaGreatGAH
set_option linter.unusedVariables false
set_option linter.unusedSimpArgs false
set_option maxHeartbeats 16000000
set_option maxRecDepth 100000
namespace Go.Proofs.YtpjbaobgnhjgoaaGreat
open Go.RowKit
namespace Sv
structure Vv(S:Sv)(G:Gr):Prop where
 nd:G.seen.Nodup
 sn:∀v∈G.seen,1<=v/\v<=S.vars
 ln:G.bH.length<=G.seen.length+1
 lt:∀x∈G.bH.tail,x≠0
theorem Wq{S:Sv}{m:Nat}(ok:S.Ok m){v:Int}(h:¬S.T.dF v<=0):1<=v/\v<=S.vars:=by
 obtain⟨R,J⟩:=ok.tr;unfold Tr.dF at h;split at h
 ·rename_i hb;have :=Tr.dP hb;rw[J.size]at this;omega
 ·omega
theorem J3{S:Sv}{m:Nat}(ok:S.Ok m)(v:Int): -1<=S.T.dF v/\S.T.dF v<=S.T.levels.length:=by
 obtain⟨R,J⟩:=ok.tr;rw[J.dF];cases hk:look R v with
 |none=>simp only;omega
 |some e=>
  have :=J.bound e (jH hk).1;simp only;omega
theorem Dn{l:Int}(h:1<=tv l):l≠0:=by rintro rfl;rw[oU (by omega)]at h;omega
theorem FU{l:List Int}{x:Int}(h:0<l.length):(l++[x]).tail=l.tail++[x]:=by
 cases l with
 |nil=>simp at h
 |cons y r=>rfl
theorem Vv.meet{S:Sv}{m:Nat}{G:Gr}(h:Vv S G)(hn:pE S m G)(l:Int):Vv S (meet G l):=by
 by_cases h1:tv l∈G.seen\/G.S.T.dF (tv l)<=0
 ·rw[kN h1];exact h
 ·have Nl:tv l∉G.seen:=fun e=>h1 (.inl e);have hv:=Wq hn.ok (v:=tv l) (fun e=>h1 (.inr e));rw[hn.vars]at hv;have Fm:(tv l::G.seen).Nodup:=kg.2 ⟨Nl,h.nd⟩;have yj:∀v∈tv l::G.seen,1<=v/\v<=S.vars:=fun v hm=>by
   rcases ay.1 hm with rfl |hm
   ·exact hv
   ·exact h.sn v hm
  have AH:=h.ln;by_cases h2:G.S.T.dF (tv l)=G.S.T.levels.length
  ·rw[iM h1 h2];exact⟨Fm,yj,by show G.bH.length<=(tv l::G.seen).length+1;simp;omega,h.lt⟩
  ·rw[jX h1 h2];refine⟨Fm,yj,by show(G.bH++[l]).length<=(tv l::G.seen).length+1;simp;omega,?_⟩;show ∀x∈(G.bH++[l]).tail,x≠0;rw[FU hn.l0];intro x J;rcases ah.1 J with J |J
   ·exact h.lt x J
   ·simp at J;rw[J];exact Dn hv.1
theorem vx{S:Sv}{m:Nat}(skip:Int):∀(ls:List Int)(G:Gr),(∀x∈ls,-(S.vars:Int)<=x/\x<=S.vars)->Vv S G->pE S m G->Vv S (meets skip ls G)/\pE S m (meets skip ls G)
 |[],G,hl,h1,J=>⟨h1,J⟩
 |l::r,G,hl,h1,J=>by
  rw[meets];split
  ·exact vx skip r _ (fun x hx=>hl x (bU _ hx)) (h1.meet J l) (J.meet (hl l (by simp)))
  ·exact vx skip r _ (fun x hx=>hl x (bU _ hx)) h1 J
theorem J6{S:Sv}{m:Nat}{G:Gr}(n skip:Int)(h1:Vv S G)(J:pE S m G):Vv S (eu G n skip)/\pE S m (eu G n skip):=by
 unfold eu;split
 ·refine vx skip _ _ (fun x hx=> ?_) ⟨h1.nd,h1.sn,h1.ln,h1.lt⟩ (J.iV n.toNat);have :=J.ok.lr n.toNat x hx;rw[J.vars]at this;exact this.2
 ·exact⟨h1,J⟩
theorem zg{S:Sv}{m:Nat}:∀(f:Nat)(G:Gr)(n skip:Int)(rest:List Int)(GE:Gr)(xe:Int),fX f G n skip rest=some (GE,xe)->Vv S G->pE S m G->Vv S GE/\pE S m GE/\xe∈rest
 |0,G,n,skip,rest,GE,xe,h,_,_=>by rw[kX]at h;cases h
 |f+1,G,n,skip,rest,GE,xe,h,h1,h2=>by
  rw[me]at h;obtain⟨J,k2⟩:=J6 n skip h1 h2;generalize eu G n skip=G1 at h J k2;unfold eO at h;have hd:=List.dropWhile_sublist (fun x=>decide (tv x∉G1.seen)) (l:=rest);cases hq:rest.dropWhile (fun x=>decide (tv x∉G1.seen))with
  |nil=>rw[hq]at h;cases h
  |cons x r=>
   rw[hq]at h hd;simp only at h;split at h
   ·simp only[Option.some.injEq,Prod.mk.injEq]at h;obtain⟨rfl,rfl⟩:=h;exact⟨⟨J.nd,J.sn,J.ln,J.lt⟩,k2.gO _,hd.subset (by simp)⟩
   ·obtain⟨g1,g2,g3⟩:=zg f _ _ _ _ GE xe h ⟨J.nd,J.sn,J.ln,J.lt⟩ (k2.gO _);exact⟨g1,g2,hd.subset (bU _ g3)⟩
theorem mq{T:Tr}{D:Int}(J:∀v,T.dF v<=D):∀(f k:Nat)(l:List Int)(db:Int),db<=(second T f k l db).2/\(second T f k l db).2<=max db D
 |0,k,l,db=>⟨gE _,by show db<=_;omega⟩
 |f+1,k,l,db=>by
  rw[second];split
  ·split
   ·rename_i h1 h2;have :=mq J f (k+1) (dK l 1 k) (T.dF (tv l[k]!));have :=J (tv l[k]!);omega
   ·exact mq J f (k+1) l db
  ·exact⟨gE _,by show db<=_;omega⟩
theorem sH{T:Tr}:∀(f k:Nat)(l:List Int)(db:Int),1<=k->∀x∈(second T f k l db).1,x∈l
 |0,k,l,db,_,x,J=>J
 |f+1,k,l,db,h,x,J=>by
  rw[second]at J;split at J
  ·split at J
   ·exact tM (by omega) (by omega) (sH f (k+1) _ _ (by omega) x J)
   ·exact sH f (k+1) l db (by omega) x J
  ·exact J
theorem RF{S:Sv}{G:Gr}(h:Vv S G):G.seen.length<=S.vars+1:=by
 have hn:(G.seen.map Int.toNat).Nodup:=by unfold List.Nodup;rw[List.pairwise_map];refine List.Pairwise.imp_of_mem ?_ h.nd;intro a b ha hb dV e;have :=h.sn a ha;have :=h.sn b hb;omega
 have :=lM (S.vars+1) _ hn (fun x J=>by rw[aN]at J;obtain⟨y,hy,rfl⟩:=J;have :=h.sn y hy;omega);simpa using this
theorem jI{S:Sv}{m:Nat}(ok:S.Ok m){n:Nat}{S1:Sv}{l:List Int}{db:Int}(h:S.iN n=some (S1,l,db)):
  S1.Ok m/\S1.T=S.T/\S1.vars=S.vars/\S1.list.length=S.list.length/\S1.used=S.used/\0<l.length/\l.length<=1048576/\(∀x∈l,x≠0/\ -(S.vars:Int)<=x/\x<=S.vars)/\0<=db/\db<=S.T.levels.length:=by
 have lP:=ok.vl;unfold iN at h;cases hq:fX (S.T.lits.length+1) ⟨S,[],0,[0]⟩ n 0 S.T.lits.reverse with
 |none=>rw[hq]at h;cases h
 |some q=>
  obtain⟨G,x⟩:=q;rw[hq]at h;simp only[Option.some.injEq,Prod.mk.injEq]at h;obtain⟨rfl,rfl,rfl⟩:=h;obtain⟨g1,g2,g3⟩:=zg (S:=S) (m:=m) _ _ _ _ _ G x hq ⟨by simp,fun v hv=>by simp at hv,by simp,fun v hv=>by simp at hv⟩ ⟨rfl,rfl,rfl,rfl,ok,fun x hx=>by simp at hx;subst hx;omega,by simp⟩;have hl:=g1.ln;have hs:=RF g1;have h0:=g2.l0;have ab:x≠0/\ -(S.vars:Int)<=x/\x<=S.vars:=by rw[dX]at g3;obtain⟨i,hi,e⟩:=List.getElem_of_mem g3;have :=ok.qX hi;simp only[aa,af hi,aJ,e]at this;exact⟨this.2.2.2.2,this.2.2.1,this.2.2.2.1⟩
  refine⟨g2.ok,g2.T,g2.vars,g2.len,g2.used,by rw[ij,aw];exact h0,by rw[ij,aw];omega,fun y J=> ?_,?_,?_⟩
  ·have J:=sH _ _ _ _ (aq 1) y J;cases hg:G.bH with
   |nil=>rw[hg]at h0;simp at h0
   |cons z r=>
    rw[hg]at J;simp only[List.set_cons_zero,ay]at J;rcases J with rfl |J
    ·omega
    ·exact⟨g1.lt y (by rw[hg];exact J),g2.lr y (by rw[hg];exact bU _ J)⟩
  ·exact(mq (T:=G.S.T) (D:=G.S.T.levels.length) (fun v=>(J3 g2.ok v).2) _ _ _ _).1
  ·have :=(mq (T:=G.S.T) (D:=G.S.T.levels.length) (fun v=>(J3 g2.ok v).2) (G.bH.set 0 (-x)).length 1 (G.bH.set 0 (-x)) 0).2;rw[g2.T]at this⊢;omega
theorem OH(G:Gr)(l:Int):(meet G l).S.bump=G.S.bump/\(meet G l).S.many=G.S.many:=by
 by_cases h:tv l∈G.seen\/G.S.T.dF (tv l)<=0
 ·rw[kN h];exact⟨rfl,rfl⟩
 ·by_cases J:G.S.T.dF (tv l)=G.S.T.levels.length
  ·rw[iM h J];exact⟨rfl,rfl⟩
  ·rw[jX h J];exact⟨rfl,rfl⟩
theorem sM(skip:Int):∀(ls:List Int)(G:Gr),(meets skip ls G).S.bump=G.S.bump/\(meets skip ls G).S.many=G.S.many
 |[],G=>⟨rfl,rfl⟩
 |l::r,G=>by
  rw[meets];split
  ·have h1:=sM skip r (meet G l);have J:=OH G l;exact⟨h1.1.trans J.1,h1.2.trans J.2⟩
  ·exact sM skip r G
theorem GB(G:Gr)(n skip:Int):(eu G n skip).S.bump=G.S.bump/\(eu G n skip).S.many=G.S.many:=by
 unfold eu;split
 ·exact sM skip _ _
 ·exact⟨rfl,rfl⟩
theorem wL:∀(f:Nat)(G:Gr)(n skip:Int)(rest:List Int)(GE:Gr)(xe:Int),fX f G n skip rest=some (GE,xe)->GE.S.bump=G.S.bump/\GE.S.many=G.S.many
 |0,G,n,skip,rest,GE,xe,h=>by rw[kX]at h;cases h
 |f+1,G,n,skip,rest,GE,xe,h=>by
  rw[me]at h;have hk:=GB G n skip;generalize eu G n skip=G1 at h hk;unfold eO at h;cases J:rest.dropWhile (fun x=>decide (tv x∉G1.seen))with
  |nil=>rw[J]at h;cases h
  |cons x r=>
   rw[J]at h;simp only at h;split at h
   ·simp only[Option.some.injEq,Prod.mk.injEq]at h;obtain⟨rfl,rfl⟩:=h;exact hk
   ·have :=wL f _ _ _ _ GE xe h;exact⟨this.1.trans hk.1,this.2.trans hk.2⟩
theorem ug{S:Sv}{n:Nat}{J:Sv}{l:List Int}{db:Int}(h:S.iN n=some (J,l,db)):J.bump=S.bump/\J.many=S.many:=by
 unfold iN at h;cases hq:fX (S.T.lits.length+1) ⟨S,[],0,[0]⟩ n 0 S.T.lits.reverse with
 |none=>rw[hq]at h;cases h
 |some q=>
  obtain⟨G,x⟩:=q;rw[hq]at h;simp only[Option.some.injEq,Prod.mk.injEq]at h;obtain⟨rfl,-,-⟩:=h;exact wL _ _ _ _ _ G x hq
theorem P6(S:Sv)(level:Nat):(S.back level).bump=S.bump/\(S.back level).many=S.many/\(S.back level).used=S.used:=by have h:=mh S level;exact⟨h.2.2.2.2.2.2,h.2.2.1,h.2.1⟩
theorem Ok.cZ{S:Sv}{m:Nat}(ok:S.Ok m):S.cZ.Ok m:=⟨ok.vl,ok.tr,ok.hi,ok.hl,ok.ph,ok.wl,ok.ll,ok.wb,ok.wt,ok.lr,ok.ln,ok.lb,ok.hd,ok.rs⟩
theorem Ok.MN{S:Sv}{m:Nat}(ok:S.Ok m)(x:Int):({ S with many:=x }:Sv).Ok m:=⟨ok.vl,ok.tr,ok.hi,ok.hl,ok.ph,ok.wl,ok.ll,ok.wb,ok.wt,ok.lr,ok.ln,ok.lb,ok.hd,ok.rs⟩
theorem Ok.DE{S:Sv}{m:Nat}(ok:S.Ok m)(x:Bool):({ S with bad:=x }:Sv).Ok m:=⟨ok.vl,ok.tr,ok.hi,ok.hl,ok.ph,ok.wl,ok.ll,ok.wb,ok.wt,ok.lr,ok.ln,ok.lb,ok.hd,ok.rs⟩
theorem Ok.bQ{S:Sv}{m:Nat}(ok:S.Ok m){l:List Int}(h0:0<l.length)(h1:l.length<=1048576)(hl:∀x∈l,x≠0/\ -(S.vars:Int)<=x/\x<=S.vars)(hr:S.list.length<2199023255552):(S.bQ l).Ok m:=by
 unfold Sv.bQ;split
 ·exact ok.put ⟨by omega,by omega⟩
 ·rename_i h2;have hf:S.Fits l:=⟨by omega,h1,hl⟩
  have J:=ok.attach hf true hr;have h4:=du S l true;exact(J.put (x:=l[0]!) (r:=(S.list.length:Int)+1) ⟨by omega,by rw[h4.2.2.1];omega⟩).MN _
end Sv
theorem aO.TX{L L' M:aO}{A:Option Addr}{w w':World}(h:L.ext M w)(ha:L'.a=M.a)(hi:L'.id=M.id)(hk:∀k,k<w'.heap.size->(L'.dh k).1=M.id->(M.dh k).1=M.id\/k∈ao A)(hz:w.heap.size<=w'.heap.size)(J:∀k,k∈ao A->w.heap.size<=k):L.ext L' w:=
 ⟨ha.trans h.1,hi.trans h.2.1,fun k hl e=>by
  rcases hk k (aS hl hz) (e.trans h.2.1.symm)with h1 |h1
  ·exact h.2.2 k hl (h1.trans h.2.1)
  ·have :=J k h1;omega⟩
theorem aO.DT{L M:aO}{A:Option Addr}{w w' AB:World}(h:L.ext M w)(h1:Fr (L.own w) w w')(h2:Fr (ao A++M.own w') w' AB)(hA:∀k,k∈ao A->w.heap.size<=k):Fr (L.own w) w AB:=
 h1.trans h2 fun x J=>by
  rcases ah.1 J with J |J
  ·exact .inr (hA x J)
  ·rw[aO.cj]at J;rcases bN x w.heap.size with hl |hl
   ·left
    rw[aO.cj];exact⟨hl,h.2.2 x hl (J.2.trans h.2.1)⟩
   ·exact .inr hl
theorem FT(b:Nat):((b:Int).tdiv 16)=((b/16:Nat):Int):=by rw[Int.tdiv_eq_ediv_of_nonneg (by omega)];rfl
theorem z7(w:World)(L:aO)(S:Sv)(h:bh w L S)(m:Nat)(ok:S.Ok m)(n:Nat)(hn:n<S.list.length)(nV:S.list.length<2199023255552)(hu:S.used<=2199023255552)(bG:S.bump<=1073741824)(b6:S.many<4611686018427387904)(Bh: -4611686018427387904<S.many)(Jg:S.T.levels.length<=8796093022208)(S':Sv)(b:Bool)(gz:S.conflict n=some (S',b)):
  Calls Tryz.prog 107 #[.pointer (some ⟨L.a,0,none⟩), .int .i64 n] w (pB (.bool b) S' L w):=by
 have HH:=ae h;have lh:=ae ok;obtain⟨c0,-⟩:=h.cells;have KD:=ae (m9 w L.tL S.T h.tr);unfold Sv.conflict at gz;by_cases hz:S.T.levels.length=0
 ·rw[qai hz]at gz;simp only[Option.some.injEq,Prod.mk.injEq]at gz;obtain⟨rfl,rfl⟩:=gz;rw[hz]at KD;have wY:=h.obj.frozen 13;have Ae:=h.cells.2.2.2.2.2.2.2.2.2.2.2.2.2.1;obtain⟨g1,g2⟩:=h.qj 13 (.bool true) { S with bad:=true } (by simp[qm]) ⟨rfl,rfl,rfl,rfl,rfl,rfl,rfl⟩;have FF:aj (pB (.bool false) { S with bad:=true } L w (.returned (.bool false)) (w.setCell ⟨L.a,13,none⟩ (.bool true))):=⟨rfl,L,g1,aO.cw _ _,g2⟩
  clear h ok g1 g2 hz;go_enter Tryz.func107,Tryz.ntmps107;go_wp2_with fail;refine KD.o.mono ?_;rintro e w1 ⟨rfl,rfl⟩;clear KD;go_wp2;go_ret;exact FF.o
 ·rw[qah hz]at gz;have hd:((S.T.levels.length:Int)==(0:Int))=false:=by rw[aab];omega
  cases hq:S.iN n with
  |none=>rw[hq]at gz;cases gz
  |some q=>
   obtain⟨S1,l,db⟩:=q;rw[hq]at gz;simp only[Option.some.injEq,Prod.mk.injEq]at gz;obtain⟨rfl,rfl⟩:=gz;have bt:=ae (Ba w L S h m ok n hn S1 l db hq);obtain⟨xB,eT,eV,eL,eU,l0,l1,lr,b4,b3⟩:=Sv.jI ok hq;obtain⟨lv,rfl⟩:∃lv:Nat,db=lv:=⟨db.toNat,by omega⟩
   have oD:lv<=8796093022208:=by omega
   have UI:=ae xB;have rY:=ae lr;have lP:=ok.vl;obtain⟨bo,a1,ZM⟩:=xB.back lv;have Yw:=ae bo;obtain⟨S2,QZ⟩:∃S2,S1.back lv=S2:=⟨_,rfl⟩
   have hx:=Sv.P6 S1 lv;rw[QZ]at bo a1 ZM Yw hx;have b2:=ae QZ;have kZ:S2.bump=S.bump/\S2.many=S.many/\S2.used=S.used:=⟨hx.1.trans (Sv.ug hq).1,hx.2.1.trans (Sv.ug hq).2,hx.2.2.trans eU⟩
   obtain⟨Ht,pI,GS⟩:=kZ;have Ha:S2.list.length=S.list.length:=by rw[ZM];exact eL
   have Zh:S2.vars=S.vars:=a1.trans eV;have ad:=ae Zh;have UR:=ae Ha;have Vx:=ae GS;have rK:=ae nV;have HU:=ae hu;have gd:aj (((S1.back ((lv:Int).toNat)).bQ l).cZ=(S2.bQ l).cZ):=by show _=_;rw[Int.toNat_natCast,QZ]
   rw[gd.o];clear h ok hz hq xB lr bo QZ eT eV eL eU a1 ZM hx hn Ha Zh GS nV hu b4 b3;go_enter Tryz.func107,Tryz.ntmps107;go_wp2_with fail;refine KD.o.mono ?_;rintro e w1 ⟨rfl,rfl⟩;clear KD c0;go_wp2_with fail;refine bt.o.mono ?_;clear bt hd;rintro e w1 ⟨A,c,rfl,L1,h1,yo,Vm,bB,di⟩;have H1:=ae h1;have fH:=ae yo;have Oc:=ae Vm;have ar:=ae bB;have dZ:=ae di;clear h1 yo Vm bB di;have KB:=ae (py w1 L1 S1 H1.o m UI.o lv (by omega));rw[fH.o.1,b2.o]at KB;go_wp2_with fail;refine KB.o.mono ?_;clear KB;rintro e w2 ⟨rfl,L2,h2,jZ,cE⟩;have H2:=ae h2;have dR:=ae (aO.a6 fH.o jZ dZ.o.size);have df:=ae (aO.aQ fH.o dZ.o cE);have mi:aj (Ints w2 A c l):=Oc.o.fr cE (fun k hk hm=>(ar.o k hk).2 (aO.cj.1 hm).2);have Mx:aj (∀k,k∈ao A->w.heap.size<=k/\(L2.dh k).1≠L2.id):=fun k hk=>⟨(ar.o k hk).1,fun e=>(ar.o k hk).2 (jZ.2.2 k (Oc.o.lt k hk) (e.trans jZ.2.1))⟩
   clear h2 jZ cE Oc ar H1 fH dZ UI;obtain⟨ga,rB,wX⟩:=mi.o.pos l0;subst rB;have s0:=H2.o.cells.1;rw[dR.o.1]at s0;have s1:=mi.o.cell l0;obtain⟨y,hy⟩:∃y,l[0]! =y:=⟨_,rfl⟩
   rw[hy]at s1;have Vg:=rY.o y (by rw[<-hy];exact get_mem l0);obtain⟨lf,iO,ld⟩:=Vg;have HY:=ae hy;have vZ:=ae s0;have pX:=ae s1;clear wX hy s0 s1;by_cases zx:l.length=1
   ·have Fs:((l.length:Int)==(1:Int))=true:=by simp[zx]
    have CU:aj (S2.bQ l=S2.put y 0):=by show _=_;unfold Sv.bQ;rw[qai zx,HY.o]
    have KP:=ae (fun W (hW:Fr [] w2 W)=>ol W L2 S2 (H2.o.keep hW) m Yw.o y 0 (by rw[ad.o];exact iO) (by rw[ad.o];exact ld));go_wp2_with fail;go_upto_region 7 with fail;refine qan ?_;refine bw (fun w':World=>Fr [] w2 w') 7 (by kernel_rfl) ((Fr.refl [] w2).drew) (fun dy=> ?_);refine oI 7 [(0,[]),(1,[]),(2,[]),(3,[3,7]),(4,[]),(5,[]),(6,[6,7])] dy (fun w bT=>And.intro (bT.aF vZ.o) (bT.aF pX.o)) ?_;intro dy;refine R2 7 dy fun K hK aM=> ?_
    (go_simp;refine(KP.o _ aM).mono ?_;rintro e w5 ⟨⟨x5,rfl⟩,L5,h5,yn,fT⟩;dsimp only)
    refine hK.out _ _ (.inl rfl) (fun Lo=> ?_);clear hK K;try simp only[Act.put,q5,q6,q7]
    refine fO ?_;clear KP;have pW:aj (L.ext L5 w):=aO.a6 dR.o yn (aE df.o.size aM.size);have js:aj (Fr (L.own w) w w5):=aO.aQ dR.o (df.o.ak (aM.mono (fun k hk=>by cases hk))) fT;have H5:=ae h5;clear h5 yn fT;obtain⟨S6,Bt⟩:∃S6,S2.put y 0=S6:=⟨_,rfl⟩
    rw[Bt]at H5;have Q7:aj (S6=S2.bQ l):=by rw[CU.o];exact Bt.symm
    have bg:S6.bump=S2.bump:=by rw[<-Bt];rfl
    have H6:=H5;have fC:=js;clear Bt;go_wp2_with fail;obtain⟨-,-,-,-,-,-,-,-,-,-,Ug,-⟩:=H6.o.cells;rw[pW.o.1]at Ug;have f10:=H6.o.obj.frozen 10;rw[pW.o.1]at f10;have Ln:S6.bump=S.bump:=bg.trans Ht;rw[Ln]at Ug;obtain⟨J,Bo⟩:∃J,S.bump=J:=⟨_,rfl⟩
    rw[Bo]at Ug bG;have VK:=ae (Ln.trans Bo);have nU:=FT J;have WH:IntKind.i64.wrap ((J:Int)+((J/16:Nat):Int))=(J:Int)+((J/16:Nat):Int):=IntWalk.i64_in _ (by omega);have Fl:IntKind.i64.wrap ((J:Int)+((J/16:Nat):Int)+1)=(J:Int)+((J/16:Nat):Int)+1:=IntWalk.i64_in _ (by omega);clear Ln Bo nU;rcases bN 1073741824 (J+J/16+1)with ab |ab
    ·have bj:(1073741824:Int)<(J:Int)+((J/16:Nat):Int)+1:=(by omega)
     have Ay:aj (min (J+J/16+1) 1073741824=1073741824):=Nat.min_eq_right (by omega);clear ab;go_upto_region 10 with fail;go_region;obtain⟨g7,f7⟩:=H6.o.qj 10 (.int .i64 ((1073741824:Nat):Int)) { S6 with bump:=1073741824 } (by simp[qm]) ⟨rfl,rfl,rfl,rfl,rfl,rfl,rfl⟩;rw[pW.o.1]at g7 f7;have h8:=g7.keep (Fr.refl [] _).drew;have zB:({ S6 with bump:=1073741824 }:Sv)=(S2.bQ l).cZ:=by rw[<-Q7.o];unfold Sv.cZ;rw[VK.o,Ay.o]
     rw[zB]at h8;have FF:aj (pB (.bool true) (S2.bQ l).cZ L w (.returned (.bool true)) _):=⟨rfl,L5,h8,pW.o,(aO.aQ pW.o fC.o f7).drew⟩
     clear h8 f7 g7 zB Ug f10 WH Fl;go_wp2;go_ret;exact FF.o
    ·have bj:(J:Int)+((J/16:Nat):Int)+1<=(1073741824:Int):=(by omega)
     have Ay:aj (min (J+J/16+1) 1073741824=J+J/16+1):=li (by omega);have Mt:aj ((J:Int)+(J:Int)/16+1=((J+J/16+1:Nat):Int)):=by show _=_;omega
     clear ab;go_upto_region 10 with fail;go_region;rw[Mt.o];obtain⟨g7,f7⟩:=H6.o.qj 10 (.int .i64 (((J+J/16+1):Nat):Int)) { S6 with bump:=(J+J/16+1) } (by simp[qm]) ⟨rfl,rfl,rfl,rfl,rfl,rfl,rfl⟩;rw[pW.o.1]at g7 f7;have h8:=g7.keep (Fr.refl [] _).drew;have zB:({ S6 with bump:=(J+J/16+1) }:Sv)=(S2.bQ l).cZ:=by rw[<-Q7.o];unfold Sv.cZ;rw[VK.o,Ay.o]
     rw[zB]at h8;have FF:aj (pB (.bool true) (S2.bQ l).cZ L w (.returned (.bool true)) _):=⟨rfl,L5,h8,pW.o,(aO.aQ pW.o fC.o f7).drew⟩
     clear h8 f7 g7 zB Ug f10 WH Fl;go_wp2;go_ret;exact FF.o
   ·have Fs:((l.length:Int)==(1:Int))=false:=by rw[aab];omega
    have Mn:aj (S2.Fits l):=⟨by omega,l1,fun x hx=>by rw[ad.o];exact rY.o x hx⟩
    obtain⟨nl,rz⟩:∃nl,S2.list.length=nl:=⟨_,rfl⟩
    have VE:=ae rz;have b9:nl<2199023255552:=by rw[<-rz,UR.o];exact rK.o
    have CU:aj (S2.bQ l={ ((S2.attach l true).put y ((nl:Int)+1))with many:=S2.many+1 }):=by show _=_;unfold Sv.bQ;rw[qah zx,HY.o,VE.o]
    have aT:=ae (fun W (hW:Fr [] w2 W)=>uH W L2 S2 (H2.o.keep hW) m Yw.o (some ⟨ga,0,none⟩) c l true (mi.o.fY hW) Mn.o (fun k hk=>(Mx.o k hk).2) (by rw[UR.o];exact rK.o) (by rw[Vx.o];exact HU.o));rw[dR.o.1,rz]at aT;have b5:=ae (Yw.o.attach Mn.o true (by rw[UR.o];exact rK.o));have j4:=Sv.du S2 l true;have CZ:=ae j4;have ca:IntKind.i64.wrap ((nl:Int)+1)=(nl:Int)+1:=IntWalk.i64_in _ (by omega);clear j4 rz;go_wp2_with fail;go_upto_region 8 with fail;refine qan ?_;refine bw (fun w':World=>w'.cell? ⟨L.a,0,none⟩=some (.pointer (some ⟨L2.tL.a,0,none⟩))/\w'.cell? ⟨ga,0,none⟩=some (.int .i64 y)) 11 (by kernel_rfl) (⟨vZ.o,pX.o⟩) (fun dy=> ?_);refine oI 9 [(0,[]),(1,[]),(2,[]),(3,[3,11]),(4,[]),(5,[]),(6,[6,11]),(7,[]),(8,[])] dy (fun w bT=>And.intro (bT.1) (bT.2)) ?_;intro dy;refine R2 9 dy fun K hK aM=> ?_
    (go_simp;refine(aT.o _ (Fr.refl [] w2).drew).mono ?_;rintro e w4 ⟨rfl,L4,h4,ba,u0,bI,fG,bS,aK⟩;have b0:=h4.cells.1;rw[ba,dR.o.1,aK]at b0;have b1:=bS.cell l0;rw[HY.o]at b1;have H4:=ae h4;have yD:aj (L.ext L4 w):=aO.TX dR.o ba u0 bI df.o.size (fun k hk=>(Mx.o k hk).1);have ic:aj (Fr (L.own w) w w4):=aO.DT dR.o df.o.drew fG (fun k hk=>(Mx.o k hk).1);have b7:=ae aK;have KP:=ae (ol w4 L4 (S2.attach l true) h4 m b5.o y ((nl:Int)+1) (by rw[CZ.o.2.1,ad.o];exact iO) (by rw[CZ.o.2.1,ad.o];exact ld));rw[aK]at KP;clear h4 ba u0 bI fG bS aK;dsimp only)
    refine hK.out _ _ (.inr ?_) (fun kG=> ?_)
    ·first |exact⟨b0,b1⟩ |exact aM
    clear hK K;try simp only[Act.put,q5,q6,q7]
    refine TB 1 [(10,[])] kG ?_;intro kG;refine R2 11 kG fun K hK aM=> ?_
    (go_simp;refine KP.o.mono ?_;rintro e w5 ⟨⟨x5,rfl⟩,L5,h5,yn,fT⟩;dsimp only)
    refine hK.out _ _ (.inl rfl) (fun jO=> ?_);clear hK K;try simp only[Act.put,q5,q6,q7]
    refine fO ?_;clear KP aT;have pW:aj (L.ext L5 w):=aO.a6 yD.o yn ic.o.size;have js:aj (Fr (L.own w) w w5):=aO.aQ yD.o ic.o fT;have H5:=ae h5;clear h5 yn fT;obtain⟨-,-,-,-,-,-,-,-,-,-,-,aB,-⟩:=H5.o.cells;rw[pW.o.1]at aB;have f11:=H5.o.obj.frozen 11;rw[pW.o.1]at f11;have bO:((S2.attach l true).put y ((nl:Int)+1)).many=S.many:=pI;rw[bO]at aB;obtain⟨mm,Eo⟩:∃mm,S.many=mm:=⟨_,rfl⟩
    rw[Eo]at aB b6 Bh;have xG:IntKind.i64.wrap (mm+1)=mm+1:=IntWalk.i64_in _ (by omega);obtain⟨g6,f6⟩:=H5.o.qj 11 (.int .i64 (mm+1)) { ((S2.attach l true).put y ((nl:Int)+1))with many:=mm+1 } (by simp[qm]) ⟨rfl,rfl,rfl,rfl,rfl,rfl,rfl⟩;rw[pW.o.1]at g6 f6;obtain⟨S6,Bt⟩:∃S6,({ ((S2.attach l true).put y ((nl:Int)+1))with many:=mm+1 }:Sv)=S6:=⟨_,rfl⟩
    have Q7:aj (S6=S2.bQ l):=by rw[CU.o,pI,Eo];exact Bt.symm
    have bg:S6.bump=S2.bump:=by rw[<-Bt];rfl
    rw[Bt]at g6;clear Bt bO;go_upto_region 9 with fail;go_wp2_with fail;obtain⟨w6,Bc⟩:∃w6,w5.setCell ⟨L.a,11,none⟩ (.int .i64 (mm+1))=w6:=⟨_,rfl⟩
    rw[Bc]at g6 f6⊢;have H6:=ae g6;have fC:=ae (aO.aQ pW.o js.o f6);clear Bc g6 f6 aB f11 xG Eo;obtain⟨-,-,-,-,-,-,-,-,-,-,Ug,-⟩:=H6.o.cells;rw[pW.o.1]at Ug;have f10:=H6.o.obj.frozen 10;rw[pW.o.1]at f10;have Ln:S6.bump=S.bump:=bg.trans Ht;rw[Ln]at Ug;obtain⟨J,Bo⟩:∃J,S.bump=J:=⟨_,rfl⟩
    rw[Bo]at Ug bG;have VK:=ae (Ln.trans Bo);have nU:=FT J;have WH:IntKind.i64.wrap ((J:Int)+((J/16:Nat):Int))=(J:Int)+((J/16:Nat):Int):=IntWalk.i64_in _ (by omega);have Fl:IntKind.i64.wrap ((J:Int)+((J/16:Nat):Int)+1)=(J:Int)+((J/16:Nat):Int)+1:=IntWalk.i64_in _ (by omega);clear Ln Bo nU;rcases bN 1073741824 (J+J/16+1)with ab |ab
    ·have bj:(1073741824:Int)<(J:Int)+((J/16:Nat):Int)+1:=(by omega)
     have Ay:aj (min (J+J/16+1) 1073741824=1073741824):=Nat.min_eq_right (by omega);clear ab;go_upto_region 10 with fail;go_region;obtain⟨g7,f7⟩:=H6.o.qj 10 (.int .i64 ((1073741824:Nat):Int)) { S6 with bump:=1073741824 } (by simp[qm]) ⟨rfl,rfl,rfl,rfl,rfl,rfl,rfl⟩;rw[pW.o.1]at g7 f7;have h8:=g7.keep (Fr.refl [] _).drew;have zB:({ S6 with bump:=1073741824 }:Sv)=(S2.bQ l).cZ:=by rw[<-Q7.o];unfold Sv.cZ;rw[VK.o,Ay.o]
     rw[zB]at h8;have FF:aj (pB (.bool true) (S2.bQ l).cZ L w (.returned (.bool true)) _):=⟨rfl,L5,h8,pW.o,(aO.aQ pW.o fC.o f7).drew⟩
     clear h8 f7 g7 zB Ug f10 WH Fl;go_wp2;go_ret;exact FF.o
    ·have bj:(J:Int)+((J/16:Nat):Int)+1<=(1073741824:Int):=(by omega)
     have Ay:aj (min (J+J/16+1) 1073741824=J+J/16+1):=li (by omega);have Mt:aj ((J:Int)+(J:Int)/16+1=((J+J/16+1:Nat):Int)):=by show _=_;omega
     clear ab;go_upto_region 10 with fail;go_region;rw[Mt.o];obtain⟨g7,f7⟩:=H6.o.qj 10 (.int .i64 (((J+J/16+1):Nat):Int)) { S6 with bump:=(J+J/16+1) } (by simp[qm]) ⟨rfl,rfl,rfl,rfl,rfl,rfl,rfl⟩;rw[pW.o.1]at g7 f7;have h8:=g7.keep (Fr.refl [] _).drew;have zB:({ S6 with bump:=(J+J/16+1) }:Sv)=(S2.bQ l).cZ:=by rw[<-Q7.o];unfold Sv.cZ;rw[VK.o,Ay.o]
     rw[zB]at h8;have FF:aj (pB (.bool true) (S2.bQ l).cZ L w (.returned (.bool true)) _):=⟨rfl,L5,h8,pW.o,(aO.aQ pW.o fC.o f7).drew⟩
     clear h8 f7 g7 zB Ug f10 WH Fl;go_wp2;go_ret;exact FF.o
namespace Sv
def Qc(S S':Sv):Prop:=∃D:List Nat,D.Nodup/\(∀n∈D,n∈S.De)/\D.length=S.De.length/2/\S'=D.foldl cU S
structure Small(S:Sv):Prop where
 list:S.list.length<2199023255552
 used:S.used<2199023255552
 bump:S.bump<=1073741824
 M5: -1152921504606846976<=S.many
 many1:S.many<=1152921504606846976
 lim:S.cv<=2199023255552
 db:S.T.levels.length<=4398046511104
 core:S.core=[]
def gT(S:Sv):Sv:={ S with cv:=S.cv+(S.cv/16+1) }
def yM(red:Bool)(S:Sv)(K:Sv->Prop):Prop:=
 if(S.cv:Int)<S.many then(if red=true then ∀S',Qc S S'->K S'.gT else False)else K S
def LJ(budget:Int)(n:Nat)(Q:Sv->Int->Prop)(K:Sv->Prop):Option (Sv×Bool)->Prop
 |none=>False
 |some (S2,false)=>Q S2 2
 |some (S2,true)=>if budget<(n+1:Nat)then Q S2 0 else K S2
def cW(S:Sv):Sv:={ S with used:=S.used+1 }
def gN(red:Bool)(budget:Int)(us:List Int)(Q:Sv->Int->Prop)(K:Nat->Nat->Sv->Prop):Nat->Nat->Nat->Sv->Prop
 |0,_,_,_=>False
 |d+1,next,n,S=>
  S.Small/\n<2199023255552/\next <4398046511104/\
  match S.follow.2 with
  |some c=>LJ budget n Q (K next (n+1)) (S.follow.1.cW.conflict c)
  |none=>yM red (S.follow.1.dH n next) fun J=>
    if(J.aP us).2=0 then gN red budget us Q K d (if next <=n then n+64 else next) n (J.aP us).1 else Q (J.aP us).1 (J.aP us).2
def ev(red:Bool)(budget:Int)(us:List Int)(Q:Sv->Int->Prop)(D:Nat):Nat->Nat->Nat->Sv->Prop
 |0,_,_,_=>False
 |c+1,next,n,S=>gN red budget us Q (ev red budget us Q D c) D next n S
theorem MB{S:Sv}{n:Nat}(h:n∈S.De):n<S.list.length/\(S.rc n).nI=true/\2<(S.rc n).lits.length/\S.locked n=false:=by unfold De at h;rw[gh,bl]at h;obtain⟨h1,J⟩:=h;simp only[ax,qam,i8]at J;exact⟨h1,J.1.1,J.1.2,J.2⟩
theorem jb(S:Sv)(n j:Nat):(S.cU n).rc j=if n=j/\n<S.list.length then⟨[],false,(S.rc n).act⟩else S.rc j:=eQ _ _ _ _
theorem Ok.cU{S:Sv}{m:Nat}(ok:S.Ok m)(n:Nat):(S.cU n).Ok m:=by
 have el:(S.cU n).list.length=S.list.length:=by simp[Sv.cU]
 refine⟨ok.vl,ok.tr,ok.hi,ok.hl,ok.ph,ok.wl,by rw[el];exact ok.ll,fun c k hk=>by rw[el];exact ok.wb c k hk,by rw[el];exact ok.wt,fun j x J=> ?_,fun j=> ?_,fun j=> ?_,ok.hd,fun v=>by rw[el];exact ok.rs v⟩
 ·rw[jb]at J;split at J
  ·simp at J
  ·exact ok.lr j x J
 ·rw[jb];split
  ·simp
  ·exact ok.ln j
 ·rw[jb];split
  ·simp
  ·exact ok.lb j
theorem Ok.T4{m:Nat}:∀(D:List Nat)(S:Sv),S.Ok m->(D.foldl Sv.cU S).Ok m
 |[],S,ok=>ok
 |n::r,S,ok=>Ok.T4 r _ (ok.cU n)
theorem mL:∀(D:List Nat)(S:Sv),(D.foldl cU S).T=S.T/\(D.foldl cU S).vars=S.vars/\(D.foldl cU S).list.length=S.list.length/\(D.foldl cU S).core=S.core/\(D.foldl cU S).cv=S.cv/\(D.foldl cU S).many=S.many-D.length
 |[],S=>⟨rfl,rfl,rfl,rfl,rfl,by simp⟩
 |n::r,S=>by have h:=mL r (S.cU n);refine⟨h.1,h.2.1,h.2.2.1.trans (by simp[cU]),h.2.2.2.1,h.2.2.2.2.1,h.2.2.2.2.2.trans ?_⟩;simp only[b8,cU];omega
theorem Ok.gT{S:Sv}{m:Nat}(ok:S.Ok m):S.gT.Ok m:=⟨ok.vl,ok.tr,ok.hi,ok.hl,ok.ph,ok.wl,ok.ll,ok.wb,ok.wt,ok.lr,ok.ln,ok.lb,ok.hd,ok.rs⟩
theorem Ok.cW{S:Sv}{m:Nat}(ok:S.Ok m):S.cW.Ok m:=⟨ok.vl,ok.tr,ok.hi,ok.hl,ok.ph,ok.wl,ok.ll,ok.wb,ok.wt,ok.lr,ok.ln,ok.lb,ok.hd,ok.rs⟩
theorem Ok.dH{S:Sv}{m:Nat}(ok:S.Ok m)(n next :Nat):(S.dH n next).Ok m:=by
 unfold Sv.dH;split
 ·exact(ok.back 0).1
 ·exact ok
theorem ww{S:Sv}{m:Nat}(ok:S.Ok m)(n next :Nat):(S.dH n next).vars=S.vars/\(S.dH n next).list=S.list/\(S.dH n next).core=S.core/\(S.dH n next).many=S.many/\(S.dH n next).cv=S.cv/\(S.dH n next).T.levels.length<=S.T.levels.length:=by
 unfold Sv.dH;split
 ·have h:=mh S 0;have J:=ok.back 0;exact⟨J.2.1,J.2.2,h.1,h.2.2.1,h.2.2.2.1,h.2.2.2.2.2.1⟩
 ·exact⟨rfl,rfl,rfl,rfl,rfl,aq _⟩
theorem Ok.conflict{S:Sv}(ok:S.Ok 0)(hl:S.list.length<2199023255552){n:Nat}{S':Sv}{b:Bool}(h:S.conflict n=some (S',b)):S'.Ok 0/\S'.vars=S.vars:=by
 unfold Sv.conflict at h;split at h
 ·simp only[Option.some.injEq,Prod.mk.injEq]at h;obtain⟨rfl,rfl⟩:=h;exact⟨ok.DE true,rfl⟩
 ·cases hq:S.iN n with
  |none=>rw[hq]at h;cases h
  |some q=>
   obtain⟨J,l,db⟩:=q;rw[hq]at h;simp only[Option.some.injEq,Prod.mk.injEq]at h;obtain⟨rfl,rfl⟩:=h;obtain⟨xB,eT,eV,eL,eU,l0,l1,lr,aB,ar⟩:=jI ok hq;obtain⟨ad,ab,ZM⟩:=xB.back db.toNat;have e2:(J.back db.toNat).vars=S.vars:=ab.trans eV;have nV:(J.back db.toNat).list.length<2199023255552:=by rw[ZM,eL];exact hl
   refine⟨(ad.bQ l0 l1 (by rw[e2];exact lr) nV).cZ,?_⟩;show((J.back db.toNat).bQ l).vars=_;rw[<-e2];unfold Sv.bQ;split
   ·rfl
   ·exact(du _ l true).2.1
end Sv
def IM:Prop:=∀(w:World)(L:aO)(S:Sv),bh w L S->S.Ok 0-> -1152921504606846976<=S.many->S.many<=1152921504606846976->
 Calls Tryz.prog 108 #[.pointer (some ⟨L.a,0,none⟩)] w fun e w'=>∃S',Sv.Qc S S'/\pB (.tuple #[]) S' L w e w'
def IJ(Q:Sv->Int->Prop)(L:aO)(w:World)(e:Ending)(w':World):Prop:=∃(S':Sv)(r:Int),Q S' r/\S'.Ok 0/\pB (.int .i64 r) S' L w e w'
theorem tP(red:Bool)(LS:red=true->IM)(w:World)(L:aO)(S:Sv)(h:bh w L S)(ok:S.Ok 0)(A:Option Addr)(c:Nat)(us:List Int)(sP:IP w L A us)(Jb:∀x∈us,-(S.vars:Int)<=x/\x<=S.vars)(Be:us.length<=1099511627776)(budget:Int)(Q:Sv->Int->Prop)(D C:Nat)(hW:Sv.ev red budget us Q D C 64 0 S):
  Calls Tryz.prog 76 #[.pointer (some ⟨L.a,0,none⟩), .int .i64 budget, .slice A us.length c] w (IJ Q L w):=by
 have HH:=ae h;have lh:=ae ok;have VA:=ae sP;have Vx:=ae Jb;have b0:=ae LS;obtain⟨C0,rfl⟩:∃C0,C=C0+1:=⟨C-1,by
  rcases C with _ |C
  ·exact absurd hW (by simp[Sv.ev])
  ·omega⟩
 have ZX:aj (Sv.gN red budget us Q (Sv.ev red budget us Q D C0) D 64 0 S):=hW;clear hW h ok sP Jb LS;go_enter Tryz.func76,Tryz.ntmps76;go_wp2_with fail;go_loopg [7,8] (C0*(D+1)+D) (fun g x7 x8 wr=>∃(c0 d next n:Nat)(S1:Sv)(L1:aO),g=c0*(D+1)+d/\x7= .int .i64 next /\x8= .int .i64 n/\aj (Sv.gN red budget us Q (Sv.ev red budget us Q D c0) d next n S1)/\aj (S1.vars=S.vars)/\aj (S1.Ok 0)/\aj (bh wr L1 S1)/\aj (L.ext L1 w)/\aj (Fr (L.own w) w wr));case atStart=>exact⟨C0,D,64,0,S,L,rfl,rfl,rfl,ZX.o,rfl,lh.o,HH.o,aO.cw _ _,Fr.refl _ _⟩
 case round=>
  obtain⟨c0,d,next,n,S1,L1,hg,rfl,rfl,HW,Yo,lZ,H1,fH,dZ⟩:=hrel;obtain⟨d,rfl⟩:∃d',d=d'+1:=⟨d-1,by
   rcases d with _ |d
   ·exact absurd HW.o (by simp[Sv.gN])
   ·omega⟩
  have HG:=ae hg;have hw:=HW.o;rw[Sv.gN]at hw;obtain⟨AE,hn,cp,hw⟩:=hw;have KF:=ae (EG wr L1 S1 H1.o lZ.o);rw[fH.o.1]at KF;have Nv:=lZ.o.follow;obtain⟨SF,b4⟩:∃SF,S1.follow.1=SF:=⟨_,rfl⟩
  obtain⟨oc,b5⟩:∃oc,S1.follow.2=oc:=⟨_,rfl⟩
  rw[b4,b5]at hw Nv KF;obtain⟨b3,Ew,ba⟩:=Nv;have sB:=ae AE;have b1:SF.vars=S.vars:=(aaa (fun x=>x.2.1) Ew).trans Yo.o;have iT:SF.core=[]:=(aaa (fun x=>x.2.2.2.2.1) Ew).trans AE.core;have GS:SF.used=S1.used:=aaa (fun x=>x.2.2.2.2.2.1) Ew;have Ht:SF.bump=S1.bump:=aaa (fun x=>x.2.2.2.2.2.2.1) Ew;have pI:SF.many=S1.many:=aaa (fun x=>x.2.2.2.2.2.2.2.1) Ew;have rQ:SF.cv=S1.cv:=aaa (fun x=>x.2.2.2.2.2.2.2.2.1) Ew;have Kz:SF.T.levels=S1.T.levels:=aaa (fun x=>x.2.2.2.2.2.2.2.2.2.2.2.1) Ew;have bo:SF.list.length=S1.list.length:=aaa (fun x=>x.2.2.2.2.2.2.2.2.2.2.2.2) Ew;have ab:=ae b3;have ZY:=ae b1;have bS:=ae iT;have cb:=ae bo;have YD:aj (SF.T.levels.length<=4398046511104):=by show _<=_;rw[Kz];exact AE.db
  have bT:aj (SF.list.length<2199023255552):=by show _<_;rw[bo];exact AE.list
  have b9:=AE.used;have b2:=AE.bump;have bj:=AE.M5;have bg:=AE.many1;have bb:=AE.lim;rw[<-GS]at b9;rw[<-Ht]at b2;rw[<-pI]at bj bg;rw[<-rQ]at bb;clear hg HW b4 b5 b3 Ew b1 iT GS Ht pI rQ Kz bo AE;go_wp2_with fail;refine KF.o.mono ?_;clear KF;rintro e w2 ⟨rfl,L2,h2,jZ,cE⟩;have H2:=ae h2;have dR:=ae (aO.a6 fH.o jZ dZ.o.size);have df:=ae (aO.aQ fH.o dZ.o cE);clear h2 jZ cE H1 fH dZ;cases oc with
  |some cf=>
   have cc:=ba cf rfl;have QX:cf<SF.list.length:=by rw[cb.o];exact cc
   have vY:aj (zK (some cf)=(cf:Int)):=rfl;rw[vY.o];have Bg:(0:Int)<=(cf:Int):=by omega
   have ch:IntKind.i64.wrap ((n:Int)+1)=(n:Int)+1:=IntWalk.i64_in _ (by omega);have cn:IntKind.i64.wrap ((SF.used:Int)+1)=(SF.used:Int)+1:=IntWalk.i64_in _ (by omega);obtain⟨-,-,-,-,-,-,-,-,-,c9,-⟩:=H2.o.cells;rw[dR.o.1]at c9;have f9:=H2.o.obj.frozen 9;rw[dR.o.1]at f9;obtain⟨g3,f3⟩:=H2.o.qj 9 (.int .i64 ((SF.used:Int)+1)) SF.cW (by simp[qm,Sv.cW]) ⟨rfl,rfl,rfl,rfl,rfl,rfl,rfl⟩;rw[dR.o.1]at g3 f3;have HQ:=ae hw;clear hw ba;go_upto_region 7 with fail;obtain⟨w3,ow⟩:∃w3,w2.setCell ⟨L.a,9,none⟩ (.int .i64 ((SF.used:Int)+1))=w3:=⟨_,rfl⟩
   rw[ow]at g3 f3⊢;have H3:=ae g3;have dG:=ae (aO.aQ dR.o df.o f3);clear ow g3 f3 c9 f9 cn;have J:=HQ.o;cases xN:SF.cW.conflict cf with
   |none=>rw[xN]at J;exact absurd J (by simp[Sv.LJ])
   |some q=>
    obtain⟨S4,b⟩:=q;rw[xN]at J;have KC:=ae (z7 w3 L2 SF.cW H3.o 0 ab.o.cW cf QX bT.o (by show SF.used+1<=_;omega) b2 (by show SF.many<_;omega) (by show _<SF.many;omega) (by have :=YD.o;show SF.T.levels.length<=_;omega) S4 b xN);rw[dR.o.1]at KC;have bO:=ab.o.cW.conflict bT.o xN;have aT:=ae bO.1;have b7:aj (S4.vars=S.vars):=bO.2.trans ZY.o;clear xN bO;go_wp2_with fail;refine KC.o.mono ?_;clear KC;rintro e w4 ⟨rfl,L4,h4,ZA,fG⟩;have H4:=ae h4;have yD:=ae (aO.a6 dR.o ZA dG.o.size);have ic:=ae (aO.aQ dR.o dG.o fG);clear h4 ZA fG;cases b with
    |false=>
     have FF:aj (IJ Q L w (.returned (.int .i64 2)) w4):=⟨S4,2,J,aT.o,rfl,L4,H4.o,yD.o,ic.o⟩
     clear J;go_wp2;go_ret;exact FF.o
    |true=>
     replace J:if budget<((n+1:Nat):Int)then Q S4 0 else Sv.ev red budget us Q D c0 next (n+1) S4:=J
     by_cases Tv:budget<((n+1:Nat):Int)
     ·rw[qai Tv]at J;have ca:budget<(n:Int)+1:=(by omega)
      have FF:aj (IJ Q L w (.returned (.int .i64 0)) w4):=⟨S4,0,J,aT.o,rfl,L4,H4.o,yD.o,ic.o⟩
      clear J Tv;go_wp2;go_ret;exact FF.o
     ·rw[qah Tv]at J;have ca:(n:Int)+1<=budget:=(by omega)
      have vW:=ae J;obtain⟨c1,rfl⟩:∃c1,c0=c1+1:=⟨c0-1,by
       rcases c0 with _ |c0
       ·exact absurd J (by simp[Sv.ev])
       ·omega⟩
      have Z5:aj (Sv.gN red budget us Q (Sv.ev red budget us Q D c1) D next (n+1) S4):=vW.o;clear J Tv;go_wp2;go_roundg (c1*(D+1)+D);case measure=>have :=HG.o;rw[Nat.succ_mul]at this;omega
      case rel=>exact⟨c1,D,next,n+1,S4,L4,rfl,rfl,by go_num,Z5.o,b7.o,aT.o,H4.o,yD.o,ic.o⟩
  |none=>
   have vY:aj (zK none= -1):=rfl;rw[vY.o];have HQ:=ae hw;clear hw ba;by_cases AG:next <=n
   ·have aB:SF.dH n next =SF.back 0:=by unfold Sv.dH;rw[qai AG]
    have xq:aj ((if next <=n then n+64 else next)=n+64):=qai AG;have KB:=ae (py w2 L2 SF H2.o 0 ab.o 0 (by omega));rw[dR.o.1,<-aB]at KB;have ch:IntKind.i64.wrap ((n:Int)+64)=(n:Int)+64:=IntWalk.i64_in _ (by omega);have nY:=ae (Sv.ww ab.o n next);have Qk:=ae (ab.o.dH n next);clear aB;go_wp2_with fail;refine KB.o.mono ?_;clear KB;rintro e w3 ⟨rfl,L3,h3,xL,dN⟩;have H3:=ae h3;have jt:=ae (aO.a6 dR.o xL df.o.size);have dG:=ae (aO.aQ dR.o df.o dN);clear h3 xL dN AG;obtain⟨SR,Cz⟩:∃SR,SF.dH n next =SR:=⟨_,rfl⟩
    rw[Cz]at nY Qk H3;have J:=HQ.o;rw[Cz]at J;simp only[xq.o]at J;unfold Sv.yM at J;obtain⟨-,-,-,-,-,-,-,-,-,-,-,BD,BC,-⟩:=H3.o.cells;rw[jt.o.1]at BD BC;obtain⟨np,bI,fJ,aK,SJ,GU⟩:=nY.o;have GT: -1152921504606846976<=SR.many/\SR.many<=1152921504606846976:=by rw[aK];exact⟨bj,bg⟩
    have SG:SR.cv<=2199023255552:=by rw[SJ];exact bb
    have xo:aj (SR.vars=S.vars):=np.trans ZY.o;have ar:aj (SR.core=[]):=fJ.trans bS.o;have rY:aj (SR.T.levels.length<=4398046511104):=aE GU YD.o;clear Cz np bI fJ aK SJ GU nY HQ;by_cases OX:(SR.cv:Int)<SR.many
    ·rw[qai OX]at J;have rO:red=true:=by
      cases red with
      |true=>rfl
      |false=>simp at J
     rw[qai rO]at J;have Ke:decide ((SR.cv:Int)<SR.many)=true:=qak OX;have HQ:=ae J;have SE:=GT;clear J OX GT;go_wp2;go_region;obtain⟨w4,vE⟩:∃w4,World.drew w3=w4:=⟨_,rfl⟩
     have UY:aj (Fr [] w3 w4):=by rw[<-vE];exact(Fr.refl [] _).drew
     rw[vE];have Uv:=ae (b0.o rO w4 L3 SR (H3.o.keep UY.o) Qk.o SE.1 SE.2);rw[jt.o.1]at Uv;have Jt:aj (Fr (L.own w) w w4):=dG.o.ak (UY.o.mono (fun k hk=>by cases hk));clear vE BD BC Ke;go_wp2_with fail;refine Uv.o.mono ?_;clear Uv;rintro e w5 ⟨S5,GV,rfl,L5,h5,yn,fT⟩;have H5:=ae h5;have pW:=ae (aO.a6 jt.o yn Jt.o.size);have js:=ae (aO.aQ jt.o Jt.o fT);have CT:=ae GV;obtain⟨DD,bt,bB,bG,rfl⟩:=GV;have Px:=Sv.mL DD SR;have Aw:=ae (Sv.Ok.T4 DD SR Qk.o);obtain⟨S5,Bu⟩:∃S5,DD.foldl Sv.cU SR=S5:=⟨_,rfl⟩
     rw[Bu]at Px Aw H5 CT;have a1:aj (S5.vars=S.vars):=Px.2.1.trans xo.o;have VJ:aj (S5.core=[]):=Px.2.2.2.1.trans ar.o;have aM:aj (S5.T.levels.length<=4398046511104):=by show _<=_;rw[Px.1];exact rY.o
     have Vk:S5.cv<=2199023255552:=by rw[Px.2.2.2.2.1];exact SG
     clear h5 yn fT bt bB bG Px Bu;obtain⟨-,-,-,-,-,-,-,-,-,-,-,-,BC,-⟩:=H5.o.cells;rw[pW.o.1]at BC;have f12:=H5.o.obj.frozen 12;rw[pW.o.1]at f12;obtain⟨lm,Po⟩:∃lm,S5.cv=lm:=⟨_,rfl⟩
     rw[Po]at BC Vk;have b6:=ae Po;have WH:IntKind.i64.wrap (((lm/16:Nat):Int)+1)=((lm/16:Nat):Int)+1:=IntWalk.i64_in _ (by omega);have Fl:IntKind.i64.wrap ((lm:Int)+(((lm/16:Nat):Int)+1))=(lm:Int)+(((lm/16:Nat):Int)+1):=IntWalk.i64_in _ (by omega);have Mt:aj ((lm:Int)+((lm:Int)/16+1)=((lm+(lm/16+1):Nat):Int)):=by show _=_;omega
     obtain⟨g6,f6⟩:=H5.o.qj 12 (.int .i64 ((lm+(lm/16+1):Nat):Int)) S5.gT (by simp[qm,Sv.gT,Po]) ⟨rfl,rfl,rfl,rfl,rfl,rfl,rfl⟩;rw[pW.o.1]at g6 f6;have h6:=g6.keep (Fr.refl [] _).drew;have ad:=ae h6;have U1:=ae ((aO.aQ pW.o js.o f6).drew);clear Po g6 f6 h6;go_upto_region 16 with fail;go_region;rw[Mt.o];obtain⟨w6,Bc⟩:∃w6,(w5.setCell ⟨L.a,12,none⟩ (.int .i64 ((lm+(lm/16+1):Nat):Int))).drew=w6:=⟨_,rfl⟩
     rw[Bc]at ad U1⊢;have H6:=ad;have fC:=U1;have sC:=pW;have vX:=ae Aw.o.gT;have LY:aj (S5.gT.vars=S.vars):=a1.o;have Qw:aj (S5.gT.core=[]):=VJ.o;have Mj:aj (S5.gT.T.levels.length<=4398046511104):=aM.o;have HQ:=ae (HQ.o S5 CT.o);obtain⟨S6,Bt⟩:∃S6,S5.gT=S6:=⟨_,rfl⟩
     rw[Bt]at HQ H6 vX LY Qw Mj;clear Bt Bc BC f12 WH Fl;have KD:=ae (lV w6 L5 S6 H6.o 0 vX.o A c us (VA.o.step sC.o fC.o) (fun x hx=>by have :=Vx.o x hx;rw[LY.o];exact this) Be Qw.o Mj.o);rw[sC.o.1]at KD;have Ks:=vX.o.aP us;have xY:=ae Ks.1;have LX:aj ((S6.aP us).1.vars=S.vars):=Ks.2.1.trans LY.o;have J:=HQ.o;obtain⟨DS,TG⟩:∃DS,S6.aP us=DS:=⟨_,rfl⟩
     rw[TG]at KD xY LX J;obtain⟨S7,r⟩:=DS;simp only at KD xY LX J;clear Ks TG HQ;go_wp2_with fail;refine KD.o.mono ?_;clear KD;rintro e w7 ⟨rfl,L7,h7,Hq,jg⟩;have H7:=ae h7;have Fh:=ae (aO.a6 sC.o Hq fC.o.size);have mP:=ae (aO.aQ sC.o fC.o jg);clear h7 Hq jg;by_cases nN:r=0
     ·rw[qai nN]at J;have sT:(r==(0:Int))=true:=(by simp[nN])
      have HQ:=ae J;clear J;go_wp2;go_roundg (c0*(D+1)+d);case measure=>have :=HG.o;omega
      case rel=>exact⟨c0,d,n+64,n,S7,L7,rfl,by go_num,rfl,HQ.o,LX.o,xY.o,H7.o,Fh.o,mP.o⟩
     ·rw[qah nN]at J;have sT:(r==(0:Int))=false:=(by simp[nN])
      have FF:aj (IJ Q L w (.returned (.int .i64 r)) w7):=⟨S7,r,J,xY.o,rfl,L7,H7.o,Fh.o,mP.o⟩
      clear J;go_wp2;go_ret;exact FF.o
    ·rw[qah OX]at J;have Ke:decide ((SR.cv:Int)<SR.many)=false:=qaj OX;have HQ:=ae J;clear J OX;go_wp2;go_region;obtain⟨w6,Bc⟩:∃w6,World.drew w3=w6:=⟨_,rfl⟩
     have Jt:aj (Fr [] w3 w6):=by rw[<-Bc];exact(Fr.refl [] _).drew
     rw[Bc];have H6:=ae (H3.o.keep Jt.o);have sC:=jt;have fC:aj (Fr (L.own w) w w6):=dG.o.ak (Jt.o.mono (fun k hk=>by cases hk));have vX:=Qk;have LY:=xo;have Qw:=ar;have Mj:=rY;obtain⟨S6,Bt⟩:∃S6,SR=S6:=⟨_,rfl⟩
     rw[Bt]at HQ H6 vX LY Qw Mj;clear Bt Bc BD BC Ke;have KD:=ae (lV w6 L3 S6 H6.o 0 vX.o A c us (VA.o.step sC.o fC.o) (fun x hx=>by have :=Vx.o x hx;rw[LY.o];exact this) Be Qw.o Mj.o);rw[sC.o.1]at KD;have Ks:=vX.o.aP us;have xY:=ae Ks.1;have LX:aj ((S6.aP us).1.vars=S.vars):=Ks.2.1.trans LY.o;have J:=HQ.o;obtain⟨DS,TG⟩:∃DS,S6.aP us=DS:=⟨_,rfl⟩
     rw[TG]at KD xY LX J;obtain⟨S7,r⟩:=DS;simp only at KD xY LX J;clear Ks TG HQ;go_wp2_with fail;refine KD.o.mono ?_;clear KD;rintro e w7 ⟨rfl,L7,h7,Hq,jg⟩;have H7:=ae h7;have Fh:=ae (aO.a6 sC.o Hq fC.o.size);have mP:=ae (aO.aQ sC.o fC.o jg);clear h7 Hq jg;by_cases nN:r=0
     ·rw[qai nN]at J;have sT:(r==(0:Int))=true:=(by simp[nN])
      have HQ:=ae J;clear J;go_wp2;go_roundg (c0*(D+1)+d);case measure=>have :=HG.o;omega
      case rel=>exact⟨c0,d,n+64,n,S7,L7,rfl,by go_num,rfl,HQ.o,LX.o,xY.o,H7.o,Fh.o,mP.o⟩
     ·rw[qah nN]at J;have sT:(r==(0:Int))=false:=(by simp[nN])
      have FF:aj (IJ Q L w (.returned (.int .i64 r)) w7):=⟨S7,r,J,xY.o,rfl,L7,H7.o,Fh.o,mP.o⟩
      clear J;go_wp2;go_ret;exact FF.o
   ·have aB:SF.dH n next =SF:=by unfold Sv.dH;rw[qah AG]
    have xq:aj ((if next <=n then n+64 else next)=next):=qah AG;have nY:=ae (Sv.ww ab.o n next);have Qk:=ae (ab.o.dH n next);have H3:aj (bh w2 L2 (SF.dH n next)):=by rw[aB];exact H2.o
    clear aB;obtain⟨SR,Cz⟩:∃SR,SF.dH n next =SR:=⟨_,rfl⟩
    rw[Cz]at nY Qk H3;have J:=HQ.o;rw[Cz]at J;simp only[xq.o]at J;unfold Sv.yM at J;obtain⟨-,-,-,-,-,-,-,-,-,-,-,BD,BC,-⟩:=H3.o.cells;rw[dR.o.1]at BD BC;obtain⟨np,bI,fJ,aK,SJ,GU⟩:=nY.o;have GT: -1152921504606846976<=SR.many/\SR.many<=1152921504606846976:=by rw[aK];exact⟨bj,bg⟩
    have SG:SR.cv<=2199023255552:=by rw[SJ];exact bb
    have xo:aj (SR.vars=S.vars):=np.trans ZY.o;have ar:aj (SR.core=[]):=fJ.trans bS.o;have rY:aj (SR.T.levels.length<=4398046511104):=aE GU YD.o;clear Cz np bI fJ aK SJ GU nY HQ;by_cases OX:(SR.cv:Int)<SR.many
    ·rw[qai OX]at J;have rO:red=true:=by
      cases red with
      |true=>rfl
      |false=>simp at J
     rw[qai rO]at J;have Ke:decide ((SR.cv:Int)<SR.many)=true:=qak OX;have HQ:=ae J;have SE:=GT;clear J OX GT;go_wp2;go_region;obtain⟨w4,vE⟩:∃w4,World.drew w2=w4:=⟨_,rfl⟩
     have UY:aj (Fr [] w2 w4):=by rw[<-vE];exact(Fr.refl [] _).drew
     rw[vE];have Uv:=ae (b0.o rO w4 L2 SR (H3.o.keep UY.o) Qk.o SE.1 SE.2);rw[dR.o.1]at Uv;have Jt:aj (Fr (L.own w) w w4):=df.o.ak (UY.o.mono (fun k hk=>by cases hk));clear vE BD BC Ke;go_wp2_with fail;refine Uv.o.mono ?_;clear Uv;rintro e w5 ⟨S5,GV,rfl,L5,h5,yn,fT⟩;have H5:=ae h5;have pW:=ae (aO.a6 dR.o yn Jt.o.size);have js:=ae (aO.aQ dR.o Jt.o fT);have CT:=ae GV;obtain⟨DD,bt,bB,bG,rfl⟩:=GV;have Px:=Sv.mL DD SR;have Aw:=ae (Sv.Ok.T4 DD SR Qk.o);obtain⟨S5,Bu⟩:∃S5,DD.foldl Sv.cU SR=S5:=⟨_,rfl⟩
     rw[Bu]at Px Aw H5 CT;have a1:aj (S5.vars=S.vars):=Px.2.1.trans xo.o;have VJ:aj (S5.core=[]):=Px.2.2.2.1.trans ar.o;have aM:aj (S5.T.levels.length<=4398046511104):=by show _<=_;rw[Px.1];exact rY.o
     have Vk:S5.cv<=2199023255552:=by rw[Px.2.2.2.2.1];exact SG
     clear h5 yn fT bt bB bG Px Bu;obtain⟨-,-,-,-,-,-,-,-,-,-,-,-,BC,-⟩:=H5.o.cells;rw[pW.o.1]at BC;have f12:=H5.o.obj.frozen 12;rw[pW.o.1]at f12;obtain⟨lm,Po⟩:∃lm,S5.cv=lm:=⟨_,rfl⟩
     rw[Po]at BC Vk;have b6:=ae Po;have WH:IntKind.i64.wrap (((lm/16:Nat):Int)+1)=((lm/16:Nat):Int)+1:=IntWalk.i64_in _ (by omega);have Fl:IntKind.i64.wrap ((lm:Int)+(((lm/16:Nat):Int)+1))=(lm:Int)+(((lm/16:Nat):Int)+1):=IntWalk.i64_in _ (by omega);have Mt:aj ((lm:Int)+((lm:Int)/16+1)=((lm+(lm/16+1):Nat):Int)):=by show _=_;omega
     obtain⟨g6,f6⟩:=H5.o.qj 12 (.int .i64 ((lm+(lm/16+1):Nat):Int)) S5.gT (by simp[qm,Sv.gT,Po]) ⟨rfl,rfl,rfl,rfl,rfl,rfl,rfl⟩;rw[pW.o.1]at g6 f6;have h6:=g6.keep (Fr.refl [] _).drew;have ad:=ae h6;have U1:=ae ((aO.aQ pW.o js.o f6).drew);clear Po g6 f6 h6;go_upto_region 16 with fail;go_region;rw[Mt.o];obtain⟨w6,Bc⟩:∃w6,(w5.setCell ⟨L.a,12,none⟩ (.int .i64 ((lm+(lm/16+1):Nat):Int))).drew=w6:=⟨_,rfl⟩
     rw[Bc]at ad U1⊢;have H6:=ad;have fC:=U1;have sC:=pW;have vX:=ae Aw.o.gT;have LY:aj (S5.gT.vars=S.vars):=a1.o;have Qw:aj (S5.gT.core=[]):=VJ.o;have Mj:aj (S5.gT.T.levels.length<=4398046511104):=aM.o;have HQ:=ae (HQ.o S5 CT.o);obtain⟨S6,Bt⟩:∃S6,S5.gT=S6:=⟨_,rfl⟩
     rw[Bt]at HQ H6 vX LY Qw Mj;clear Bt Bc BC f12 WH Fl;have KD:=ae (lV w6 L5 S6 H6.o 0 vX.o A c us (VA.o.step sC.o fC.o) (fun x hx=>by have :=Vx.o x hx;rw[LY.o];exact this) Be Qw.o Mj.o);rw[sC.o.1]at KD;have Ks:=vX.o.aP us;have xY:=ae Ks.1;have LX:aj ((S6.aP us).1.vars=S.vars):=Ks.2.1.trans LY.o;have J:=HQ.o;obtain⟨DS,TG⟩:∃DS,S6.aP us=DS:=⟨_,rfl⟩
     rw[TG]at KD xY LX J;obtain⟨S7,r⟩:=DS;simp only at KD xY LX J;clear Ks TG HQ;go_wp2_with fail;refine KD.o.mono ?_;clear KD;rintro e w7 ⟨rfl,L7,h7,Hq,jg⟩;have H7:=ae h7;have Fh:=ae (aO.a6 sC.o Hq fC.o.size);have mP:=ae (aO.aQ sC.o fC.o jg);clear h7 Hq jg;by_cases nN:r=0
     ·rw[qai nN]at J;have sT:(r==(0:Int))=true:=(by simp[nN])
      have HQ:=ae J;clear J;go_wp2;go_roundg (c0*(D+1)+d);case measure=>have :=HG.o;omega
      case rel=>exact⟨c0,d,next,n,S7,L7,rfl,rfl,rfl,HQ.o,LX.o,xY.o,H7.o,Fh.o,mP.o⟩
     ·rw[qah nN]at J;have sT:(r==(0:Int))=false:=(by simp[nN])
      have FF:aj (IJ Q L w (.returned (.int .i64 r)) w7):=⟨S7,r,J,xY.o,rfl,L7,H7.o,Fh.o,mP.o⟩
      clear J;go_wp2;go_ret;exact FF.o
    ·rw[qah OX]at J;have Ke:decide ((SR.cv:Int)<SR.many)=false:=qaj OX;have HQ:=ae J;clear J OX;go_wp2;go_region;obtain⟨w6,Bc⟩:∃w6,World.drew w2=w6:=⟨_,rfl⟩
     have Jt:aj (Fr [] w2 w6):=by rw[<-Bc];exact(Fr.refl [] _).drew
     rw[Bc];have H6:=ae (H3.o.keep Jt.o);have sC:=dR;have fC:aj (Fr (L.own w) w w6):=df.o.ak (Jt.o.mono (fun k hk=>by cases hk));have vX:=Qk;have LY:=xo;have Qw:=ar;have Mj:=rY;obtain⟨S6,Bt⟩:∃S6,SR=S6:=⟨_,rfl⟩
     rw[Bt]at HQ H6 vX LY Qw Mj;clear Bt Bc BD BC Ke;have KD:=ae (lV w6 L2 S6 H6.o 0 vX.o A c us (VA.o.step sC.o fC.o) (fun x hx=>by have :=Vx.o x hx;rw[LY.o];exact this) Be Qw.o Mj.o);rw[sC.o.1]at KD;have Ks:=vX.o.aP us;have xY:=ae Ks.1;have LX:aj ((S6.aP us).1.vars=S.vars):=Ks.2.1.trans LY.o;have J:=HQ.o;obtain⟨DS,TG⟩:∃DS,S6.aP us=DS:=⟨_,rfl⟩
     rw[TG]at KD xY LX J;obtain⟨S7,r⟩:=DS;simp only at KD xY LX J;clear Ks TG HQ;go_wp2_with fail;refine KD.o.mono ?_;clear KD;rintro e w7 ⟨rfl,L7,h7,Hq,jg⟩;have H7:=ae h7;have Fh:=ae (aO.a6 sC.o Hq fC.o.size);have mP:=ae (aO.aQ sC.o fC.o jg);clear h7 Hq jg;by_cases nN:r=0
     ·rw[qai nN]at J;have sT:(r==(0:Int))=true:=(by simp[nN])
      have HQ:=ae J;clear J;go_wp2;go_roundg (c0*(D+1)+d);case measure=>have :=HG.o;omega
      case rel=>exact⟨c0,d,next,n,S7,L7,rfl,rfl,rfl,HQ.o,LX.o,xY.o,H7.o,Fh.o,mP.o⟩
     ·rw[qah nN]at J;have sT:(r==(0:Int))=false:=(by simp[nN])
      have FF:aj (IJ Q L w (.returned (.int .i64 r)) w7):=⟨S7,r,J,xY.o,rfl,L7,H7.o,Fh.o,mP.o⟩
      clear J;go_wp2;go_ret;exact FF.o
def zi(n:Nat):List Value:=(Builtin.zeroCells #[.int .i64 0] n).toList
theorem aam(n:Nat):∀v∈zi n,v.oneCell'=true:=by intro v J;simp only[zi,Builtin.zeroCells,Array.toList_map,aN]at J;obtain⟨i,_,rfl⟩:=J;simp[Nat.mod_one];rfl
theorem Oh(n:Nat):(zi n).length=n:=by simp[zi,Builtin.zeroCells]
theorem AX(w:World)(g o c ty n:Nat)(w':World)(h:(storeCells ⟨g,o,none⟩ (zi (n+1))).run Tryz.prog w= .ok () w'):
  (Builtin.clear_ #[22] ty #[.slice (some ⟨g,o,none⟩) (n+1) c]).run Tryz.prog w= .ok (.tuple #[]) w':=by
 simp only[zi]at h;simp only[Builtin.clear_,go_sem];simp[h,run_underlying Tryz.underlying22]
theorem qp(w:World)(g c i ty c':Nat)(xs:List Int)(h:Ints w (some ⟨g,0,none⟩) c xs)(hi:i<xs.length):
  ∃w',(Builtin.clear_ #[22] ty #[.slice (some ⟨g,i,none⟩) (xs.length-i) c']).run Tryz.prog w= .ok (.tuple #[]) w'/\Ints w' (some ⟨g,0,none⟩) c (xs.take i)/\Fr [g] w w':=by
 have hl:=h.1;rcases h.2 with⟨h1,_⟩ |⟨g',cap,cur,hv,hb,hg,hn,hm,hs,ht⟩
 ·cases h1
 ·simp only[Value.slice.injEq,Option.some.injEq,Addr.mk.injEq,and_true,true_and]at hv;obtain⟨rfl,rfl⟩:=hv;have hz:=Oh (xs.length-i);have pO:=run_storeCells_at (P:=Tryz.prog) g i 3 (zi (xs.length-i)) 0 cur w hg (by rw[hz,Nat.add_zero,hs];omega) (aam _);obtain⟨m,Kw⟩:∃m,xs.length-i=m+1:=⟨xs.length-i-1,by omega⟩
  obtain⟨new,J⟩:∃new,cur.toList.take (i+0)++zi (xs.length-i)++cur.toList.drop (i+0+(zi (xs.length-i)).length)=new:=⟨_,rfl⟩
  rw[J]at pO;have hlen:new.length=c:=by rw[<-J];simp only[an,bz,List.length_drop,hz,Array.length_toList,hs];omega
  have yi:new.take i=(xs.take i).map (Value.int .i64):=by rw[List.map_take,<-ht,<-J,List.take_take,dB,Nat.add_zero,oO (by rw[bz,Array.length_toList,hs];omega),List.take_take];congr 1;omega
  clear J;refine⟨w.setRow g new.toArray,?_,?_,?_⟩
  ·rw[Kw]at pO⊢;exact AX _ _ _ _ _ _ _ pO
  ·have Vk:(xs.take i).length=i:=by rw[bz];omega
   refine⟨by simp, .inr ⟨g,c,new.toArray,rfl,hb,setRow_heap w g cur _ _ _ hg,by omega,hm,by rw[List.size_toArray,hlen];omega,?_⟩⟩;rw[Vk];simpa using yi
  ·refine⟨rfl,rfl,rfl,by simp,fun k _ hk=>setRow_other _ _ _ _ (fun e=>hk (by simp[e]))⟩
theorem Ra.set{xs:List Int}(h:Ra xs)(i:Nat){x:Int}(J:eJ x):Ra (xs.set i x):=by
 refine(fR (p:=eJ)).2 fun y hy=> ?_;rcases List.mem_or_eq_of_mem_set hy with h1 |h1
 ·exact(fR (p:=eJ)).1 h y h1
 ·rw[h1];exact J
theorem Ra.sub{xs J:List Int}(h:Ra xs)(hs:∀y∈J,y∈xs):Ra J:=(fR (p:=eJ)).2 fun y hy=>(fR (p:=eJ)).1 h y (hs y hy)
def Og(F:List Nat)(w:World)(g:Nat)(J:Array Value)(p:Int->Bool)(xs:List Int):Prop:=∀W,Fr F w W->∀x,x∈xs->eJ x->
 Calls Tryz.prog g (#[.int .i64 x]++J) W fun e w'=>e= .returned (.bool (p x))/\Fr [] W w'
theorem Og.less{F:List Nat}{w:World}{g:Nat}{J:Array Value}{p:Int->Bool}{xs:List Int}(h:Og F w g J p xs):YR w g J p xs:=fun W hW x hx hr=>h W (hW.mono (fun k hk=>by cases hk)) x hx hr
def IxF(p:Int->Bool)(xs:List Int)(w:World)(e:Ending)(w':World):Prop:=
 ((e= .returned (.int .i64 (-1))/\∀x∈xs,p x=false)\/∃n:Nat,e= .returned (.int .i64 n)/\n<xs.length/\p xs[n]! =true/\dT xs p n)/\Fr [] w w'
theorem wU(w:World)(A:Option Addr)(c:Nat)(xs:List Int)(g:Nat)(cb:Array Value)(p:Int->Bool)(eg:∀args w,(callFunc g args).run Tryz.prog w= .ok (.enter g args) w)(h:Rd w A xs)(hr:Ra xs)(hl:xs.length<=17592186044416)(hp:YR w g cb p xs):
  Calls Tryz.prog 90 #[.slice A xs.length c, .func (.func g) #[] cb] w (IxF p xs w):=by
 have HH:=ae h;have HR:=ae hr;have HP:=ae hp;have xk:aj (∀(n:Nat) W,n<xs.length->p xs[n]! =true->dT xs p n->Fr [] w W->IxF p xs w (.returned (.int .i64 (n:Int))) W):=fun n W h1 h2 h3 h4=>⟨.inr ⟨n,rfl,h1,h2,h3⟩,h4⟩
 have NO:aj (∀W,dT xs p xs.length->Fr [] w W->IxF p xs w (.returned (.int .i64 (-1))) W):=fun W h2 h3=>⟨.inl ⟨rfl,(fR (p:=fun x=>p x=false)).1 (fun j hj=>h2 j hj)⟩,h3⟩
 clear h hr hp;go_enter Tryz.func90,Tryz.ntmps90;go_wp2_with fail;go_loopg [8] xs.length (fun g i wr=>∃k:Nat,k+g=xs.length/\i= .int .i64 k/\Fr [] w wr/\dT xs p k);case atStart=>exact⟨0,by omega,rfl,Fr.refl _ _,dT.zero _ _⟩
 case round=>
  obtain⟨k,hk,rfl,hx,hn⟩:=hrel;have HK:=ae hk;have J:=ae hx;have HN:=ae hn;have iS:k<=xs.length:=by omega
  clear hk hx hn;by_cases bt:k<xs.length
  ·obtain⟨b,o,x,hA,he,cx,gU,jn⟩:=(HH.o.keep J.o).one HR.o bt;subst hA;obtain⟨q,HQ⟩:∃q,aj (p x=q):=⟨_,rfl⟩
   have HC:=ae (HP.o wr J.o x (by rw[<-he.o];exact bk bt) ⟨gU,jn⟩);go_wp2_with fail;refine HC.o.mono ?_;rw[HQ.o];rintro e w2 ⟨rfl,hf⟩;have HF:=ae (J.o.ak hf);clear hf;cases q with
   |true=>
    go_wp2;go_ret;exact xk.o k _ bt (by rw[he.o];exact HQ.o) HN.o HF.o
   |false=>
    go_wp2;go_roundg (gk-1);case measure=>have :=HK.o;omega
    case rel=>exact⟨k+1,by have :=HK.o;omega,by go_num,HF.o,HN.o.step (by rw[he.o];exact HQ.o)⟩
  ·obtain rfl :k=xs.length:=by omega
   clear HK;go_wp2;go_ret;exact NO.o _ HN.o J.o
def IK(J:List Int)(A:Option Addr)(c:Nat)(w:World)(e:Ending)(w':World):Prop:=e= .returned (.slice A J.length c)/\Ints w' A c J/\Fr (ao A) w w'
theorem PR{xs:List Int}{p:Int->Bool}{n:Nat}(h:dT xs p n):(xs.take n).filter (fun x=> !p x)=xs.take n:=by rw[List.filter_eq_self];intro x hx;obtain⟨j,J,e⟩:=List.mem_iff_getElem.1 hx;rw[bz]at J;rw[List.getElem_take]at e;have :=h j (by omega);rw[aa,af (by omega),aJ,e]at this;simp[this]
theorem CG(xs:List Int)(p:Int->Bool){j:Nat}(J:j<xs.length):(xs.take (j+1)).filter (fun x=> !p x)=(xs.take j).filter (fun x=> !p x)++(if p xs[j]! =true then[]else[xs[j]!]):=by rw[List.take_add_one,List.filter_append,af J,eD];congr 1;simp only[aa,af J,aJ];by_cases h:p xs[j]=true<;>simp[h]
theorem F3(L:List Int)(i:Nat)(x:Int)(h:i<L.length):(L.set i x).take (i+1)=L.take i++[x]:=by rw[List.take_add_one,List.take_set_of_le (aq _),kj h];rfl
theorem zE{L:List Int}{i k:Nat}{x:Int}(h:i<k):(L.set i x)[k]! =L[k]! :=by simp only[aa];rw[gW (by omega)]
theorem EN(w:World)(g c:Nat)(xs:List Int)(f:Nat)(cb:Array Value)(p:Int->Bool)(eg:∀args w,(callFunc f args).run Tryz.prog w= .ok (.enter f args) w)(h:Ints w (some ⟨g,0,none⟩) c xs)(hr:Ra xs)(hl:xs.length<=17592186044416)(hp:Og [g] w f cb p xs):
  Calls Tryz.prog 127 #[.slice (some ⟨g,0,none⟩) xs.length c, .func (.func f) #[] cb] w (IK (xs.filter fun x=> !p x) (some ⟨g,0,none⟩) c w):=by
 have HH:=ae h;have HR:=ae hr;have HP:=ae hp;have QX:xs.length<=c/\c<=maxLen:=by
  rcases h.form with⟨h1,_⟩ |⟨g',h1,_,h2,h3⟩
  ·cases h1
  ·exact⟨h2,h3⟩
 have Ft:=QX.2;have QX:=QX.1;rw[maxLen]at Ft;obtain⟨R,hR⟩:∃R,xs.filter (fun x=> !p x)=R:=⟨_,rfl⟩
 have Yt:=ae hR;rw[hR];have NO:aj (R=xs->∀W,Fr [] w W->IK R (some ⟨g,0,none⟩) c w (.returned (.slice (some ⟨g,0,none⟩) xs.length c)) W):=fun e W h2=>by subst e;exact⟨rfl,HH.o.fr h2 (by simp),h2.mono (by simp)⟩
 have xk:aj (∀(i:Nat)(L:List Int) W W',i<L.length->L.take i=R->Fr [g] w W->Ints W' (some ⟨g,0,none⟩) c (L.take i)->Fr [g] W W'->IK R (some ⟨g,0,none⟩) c w (.returned (.slice (some ⟨g,0,none⟩) i c)) W'):=fun i L W W' h1 h2 h4 h5 h6=>by
  have hi:(L.take i).length=i:=by rw[bz];omega
  rw[<-h2];exact⟨by rw[hi],h5,by simpa[ao]using h4.ak h6⟩
 have HI:=ae (wU w (some ⟨g,0,none⟩) c xs f cb p eg h.rd hr hl hp.less);clear h hr hp hR;go_enter Tryz.func127,Tryz.ntmps127;go_wp2_with fail;refine HI.o.mono ?_;rintro e w1 ⟨hc,di⟩;have dZ:=ae di;clear di;rcases hc with⟨rfl,gZ⟩ |⟨n,rfl,hn,Zq,tk⟩
 ·have aT:aj (R=xs):=by rw[<-Yt.o];exact List.filter_eq_self.2 (fun x hx=>by simp[gZ x hx])
  clear gZ;go_wp2;go_ret;exact NO.o aT.o _ dZ.o
 ·have ab:=ae (HH.o.fr dZ.o (by simp));have a1:aj (((n:Int)== -1)=false):=(aab.2 (by omega):((n:Int)== -1)=false)
  have aK:aj (xs.take n=(xs.take (n+1)).filter (fun x=> !p x)):=by show xs.take n=_;rw[CG xs p hn,Zq,PR tk];simp
  clear Zq tk;go_wp2_with fail;go_loopg [5,6] (xs.length-(n+1)) (fun gk x5 x6 wr=>∃(i j:Nat)(L:List Int),j+gk=xs.length/\x5= .int .i64 i/\x6= .int .i64 j/\i<j/\L.length=xs.length/\Ra L/\aj (L.take i=(xs.take j).filter (fun x=> !p x))/\aj (∀k:Nat,j<=k->L[k]! =xs[k]!)/\Ints wr (some ⟨g,0,none⟩) c L/\Fr [g] w wr);case atStart=>exact⟨n,n+1,xs,by omega,rfl,by go_num,by omega,rfl,HR.o,aK.o,fun _ _=>rfl,ab.o,dZ.o.mono (by simp)⟩
  case round=>
   obtain⟨i,j,L,hk,rfl,rfl,Nq,ad,ar,HT,HG,ho,hf⟩:=hrel;have HK:=ae hk;have HO:=ae ho;have HF:=ae hf;have rY:=ae ar;have K1:j<=xs.length:=by omega
   have J:=ae ad;clear hk ho hf ab dZ ar ad;by_cases bt:j<xs.length
   ·obtain⟨b,o,x,hA,he,cx,gU,jn⟩:=(HO.o.rd).one rY.o (j:=j) (by rw[J.o];exact bt);simp only[Option.some.injEq,Addr.mk.injEq,and_true]at hA;obtain⟨rfl,rfl⟩:=hA;rw[dd]at cx;have HX:aj (xs[j]! =x):=(HG.o j (aq _)).symm.trans he.o;obtain⟨q,HQ⟩:∃q:Bool,aj (p x=q):=⟨p x,ae rfl⟩
    have HC:=ae (HP.o wr HF.o x (by rw[<-HX.o];exact bk bt) ⟨gU,jn⟩);rw[HQ.o]at HC;have CS:aj ((xs.take (j+1)).filter (fun x=> !p x)=L.take i++if q=true then[]else[x]):=by show _=_;rw[CG xs p bt,HX.o,HQ.o,HT.o]
    go_wp2_with fail;refine HC.o.mono ?_;clear HC cx;rintro e w3 ⟨rfl,hf⟩;have dG:aj (Fr [g] w w3):=HF.o.ak (hf.mono (by simp));have nZ:=ae (HO.o.fr hf (by simp));clear HF HO hf;cases q with
    |true=>
     go_wp2;go_roundg (gk-1);case measure=>have :=HK.o;omega
     case rel=>exact⟨i,j+1,L,by have :=HK.o;omega,rfl,by go_num,by omega,J.o,rY.o,by show _=_;rw[CS.o];simp,fun k hk=>HG.o k (by omega),nZ.o,dG.o⟩
    |false=>
     have aB:i<L.length:=by rw[J.o];omega
     have f0:=nZ.o.frozen i;have c0:=nZ.o.cell aB;go_wp2;go_roundg (gk-1);case measure=>have :=HK.o;omega
     case rel=>exact⟨i+1,j+1,L.set i x,by have :=HK.o;omega,by go_num,by go_num,by omega,by rw[aw];exact J.o,rY.o.set i ⟨gU,jn⟩,by show _=_;rw[CS.o,F3 _ _ _ aB];simp,fun k hk=>(zE (by omega)).trans (HG.o k (by omega)),nZ.o.dL i x,dG.o.setCell (.inl (by simp)) _⟩
   ·obtain rfl :j=xs.length:=by omega
    have Tq:=qp wr g c i 0 (c-i) L HO.o (by rw[J.o];exact Nq);rw[J.o]at Tq;obtain⟨w2,oR,pP,cE⟩:=Tq;have aM:aj (L.take i=R):=by show _=_;rw[HT.o,cN];exact Yt.o
    go_wp2;go_ret;exact xk.o i L wr _ (by rw[J.o];exact Nq) aM.o HF.o pP cE
theorem zU(w:World)(A:Option Addr)(c:Nat)(xs:List Int)(f:Nat)(J:Array Value)(p:Int->Bool)(eg:∀args w,(callFunc f args).run Tryz.prog w= .ok (.enter f args) w)(h:Ints w A c xs)(hr:Ra xs)(hl:xs.length<=17592186044416)(hp:Og (ao A) w f J p xs):
  Calls Tryz.prog 127 #[.slice A xs.length c, .func (.func f) #[] J] w (IK (xs.filter fun x=> !p x) A c w):=by
 rcases h.form with⟨rfl,rfl,rfl⟩ |⟨g,rfl,_⟩
 ·have HI:=ae (wU w none 0 [] f J p eg (fun h=>absurd h (aD _)) hr (by simp) hp.less);have HH:=ae h;clear h hp;go_enter Tryz.func127,Tryz.ntmps127;go_wp2_with fail;refine HI.o.mono ?_;rintro e w1 ⟨hc,di⟩;rcases hc with⟨rfl,_⟩ |⟨n,rfl,hn,_⟩
  ·have HF:=ae di;clear di;go_wp2;go_ret;exact⟨rfl,HH.o.fr HF.o (by simp),HF.o.mono (by simp)⟩
  ·exact absurd hn (aD _)
 ·exact EN w g c xs f J p eg h hr hl (by simpa[ao]using hp)
def ix(xs:List Int):Nat->List Int
 |0=>[]
 |k+1=>if k=0\/xs[k]! ≠xs[k-1]! then ix xs k++[xs[k]!]else ix xs k
def XQ(xs:List Int):List Int:=ix xs xs.length
theorem NL{xs:List Int}{k:Nat}(h:xs[k+1]! ≠xs[k]!):ix xs (k+2)=ix xs (k+1)++[xs[k+1]!]:=by rw[ix.eq_2,qai (.inr h)]
theorem NK{xs:List Int}{k:Nat}(h:xs[k+1]! =xs[k]!):ix xs (k+2)=ix xs (k+1):=by
 rw[ix.eq_2,qah];rintro(h1 |h1)
 ·omega
 ·exact h1 h
theorem BW{xs:List Int}{k:Nat}(h:k<xs.length):xs.take (k+1)=xs.take k++[xs[k]!]:=by rw[List.take_add_one,af h,eD];simp only[aa,af h,aJ]
theorem NJ(xs:List Int)(h:0<xs.length):ix xs 1=xs.take 1:=by rw[BW h];simp[ix]
theorem Bz(w:World)(g c:Nat)(xs:List Int)(h:Ints w (some ⟨g,0,none⟩) c xs)(hr:Ra xs)(hl:xs.length<=17592186044416):
  Calls Tryz.prog 158 #[.slice (some ⟨g,0,none⟩) xs.length c] w (IK (XQ xs) (some ⟨g,0,none⟩) c w):=by
 have HH:=ae h;have HR:=ae hr;have QX:xs.length<=c/\c<=maxLen:=by
  rcases h.form with⟨h1,_⟩ |⟨g',h1,_,h2,h3⟩
  ·cases h1
  ·exact⟨h2,h3⟩
 have Ft:=QX.2;have QX:=QX.1;rw[maxLen]at Ft;have NO:aj (ix xs xs.length=xs->∀W,Fr [] w W->IK (XQ xs) (some ⟨g,0,none⟩) c w (.returned (.slice (some ⟨g,0,none⟩) xs.length c)) W):=fun e W h2=>by unfold XQ;rw[e];exact⟨rfl,HH.o.fr h2 (by simp),h2.mono (by simp)⟩
 have xk:aj (∀(i:Nat)(L:List Int) W W',i<L.length->L.take i=ix xs xs.length->Fr [g] w W->Ints W' (some ⟨g,0,none⟩) c (L.take i)->Fr [g] W W'->IK (XQ xs) (some ⟨g,0,none⟩) c w (.returned (.slice (some ⟨g,0,none⟩) i c)) W'):=fun i L W W' h1 h2 h4 h5 h6=>by
  have hi:(L.take i).length=i:=by rw[bz];omega
  unfold XQ;rw[<-h2];exact⟨by rw[hi],h5,by simpa[ao]using h4.ak h6⟩
 clear h hr;by_cases h2:xs.length<2
 ·have d2:decide ((xs.length:Int)<2)=true:=qak (by omega);go_enter Tryz.func158,Tryz.ntmps158;go_wp2;go_ret;exact NO.o (by
   rcases bN 0 xs.length with h0 |h0
   ·have e:xs.length=1:=by omega
    rw[e,NJ xs h0];exact dv (by omega)
   ·have e:xs.length=0:=by omega
    rw[e];exact(aX e).symm) _ (Fr.refl _ _)
 ·have d2:decide ((xs.length:Int)<2)=false:=qaj (by omega);go_enter Tryz.func158,Tryz.ntmps158;go_wp2_with fail;go_loopg [3] (xs.length-1) (fun gk x3 wr=>∃j:Nat,j+1+gk=xs.length/\x3= .int .i64 ((j+1:Nat):Int)/\aj (ix xs (j+1)=xs.take (j+1))/\Fr [] w wr);case atStart=>exact⟨0,by omega,rfl,NJ xs (by omega),Fr.refl _ _⟩
  case round=>
   obtain⟨j,hk,rfl,HD,hf⟩:=hrel;have HK:=ae hk;have HF:=ae hf;have HO:=ae (HH.o.fr hf (by simp));have QS:j+1<=xs.length:=by omega
   clear hk hf;by_cases bt:j+1<xs.length
   ·obtain⟨b,o,x,hA,he,cx,gU,jn⟩:=(HO.o.rd).one HR.o bt;obtain⟨b',o',x',yp,fj,Jm,OT,a1⟩:=(HO.o.rd).one HR.o (j:=j) (by omega);simp only[Option.some.injEq,Addr.mk.injEq,and_true]at hA yp;obtain⟨rfl,rfl⟩:=hA;obtain⟨rfl,rfl⟩:=yp;rw[dd]at cx Jm;have e1:=Ext.cell cx;have e2:=Ext.cell Jm;obtain⟨q,HQ⟩:∃q:Bool,aj ((x==x')=q):=⟨(x==x'),ae rfl⟩
    have hq:=HQ.o;have eo:IntKind.i64.wrap (((j+1:Nat):Int)-1)=(j:Int):=by rw[IntKind.wrap_i64];omega
    cases q with
    |false=>
     have Yy:aj (ix xs (j+1+1)=xs.take (j+1+1)):=by show _=_;rw[NL (by rw[he.o,fj.o];exact fun e=>by have :=HQ.o;simp[e]at this),HD.o,BW bt]
     go_wp2;refine ap ?_;repeat (go_big_quiet_step (fail))
     refine fq ?_;intro w2 J;clear cx Jm e1 e2;go_wp2;go_roundg (gk-1);case measure=>have :=HK.o;omega
     case rel=>exact⟨j+1,by have :=HK.o;omega,by go_num,Yy.o,HF.o.ak J.o⟩
    |true=>
     have aM:aj (xs.take (j+1)=ix xs (j+1+0+1)):=by show _=_;rw[Nat.add_zero,NK (by rw[he.o,fj.o];exact beq_iff_eq.1 HQ.o),HD.o]
     go_wp2;refine ap ?_;repeat (go_big_quiet_step (fail))
     refine fq ?_;intro w2 J;clear cx Jm e1 e2 hq eo;have qR:=ae (HO.o.fr J.o (by simp));have df:=ae (HF.o.ak J.o);clear HO HF J;go_wp2_with fail;generalize bj:xs.length-(j+1)=M2;go_loopg [3,5] (M2-1) (fun gk x3 x5 wr=>∃(k m:Nat)(L:List Int),m+1+gk=M2/\x3= .int .i64 k/\x5= .int .i64 ((m+1:Nat):Int)/\j+1<=k/\k<j+1+(m+1)/\L.length=xs.length/\Ra L/\aj (L.take k=ix xs (j+1+m+1))/\aj (∀q:Nat,j+1+m<=q->L[q]! =xs[q]!)/\Ints wr (some ⟨g,0,none⟩) c L/\Fr [g] w wr);case atStart=>exact⟨j+1,0,xs,by omega,by go_num,by go_num,by omega,by omega,rfl,HR.o,aM.o,fun _ _=>rfl,qR.o,df.o.mono (by simp)⟩
     case round=>
      obtain⟨k,m,L,hk,rfl,rfl,Er,sR,ab,ad,HT,HG,ho,hf⟩:=hrel;have HK:=ae hk;have HF:=ae hf;have HO:=ae ho;have rK:=ae ab;have rY:=ae ad;have bo:m+1<=M2:=(by omega)
      clear hk hf ho ab ad qR df;by_cases qJ:m+1<M2
      ·obtain⟨b,o,y,hA,he,cy,iO,ld⟩:=(HO.o.rd).one rY.o (j:=j+1+(m+1)) (by rw[rK.o];omega);obtain⟨b',o',y',yp,fj,rF,bb,ba⟩:=(HO.o.rd).one rY.o (j:=j+1+m) (by rw[rK.o];omega);simp only[Option.some.injEq,Addr.mk.injEq,and_true]at hA yp;obtain⟨rfl,rfl⟩:=hA;obtain⟨rfl,rfl⟩:=yp;rw[dd]at cy rF;have e1:=Ext.cell cy;have e2:=Ext.cell rF;have eo:IntKind.i64.wrap (((m+1:Nat):Int)-1)=(m:Int):=by rw[IntKind.wrap_i64];omega
       obtain⟨q,HQ⟩:∃q:Bool,aj ((y !=y')=q):=⟨(y !=y'),ae rfl⟩
       have hq:=HQ.o;have ia:aj (xs[j+1+m+1]! =y):=(HG.o (j+1+m+1) (by omega)).symm.trans he.o;have fZ:aj (xs[j+1+m]! =y'):=(HG.o (j+1+m) (aq _)).symm.trans fj.o;cases q with
       |false=>
        have HS:aj (L.take k=ix xs (j+1+(m+1)+1)):=by show _=_;rw[HT.o,show j+1+(m+1)+1=j+1+m+2 from by omega,NK (by rw[ia.o,fZ.o];have :=HQ.o;simpa using this)]
        go_wp2;refine ap ?_;repeat (go_big_quiet_step (fail))
        refine fq ?_;intro w2 J;clear cy rF e1 e2;go_wp2;go_roundg (gk-1);case measure=>have :=HK.o;omega
        case rel=>exact⟨k,m+1,L,by have :=HK.o;omega,rfl,by go_num,Er,by omega,rK.o,rY.o,HS.o,fun q hq=>HG.o q (by omega),HO.o.fr J.o (by simp),HF.o.ak (J.o.mono (by simp))⟩
       |true=>
        have ar:k<L.length:=by rw[rK.o];omega
        have HS:aj ((L.set k y).take (k+1)=ix xs (j+1+(m+1)+1)):=by show _=_;rw[F3 _ _ _ ar,HT.o,show j+1+(m+1)+1=j+1+m+2 from by omega,NL (by rw[ia.o,fZ.o];have :=HQ.o;simpa using this),ia.o]
        go_wp2;refine ap ?_;repeat (go_big_quiet_step (fail))
        refine fq ?_;intro w2 J;have nZ:=ae (HO.o.fr J.o (by simp));have dG:aj (Fr [g] w w2):=HF.o.ak (J.o.mono (by simp));have bg:=J.o.aF cy;clear cy rF e1 e2 hq eo HF HO J;have f0:=nZ.o.frozen k;have c0:=nZ.o.cell ar;go_wp2;go_roundg (gk-1);case measure=>have :=HK.o;omega
        case rel=>exact⟨k+1,m+1,L.set k y,by have :=HK.o;omega,by go_num,by go_num,by omega,by omega,by rw[aw];exact rK.o,rY.o.set k ⟨iO,ld⟩,HS.o,fun q hq=>(zE (by omega)).trans (HG.o q (by omega)),nZ.o.dL k y,dG.o.setCell (.inl (by simp)) _⟩
      ·obtain rfl :M2=m+1:=by omega
       have pR:k<xs.length:=(by omega)
       have Tq:=qp wr g c k 0 (c-k) L HO.o (by rw[rK.o];exact pR);rw[rK.o]at Tq;obtain⟨w2,oR,pP,cE⟩:=Tq;have aK:aj (L.take k=ix xs xs.length):=by show _=_;rw[HT.o,show j+1+m+1=xs.length from by omega]
       go_wp2;go_ret;exact xk.o k L wr _ (by rw[rK.o];exact pR) aK.o HF.o pP cE
   ·have aB:aj (ix xs xs.length=xs):=by
     show _=_;have e:j+1=xs.length:=(by omega)
     have :=HD.o;rw[e,cN]at this;exact this
    clear HK;go_wp2;go_ret;exact NO.o aB.o _ HF.o
theorem Io(w:World)(A:Option Addr)(c:Nat)(xs:List Int)(h:Ints w A c xs)(hr:Ra xs)(hl:xs.length<=17592186044416):
  Calls Tryz.prog 158 #[.slice A xs.length c] w (IK (XQ xs) A c w):=by
 rcases h.form with⟨rfl,rfl,rfl⟩ |⟨g,rfl,_⟩
 ·have J:=ae h;clear h;go_enter Tryz.func158,Tryz.ntmps158;go_wp2;go_ret;exact⟨rfl,J.o,Fr.refl _ _⟩
 ·exact Bz w g c xs h hr hl
theorem YU{a:Int}(h:eJ a)(hl:a<wrap64 (-a)):wrap64 (-a)=tv a:=by
 obtain⟨h0,h1⟩:=h;rcases oq a h0 with⟨J,h3⟩ |⟨J,h3,h4⟩ |⟨J,h3,h4⟩
 ·have :wrap64 (-a)= -a:=by unfold wrap64;omega
  omega
 ·rw[h4];unfold wrap64;omega
 ·omega
theorem YV{a:Int}(h:eJ a)(hl:¬a<wrap64 (-a)):a=tv a:=by
 obtain⟨h0,h1⟩:=h;rcases oq a h0 with⟨J,h3⟩ |⟨J,h3,h4⟩ |⟨J,h3,h4⟩
 ·omega
 ·have :wrap64 (-a)= -a:=by unfold wrap64;omega
  omega
 ·omega
theorem Qb(w:World)(a:Int)(h:eJ a):Calls Tryz.prog 55 #[.int .i64 a] w fun e w'=>e= .returned (.int .i64 (tv a))/\w=w':=by have HU:=ae (@YU a h);have J:=ae (@YV a h);go_enter Tryz.func55,Tryz.ntmps55;go_wp2_with fail;all_goals (go_ret;first |exact⟨by rw[<-HU.o (by assumption)];rfl,rfl⟩ |exact⟨by rw[<-J.o (by omega)];rfl,rfl⟩)
def jW(vars:Int)(x:Int):Bool:=decide (tv x<1) ||decide (vars<tv x)
theorem LB(W:World)(b:Nat)(vars:Int)(hc:W.cell? ⟨b,0,none⟩=some (.int .i64 vars))(x:Int)(hx:eJ x):
  Calls Tryz.prog 54 #[.int .i64 x, .pointer (some ⟨b,0,none⟩)] W fun e w'=>e= .returned (.bool (jW vars x))/\Fr [] W w':=by
 have KA:=ae (fun u:Ext W=>Qb u.v x hx);obtain⟨t,ht⟩:∃t,tv x=t:=⟨_,rfl⟩
 simp only[ht]at KA;have eb:=Ext.cell hc;unfold jW;rw[ht];by_cases h1:t<1
 ·have hd:decide (t<1)=true:=qak h1;rw[hd];go_enter Tryz.func54,Tryz.ntmps54;go_wp2;refine ap ?_;repeat (go_big_quiet_step (exact bp (KA.o _)))
  refine fq ?_;intro w2 J;clear eb hc;go_wp2;go_ret;exact⟨rfl,J.o⟩
 ·have hd:decide (t<1)=false:=qaj h1;rw[hd];by_cases h2:vars<t
  ·have xM:decide (vars<t)=true:=qak h2;rw[xM];go_enter Tryz.func54,Tryz.ntmps54;go_wp2;refine ap ?_;repeat (go_big_quiet_step (exact bp (KA.o _)))
   refine fq ?_;intro w2 J;clear eb hc;go_wp2;go_ret;exact⟨rfl,J.o⟩
  ·have xM:decide (vars<t)=false:=qaj h2;rw[xM];go_enter Tryz.func54,Tryz.ntmps54;go_wp2;refine ap ?_;repeat (go_big_quiet_step (exact bp (KA.o _)))
   refine fq ?_;intro w2 J;clear eb hc;go_wp2;go_ret;exact⟨rfl,J.o⟩
theorem Ig:∀args w,(callFunc 54 args).run Tryz.prog w= .ok (.enter 54 args) w:=enters_of Tryz.func54 (by kernel_rfl) rfl
def lX(vars:Int)(xs:List Int):Int:=if 1024<xs.length then 5 else if xs.any (jW vars)=true then 4 else 0
theorem kT(w:World)(vars:Int)(A:Option Addr)(c:Nat)(xs:List Int)(h:Rd w A xs)(hr:Ra xs):
  Calls Tryz.prog 26 #[.int .i64 vars, .slice A xs.length c] w fun e w'=>e= .returned (.int .i64 (lX vars xs))/\Fr [] w w':=by
 unfold lX;by_cases hl:1024<xs.length
 ·rw[qai hl];have Ta:(1024:Int)<(xs.length:Int):=by omega
  clear h hr;go_enter Tryz.func26,Tryz.ntmps26;go_wp2;go_ret;exact⟨rfl,aR _ _⟩
 ·rw[qah hl];have HB:aj (Fr [] w (w.alloc (.cells #[.int .i64 vars] 3))):=aR _ _;have U7:aj ((w.alloc (.cells #[.int .i64 vars] 3)).cell? ⟨w.heap.size,0,none⟩=some (.int .i64 vars)):=(At.new w _ _).cell 0;have J:=ae (jh (w.alloc (.cells #[.int .i64 vars] 3)) A c xs 54 #[.pointer (some ⟨w.heap.size,0,none⟩)] (jW vars) Ig (h.keep HB.o) hr (by omega) (fun W hW x _ hx=>LB W w.heap.size vars (hW.aF U7.o) x hx));have Ta:(xs.length:Int)<=(1024:Int):=by omega
  obtain⟨q,hq⟩:∃q,xs.any (jW vars)=q:=⟨_,rfl⟩
  rw[hq]at J⊢;clear h hr hq;go_enter Tryz.func26,Tryz.ntmps26;go_wp2_with fail;refine J.o.mono ?_;rintro e w2 ⟨rfl,hf⟩;have HF:=ae (HB.o.ak hf);clear hf J;cases q with
  |true=>
   go_wp2;go_ret;exact⟨rfl,HF.o⟩
  |false=>
   go_wp2;go_ret;exact⟨rfl,HF.o⟩
theorem JH(W:World)(b a:Nat)(vars:Int)(hb:W.cell? ⟨b,0,none⟩=some (.pointer (some ⟨a,0,none⟩)))(hc:W.cell? ⟨a,2,none⟩=some (.int .i64 vars))(x:Int)(J:eJ x):
  Calls Tryz.prog 75 #[.int .i64 x, .pointer (some ⟨b,0,none⟩)] W fun e w'=>e= .returned (.bool (jW vars x))/\Fr [] W w':=by
 have HU:=ae (@YU x J);have HO:=ae (@YV x J);unfold jW;go_enter Tryz.func75,Tryz.ntmps75;go_wp2_with fail;all_goals (go_ret;refine⟨?_,Fr.refl _ _⟩;first |rw[<-HU.o (by assumption)] |rw[<-HO.o (by omega)])
 all_goals first | (rw[Bool.or_comm];rfl) | (rw[qak (by assumption:vars<wrap64 (-x)),Bool.or_true];rfl) | (rw[qak (by assumption:vars<x),Bool.or_true];rfl) | (rw[qaj (by omega:¬vars<wrap64 (-x)),Bool.or_false];rfl) | (rw[qaj (by omega:¬vars<x),Bool.or_false];rfl)
theorem Ie:∀args w,(callFunc 75 args).run Tryz.prog w= .ok (.enter 75 args) w:=enters_of Tryz.func75 (by kernel_rfl) rfl
theorem Rd.Rp{w:World}{A:Option Addr}{us:List Int}{k:Nat}(h:Rd w A us):Rd w A (us.take k):=by intro J;rw[bz]at J;obtain⟨b,o,hA,hx⟩:=h (by omega);refine⟨b,o,hA,fun j hj=> ?_⟩;rw[bz]at hj;rw[hx j (by omega)];simp only[aa,List.getElem?_take,qai (show j<k by omega)]
theorem JC{x:Int}(h:eJ x):(x<=tv x/\ -x<=tv x)\/tv x<0:=by obtain⟨h0,h1⟩:=h;rcases oq x h0 with⟨J,h3⟩ |⟨J,h3,h4⟩ |⟨J,h3,h4⟩<;>omega
namespace Sv
def a7(S:Sv):Sv:={ S with has:=false,core:=[] }
def fE(red:Bool)(budget:Int)(us:List Int)(D C:Nat)(Q:Sv->Int->Prop)(S:Sv):Prop:=
 if(decide (budget<1) ||us.any (jW S.vars))=true then Q S.a7 0
 else if S.bad=true then Q S.a7.cW 2
 else ev red budget us (fun J r=>Q (J.back 0) r) D C 64 0 S.a7.cW
theorem Ok.a7{S:Sv}{m:Nat}(ok:S.Ok m):S.a7.Ok m:=⟨ok.vl,ok.tr,ok.hi,ok.hl,ok.ph,ok.wl,ok.ll,ok.wb,ok.wt,ok.lr,ok.ln,ok.lb,ok.hd,ok.rs⟩
end Sv
theorem bh.a7{w:World}{L:aO}{S:Sv}(h:bh w L S):
  ∃L',bh ((w.setCell ⟨L.a,14,none⟩ (.bool false)).setCell ⟨L.a,7,none⟩ (.slice none 0 0)).drew L' S.a7/\L.ext L' w/\Fr (L.own w) w ((w.setCell ⟨L.a,14,none⟩ (.bool false)).setCell ⟨L.a,7,none⟩ (.slice none 0 0)).drew:=by
 obtain⟨g1,f1⟩:=h.qj 14 (.bool false) { S with has:=false } (by simp[qm]) ⟨rfl,rfl,rfl,rfl,rfl,rfl,rfl⟩;obtain⟨L',g2,J,f2,_⟩:=g1.oZ (F:=[]) (Ints.nil _) (Fr.refl _ _) (fun k hk=>by cases hk) (fun k hk=>by simp[ao]at hk);have hz:w.heap.size<=(w.setCell ⟨L.a,14,none⟩ (.bool false)).heap.size:=f1.size;exact⟨L',g2.keep (Fr.refl [] _).drew,⟨J.1,J.2.1,fun k hk e=>J.2.2 k (aS hk hz) e⟩,(aO.aQ (aO.cw L w) f1 f2).drew⟩
theorem FZ(red:Bool)(LS:red=true->IM)(w:World)(L:aO)(S:Sv)(h:bh w L S)(ok:S.Ok 0)(A:Option Addr)(c:Nat)(us:List Int)(sP:IP w L A us)(kQ:Ra us)(vK:us.length<=c)(Be:us.length<=1099511627776)(budget:Int)(D C:Nat)(Q:Sv->Int->Prop)(Jb:S.used<4611686018427387904)(hW:S.fE red budget us D C Q):
  Calls Tryz.prog 39 #[.pointer (some ⟨L.a,0,none⟩), .int .i64 budget, .slice A us.length c] w (IJ Q L w):=by
 obtain⟨w1,eo⟩:∃w1,w.alloc (.cells #[.pointer (some ⟨L.a,0,none⟩)] 78)=w1:=⟨_,rfl⟩
 have ib:aj (Fr [] w w1):=by rw[<-eo];exact aR _ _
 have nX:w1.cell? ⟨w.heap.size,0,none⟩=some (.pointer (some ⟨L.a,0,none⟩)):=by rw[<-eo];exact(At.new w _ _).cell 0
 have uS:=ae nX;obtain⟨L1,xP⟩:∃L1,L.shut w=L1:=⟨_,rfl⟩
 have H1:aj (bh w1 L1 S):=by rw[<-xP];exact h.shut.keep ib.o
 have fH:aj (L.ext L1 w):=by rw[<-xP];exact L.og w
 have Fo:(L1.dh w.heap.size).1≠L1.id:=by rw[<-xP];exact aO.ja (aq _)
 have xp:aj (w.heap.size∉L1.own w1):=aO.o9 Fo;have bt:=ae Fo;have dZ:aj (Fr (L.own w) w w1):=ib.o.mono (fun k hk=>by cases hk);have tz:aj (IP w1 L1 A us):=⟨sP.1.keep ib.o,fun h0=>EJ fH.o (sP.2 h0) (fun k hk=>sP.1.blk h0 k hk)⟩
 have lh:=ae ok;have HW:=ae hW;have tf:=ae kQ;have bg:=ae LS;have KM:=ae (my w1 L1 S H1.o);have nW:L1.a=L.a:=fH.o.1;rw[nW]at KM;have f14:=H1.o.obj.frozen 14;have f7:=H1.o.obj.frozen 7;obtain⟨-,-,-,-,-,-,-,c7,-,-,-,-,-,-,NS⟩:=H1.o.cells;rw[nW]at f14 f7 c7 NS;obtain⟨L2,h2,jZ,cE⟩:=H1.o.a7;rw[nW]at h2 cE;have aB:=ae h2;have YN:=ae jZ;have a1:=ae cE;clear h ok sP hW kQ xP nW h2 jZ cE LS Fo;go_enter Tryz.func39,Tryz.ntmps39;go_upto_region 1 with fail;clear eo;go_wp2_with fail;refine KM.o.mono ?_;clear KM;rintro e w2 ⟨rfl,rfl⟩;go_upto_region 3 with fail;go_region;obtain⟨w3,ow⟩:∃w3,((w1.setCell ⟨L.a,14,none⟩ (.bool false)).setCell ⟨L.a,7,none⟩ (.slice none 0 0)).drew=w3:=⟨_,rfl⟩
 rw[ow]at aB a1⊢;have H3:=aB;have Mp:=a1;have jt:aj (L.ext L2 w):=aO.a6 fH.o YN.o dZ.o.size;have dG:aj (Fr (L.own w) w w3):=aO.aQ fH.o dZ.o Mp.o;have IW:aj (IP w3 L2 A us):=tz.o.step YN.o Mp.o;have xO:=Mp.o.bF xp.o uS.o;have Mu:=ae xO;have Yz:aj ((L2.dh w.heap.size).1≠L2.id):=fun e=>bt.o (YN.o.2.2 _ (by have :=bR uS.o;exact this) (e.trans YN.o.2.1));have nZ:=ae lh.o.a7;clear ow nX c7 NS f7 f14 aB a1;have ad:=HW.o;unfold Sv.fE at ad;by_cases nq:budget<1
 ·have hd:decide (budget<1)=true:=qak nq;rw[hd,Bool.true_or,qai rfl]at ad;have HQ:=ae ad;clear ad;go_wp2;go_region;clear xO;have FF:aj (IJ Q L w (.returned (.int .i64 0)) w3.drew):=⟨S.a7,0,HQ.o,nZ.o,rfl,L2,H3.o.keep (Fr.refl [] w3).drew,jt.o,dG.o.ak ((Fr.refl [] w3).drew.mono (fun k hk=>by cases hk))⟩
  go_wp2;go_ret;exact FF.o
 ·have hd:decide (budget<1)=false:=qaj nq;rw[hd,Bool.false_or]at ad;have HQ:=ae ad;obtain⟨-,-,c2,-⟩:=H3.o.cells;rw[jt.o.1]at c2;have pM:=ae c2;have gF:S.a7.vars=S.vars:=rfl;rw[gF]at c2;have e2:=Ext.cell c2;have eb:=Ext.cell xO;have E9:=ae (fun u:Ext w3=>jh u.v A c us 75 #[.pointer (some ⟨w.heap.size,0,none⟩)] (jW (S.vars:Int)) Ie (IW.o.1.keep u.fr) tf.o (by omega) (fun W hW x _ hx=>JH W w.heap.size L.a (S.vars:Int) ((u.fr.ak hW).aF Mu.o) ((u.fr.ak hW).aF pM.o) x hx));clear ad gF;by_cases hk:1024<us.length
  ·have Bj:(1024:Int)<(us.length:Int):=by omega
   have ZB:(1024:Int)<=(c:Int):=by omega
   have hlen:(us.take 1024).length=1024:=by rw[bz];omega
   have yC:=ae (fun u:Ext w3=>kT u.v (S.vars:Int) A c (us.take 1024) (IW.o.1.keep u.fr).Rp (Ra.sub tf.o (fun y hy=>List.mem_of_mem_take hy)));have HP:aj ((us.take 1024).any (jW (S.vars:Int))=true->us.any (jW (S.vars:Int))=true):=fun h5=>by rw[cP]at h5⊢;obtain⟨y,hy,h6⟩:=h5;exact⟨y,List.mem_of_mem_take hy,h6⟩
   unfold lX at yC;rw[hlen]at yC;simp only[da,if_false]at yC;obtain⟨p,hp⟩:∃p,(us.take 1024).any (jW (S.vars:Int))=p:=⟨_,rfl⟩
   rw[hp]at yC HP;clear hp hlen hk;cases p with
   |true=>
    have J:=HQ.o;rw[qai (HP.o rfl)]at J;have HQ:=ae J;simp only[if_true]at yC;clear J HP;go_wp2;refine ap ?_;repeat (go_big_quiet_step (first |exact bf (yC.o _) |exact bf (E9.o _)))
    refine fq ?_;intro w4 cG;clear xO c2 e2 eb yC E9;have FF:aj (IJ Q L w (.returned (.int .i64 0)) w4):=⟨S.a7,0,HQ.o,nZ.o,rfl,L2,H3.o.keep cG.o,jt.o,dG.o.ak (cG.o.mono (fun k hk=>by cases hk))⟩
    go_wp2;go_ret;exact FF.o
   |false=>
    simp only[bu,if_false]at yC;obtain⟨q,SM⟩:∃q,us.any (jW (S.vars:Int))=q:=⟨_,rfl⟩
    rw[SM]at E9;have J:=HQ.o;rw[SM]at J;have aM:=ae SM;cases q with
    |true=>
     rw[qai rfl]at J;have HQ:=ae J;clear J HP SM;go_wp2;refine ap ?_;repeat (go_big_quiet_step (first |exact bf (yC.o _) |exact bf (E9.o _)))
     refine fq ?_;intro w4 cG;clear xO c2 e2 eb yC E9;have FF:aj (IJ Q L w (.returned (.int .i64 0)) w4):=⟨S.a7,0,HQ.o,nZ.o,rfl,L2,H3.o.keep cG.o,jt.o,dG.o.ak (cG.o.mono (fun k hk=>by cases hk))⟩
     go_wp2;go_ret;exact FF.o
    |false=>
     rw[qah (by simp)]at J;have HQ:=ae J;clear J HP SM;go_wp2;refine ap ?_;repeat (go_big_quiet_step (first |exact bf (yC.o _) |exact bf (E9.o _)))
     refine fq ?_;intro w4 cG;clear xO c2 e2 eb yC E9;have H4:=ae (H3.o.keep cG.o);have ic:aj (Fr (L.own w) w w4):=dG.o.ak (cG.o.mono (fun k hk=>by cases hk));have N9:=ae (IW.o.keep cG.o);have Tt:=cG.o.aF Mu.o;obtain⟨-,-,-,-,-,-,-,-,-,c9,-,-,-,Ae,-⟩:=H4.o.cells;rw[jt.o.1]at c9 Ae;have f9:=H4.o.obj.frozen 9;rw[jt.o.1]at f9;obtain⟨uu,WM⟩:∃uu,S.a7.used=uu:=⟨_,rfl⟩
     have bj:uu<4611686018427387904:=by rw[<-WM];exact Jb
     obtain⟨g5,f5⟩:=H4.o.qj 9 (.int .i64 ((uu:Int)+1)) S.a7.cW (by simp[qm,Sv.cW,WM]) ⟨rfl,rfl,rfl,rfl,rfl,rfl,rfl⟩;rw[jt.o.1]at g5 f5;rw[WM]at c9;have bb:IntKind.i64.wrap ((uu:Int)+1)=(uu:Int)+1:=IntWalk.i64_in _ (by omega);obtain⟨bd,mT⟩:∃bd,S.bad=bd:=⟨_,rfl⟩
     have Tw:S.a7.bad=bd:=mT;rw[Tw]at Ae;have J:=HQ.o;rw[mT]at J;have VE:aj (w.heap.size≠L.a):=fun e=>by have h5:=H4.o.t0;rw[jt.o.1,<-e]at h5;exact Yz.o (by rw[h5])
     clear mT Tw HQ WM Jb;go_upto_region 7 with fail;obtain⟨w5,Cn⟩:∃w5,w4.setCell ⟨L.a,9,none⟩ (.int .i64 ((uu:Int)+1))=w5:=⟨_,rfl⟩
     have Ts:w5.cell? ⟨w.heap.size,0,none⟩=some (.pointer (some ⟨L.a,0,none⟩)):=by rw[<-Cn];exact((Fr.refl [L.a] w4).setCell (p:=⟨L.a,9,none⟩) (.inl (by simp)) _).bF (by simpa using VE.o) Tt
     have bo:w5.cell? ⟨L.a,13,none⟩=some (.bool bd):=by
      have h5:=g5.cells.2.2.2.2.2.2.2.2.2.2.2.2.2.1;rw[jt.o.1,Cn]at h5;have h6:=H4.o.cells.2.2.2.2.2.2.2.2.2.2.2.2.2.1;rw[jt.o.1,Ae]at h6;have h7:bd=S.a7.bad:=(by simpa using h6)
      rw[h7];exact h5
     rw[Cn]at g5 f5⊢;have H5:=ae g5;have js:=ae (aO.aQ jt.o ic.o f5);have CT:=ae (N9.o.step (aO.cw L2 w4) f5);have ba:=ae Ts;clear Cn g5 f5 c9 Ae f9 Tt bb;cases bd with
     |true=>
      rw[qai rfl]at J;have FF:aj (IJ Q L w (.returned (.int .i64 2)) w5):=⟨S.a7.cW,2,J,nZ.o.cW,rfl,L2,H5.o,jt.o,js.o⟩
      clear J;go_wp2;go_ret;exact FF.o
     |false=>
      rw[qah (by simp)]at J;have KS:=ae (tP red bg.o w5 L2 S.a7.cW H5.o nZ.o.cW A c us CT.o (fun x hx=>by have h5:=aM.o;rw[List.any_eq_false]at h5;have h6:=h5 x hx;unfold jW at h6;simp only[dI,qam,not_or]at h6;have h7:=(fR (p:=eJ)).1 tf.o x hx;have h8:=JC h7;show -(S.vars:Int)<=x/\x<=(S.vars:Int);omega) Be budget _ D C J);rw[jt.o.1]at KS;clear J;go_wp2_with fail;refine KS.o.mono ?_;clear KS;rintro e w6 ⟨S6,r,ar,ab,rfl,L6,h6,To,gQ⟩;have H6:=ae h6;have sC:=ae (aO.a6 jt.o To js.o.size);have fC:=ae (aO.aQ jt.o js.o gQ);have aT:=gQ.bF (aO.o9 Yz.o) ba.o;have aK:=ae ar;have vX:=ae ab;have KB:=ae (py w6 L6 S6 H6.o 0 ab 0 (by omega));rw[sC.o.1]at KB;clear h6 To gQ ar ab Ts;go_wp2_with fail;refine KB.o.mono ?_;clear KB aT;rintro e w7 ⟨rfl,L7,h7,Hq,jg⟩;have FF:aj (IJ Q L w (.returned (.int .i64 r)) w7):=⟨S6.back 0,r,aK.o,(vX.o.back 0).1,rfl,L7,h7,aO.a6 sC.o Hq fC.o.size,aO.aQ sC.o fC.o jg⟩
      clear h7 Hq jg;go_wp2;go_ret;exact FF.o
  ·have Bj:(us.length:Int)<=(1024:Int):=by omega
   have ZB:(us.length:Int)<=(c:Int):=by omega
   have yC:=ae (fun u:Ext w3=>kT u.v (S.vars:Int) A c us (IW.o.1.keep u.fr) tf.o);unfold lX at yC;rw[qah hk]at yC;have HP:aj (us.any (jW (S.vars:Int))=true->us.any (jW (S.vars:Int))=true):=id;obtain⟨p,hp⟩:∃p,us.any (jW (S.vars:Int))=p:=⟨_,rfl⟩
   have HP:aj (p=true->us.any (jW (S.vars:Int))=true):=fun h5=>hp.trans h5;rw[hp]at yC;clear hp hk;cases p with
   |true=>
    have J:=HQ.o;rw[qai (HP.o rfl)]at J;have HQ:=ae J;simp only[if_true]at yC;clear J HP;go_wp2;refine ap ?_;repeat (go_big_quiet_step (first |exact bf (yC.o _) |exact bf (E9.o _)))
    refine fq ?_;intro w4 cG;clear xO c2 e2 eb yC E9;have FF:aj (IJ Q L w (.returned (.int .i64 0)) w4):=⟨S.a7,0,HQ.o,nZ.o,rfl,L2,H3.o.keep cG.o,jt.o,dG.o.ak (cG.o.mono (fun k hk=>by cases hk))⟩
    go_wp2;go_ret;exact FF.o
   |false=>
    simp only[bu,if_false]at yC;obtain⟨q,SM⟩:∃q,us.any (jW (S.vars:Int))=q:=⟨_,rfl⟩
    rw[SM]at E9;have J:=HQ.o;rw[SM]at J;have aM:=ae SM;cases q with
    |true=>
     rw[qai rfl]at J;have HQ:=ae J;clear J HP SM;go_wp2;refine ap ?_;repeat (go_big_quiet_step (first |exact bf (yC.o _) |exact bf (E9.o _)))
     refine fq ?_;intro w4 cG;clear xO c2 e2 eb yC E9;have FF:aj (IJ Q L w (.returned (.int .i64 0)) w4):=⟨S.a7,0,HQ.o,nZ.o,rfl,L2,H3.o.keep cG.o,jt.o,dG.o.ak (cG.o.mono (fun k hk=>by cases hk))⟩
     go_wp2;go_ret;exact FF.o
    |false=>
     rw[qah (by simp)]at J;have HQ:=ae J;clear J HP SM;go_wp2;refine ap ?_;repeat (go_big_quiet_step (first |exact bf (yC.o _) |exact bf (E9.o _)))
     refine fq ?_;intro w4 cG;clear xO c2 e2 eb yC E9;have H4:=ae (H3.o.keep cG.o);have ic:aj (Fr (L.own w) w w4):=dG.o.ak (cG.o.mono (fun k hk=>by cases hk));have N9:=ae (IW.o.keep cG.o);have Tt:=cG.o.aF Mu.o;obtain⟨-,-,-,-,-,-,-,-,-,c9,-,-,-,Ae,-⟩:=H4.o.cells;rw[jt.o.1]at c9 Ae;have f9:=H4.o.obj.frozen 9;rw[jt.o.1]at f9;obtain⟨uu,WM⟩:∃uu,S.a7.used=uu:=⟨_,rfl⟩
     have bj:uu<4611686018427387904:=by rw[<-WM];exact Jb
     obtain⟨g5,f5⟩:=H4.o.qj 9 (.int .i64 ((uu:Int)+1)) S.a7.cW (by simp[qm,Sv.cW,WM]) ⟨rfl,rfl,rfl,rfl,rfl,rfl,rfl⟩;rw[jt.o.1]at g5 f5;rw[WM]at c9;have bb:IntKind.i64.wrap ((uu:Int)+1)=(uu:Int)+1:=IntWalk.i64_in _ (by omega);obtain⟨bd,mT⟩:∃bd,S.bad=bd:=⟨_,rfl⟩
     have Tw:S.a7.bad=bd:=mT;rw[Tw]at Ae;have J:=HQ.o;rw[mT]at J;have VE:aj (w.heap.size≠L.a):=fun e=>by have h5:=H4.o.t0;rw[jt.o.1,<-e]at h5;exact Yz.o (by rw[h5])
     clear mT Tw HQ WM Jb;go_upto_region 7 with fail;obtain⟨w5,Cn⟩:∃w5,w4.setCell ⟨L.a,9,none⟩ (.int .i64 ((uu:Int)+1))=w5:=⟨_,rfl⟩
     have Ts:w5.cell? ⟨w.heap.size,0,none⟩=some (.pointer (some ⟨L.a,0,none⟩)):=by rw[<-Cn];exact((Fr.refl [L.a] w4).setCell (p:=⟨L.a,9,none⟩) (.inl (by simp)) _).bF (by simpa using VE.o) Tt
     have bo:w5.cell? ⟨L.a,13,none⟩=some (.bool bd):=by
      have h5:=g5.cells.2.2.2.2.2.2.2.2.2.2.2.2.2.1;rw[jt.o.1,Cn]at h5;have h6:=H4.o.cells.2.2.2.2.2.2.2.2.2.2.2.2.2.1;rw[jt.o.1,Ae]at h6;have h7:bd=S.a7.bad:=(by simpa using h6)
      rw[h7];exact h5
     rw[Cn]at g5 f5⊢;have H5:=ae g5;have js:=ae (aO.aQ jt.o ic.o f5);have CT:=ae (N9.o.step (aO.cw L2 w4) f5);have ba:=ae Ts;clear Cn g5 f5 c9 Ae f9 Tt bb;cases bd with
     |true=>
      rw[qai rfl]at J;have FF:aj (IJ Q L w (.returned (.int .i64 2)) w5):=⟨S.a7.cW,2,J,nZ.o.cW,rfl,L2,H5.o,jt.o,js.o⟩
      clear J;go_wp2;go_ret;exact FF.o
     |false=>
      rw[qah (by simp)]at J;have KS:=ae (tP red bg.o w5 L2 S.a7.cW H5.o nZ.o.cW A c us CT.o (fun x hx=>by have h5:=aM.o;rw[List.any_eq_false]at h5;have h6:=h5 x hx;unfold jW at h6;simp only[dI,qam,not_or]at h6;have h7:=(fR (p:=eJ)).1 tf.o x hx;have h8:=JC h7;show -(S.vars:Int)<=x/\x<=(S.vars:Int);omega) Be budget _ D C J);rw[jt.o.1]at KS;clear J;go_wp2_with fail;refine KS.o.mono ?_;clear KS;rintro e w6 ⟨S6,r,ar,ab,rfl,L6,h6,To,gQ⟩;have H6:=ae h6;have sC:=ae (aO.a6 jt.o To js.o.size);have fC:=ae (aO.aQ jt.o js.o gQ);have aT:=gQ.bF (aO.o9 Yz.o) ba.o;have aK:=ae ar;have vX:=ae ab;have KB:=ae (py w6 L6 S6 H6.o 0 ab 0 (by omega));rw[sC.o.1]at KB;clear h6 To gQ ar ab Ts;go_wp2_with fail;refine KB.o.mono ?_;clear KB aT;rintro e w7 ⟨rfl,L7,h7,Hq,jg⟩;have FF:aj (IJ Q L w (.returned (.int .i64 r)) w7):=⟨S6.back 0,r,aK.o,(vX.o.back 0).1,rfl,L7,h7,aO.a6 sC.o Hq fC.o.size,aO.aQ sC.o fC.o jg⟩
      clear h7 Hq jg;go_wp2;go_ret;exact FF.o
end Go.Proofs.YtpjbaobgnhjgoaaGreat
