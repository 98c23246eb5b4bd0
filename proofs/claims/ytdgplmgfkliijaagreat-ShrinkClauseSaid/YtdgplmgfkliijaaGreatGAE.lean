/- Parts of a proof. -/
import Derived.Test.YtdgplmgfkliijaaGreatGAD
import Derived.Laws.AppendOwnNone
import Derived.Laws.BitsLemmas
import Derived.Maps.OwnOps
import Derived.Maps.OwnSet
import Derived.Shelf.Abstract
import Derived.Lib.ConvBytes
import Derived.Lib.Bytealg
import Derived.Laws.Externs
set_option linter.unusedVariables false
set_option linter.unusedSimpArgs false
set_option maxHeartbeats 8000000
set_option maxRecDepth 100000
namespace Go.Proofs.YtdgplmgfkliijaaGreat
open Go.RowKit
theorem Cj:(Tryz.prog.info? 4).map (fun i=>(i.zero,i.size,i.bytes))=some (some (.bool false),1,1):=by kernel_rfl
theorem lF (W:World) (z:Int) (h0:0≤z) (h1:z≤1099511627776):
  (Instr.makeSlice 81 (.int .i64 z) (.int .i64 z)).run Tryz.prog W= .ok (.slice (some ⟨W.heap.size,0,none⟩) z.toNat z.toNat) (W.alloc (.cells (madeCells #[.bool false] z.toNat) 4)):=by
 obtain ⟨i0,hi,vG,nc,A8⟩:=info_parts Cj
 obtain ⟨n,rfl⟩:=Int.eq_ofNat_of_zero_le h0
 have hr:=run_make (P:=Tryz.prog) W 81 4 i0 (.bool false) Tryz.underlying81 hi vG .i64 .i64 n n (by omega) (Int.le_refl _) (by rw [A8];omega) (by omega)
 simp only [Int.toNat_natCast] at hr⊢
 rw [nc,mz] at hr
 exact hr
theorem qa (W:World) (n:Nat) (h:n≤maxLen):Bools (W.alloc (.cells (madeCells #[.bool false] n) 4)) (some ⟨W.heap.size,0,none⟩) n (List.replicate n false):=by
 have :=World.ownsRow_lit (base:=0) (e:=4) (size:=1) W (madeCells #[.bool false] n) n (bH _) h (by rw [size_madeCells];omega)
 rw [toList_madeCells_one] at this
 unfold Bools
 rw [bh,List.map_replicate]
 exact this
theorem bf.pk {w:World} {L:aQ} {S:Sv} (h:bf w L S) (i:Nat) (v:Value) (S':Sv) (he:(oQ L S).setIfInBounds i v=oQ L S')
  (hS:S'.T=S.T∧S'.H=S.H∧S'.list=S.list∧S'.watch=S.watch∧S'.phase=S.phase∧S'.model=S.model∧S'.core=S.core):
  bf (w.setCell ⟨L.a,i,none⟩ v) L S'∧Fr (L.own w) w (w.setCell ⟨L.a,i,none⟩ v):=by
 have hf:Fr [L.a] w (w.setCell ⟨L.a,i,none⟩ v):=(Fr.refl _ w).setCell (.inl (by simp)) _
 obtain ⟨h1,_,h3⟩:=h.top (L':=L) (S':=S') hf (by have :=h.obj.eo i v;rw [he] at this;exact this) ⟨rfl,rfl,rfl,rfl,rfl,rfl,rfl,rfl,rfl,rfl,rfl,rfl,rfl,rfl,rfl,rfl,rfl⟩ hS
 exact ⟨h1,h3⟩
theorem bf.model {w w1:World} {L:aQ} {S:Sv} (h:bf w L S) {g n:Nat} {ms:List Bool} (hr:Bools w1 (some ⟨g,0,none⟩) n ms) (hg:w.heap.size≤g) (hf:Fr [] w w1):
  ∃L',bf (w1.setCell ⟨L.a,6,none⟩ (.slice (some ⟨g,0,none⟩) ms.length n)) L' { S with model:=ms }∧L.ext L' w∧Fr (L.own w) w (w1.setCell ⟨L.a,6,none⟩ (.slice (some ⟨g,0,none⟩) ms.length n))∧
   L'={ L with mA:=some ⟨g,0,none⟩,mC:=n,cQ:=L.re w (6,0) }:=by
 have bZ:Fr [L.a] w (w1.setCell ⟨L.a,6,none⟩ (.slice (some ⟨g,0,none⟩) ms.length n)):=(hf.mono (fun k hk=>by cases hk)).setCell (.inl (by simp)) _
 have hF:∀k,k∈[L.a]→k<w.heap.size→L.cQ k=(L.id,0,0):=fun k hk _=>by simp at hk;subst hk;exact h.t0
 have o:=h.off (P:=(· =(0,0))) bZ (fun k hk hl=>⟨_,rfl,hF k hk hl⟩)
 have gt:=h.tags (6,0)
 have dI:L.a≠g:=by have :=h.obj.lt;omega
 refine ⟨{ L with mA:=some ⟨g,0,none⟩,mC:=n,cQ:=L.re w (6,0) },⟨?_,o.tr (by decide),o.hp (by decide),h.io,h.AA,h.Ay,o.ux (by decide),o.rws (by decide),o.uv (by decide),?_,o.tO (by decide),fun n hn=>o.pr n hn (by simp),fun n hn=>o.rr n hn (by simp),
  gt.t0,gt.t1,gt.t2,gt.t3,gt.t4,gt.t5,fun k hk=> ?_,gt.t7,gt.t8,gt.t9⟩,⟨rfl,rfl,fun k hk e=>aQ.nZ hk e⟩,aQ.gE bZ (fun k hk hl=>by rw [hF k hk hl]),rfl⟩
 ·have :=(hf.at_ h.obj (by simp)).eo 6 (.slice (some ⟨g,0,none⟩) ms.length n)
  simpa [oQ] using this
 ·have dD:Fr [L.a] w1 (w1.setCell ⟨L.a,6,none⟩ (.slice (some ⟨g,0,none⟩) ms.length n)):=(Fr.refl _ w1).setCell (.inl (by simp)) _
  refine eH hr dD (fun k hk hm=> ?_)
  simp [ap] at hk hm
  omega
 ·simp [ap] at hk
  subst hk
  exact aQ.MG hg
theorem bf.Zd {w:World} {L:aQ} {S:Sv} (h:bf w L S) {v:Nat} (hv:v<S.model.length) (b:Bool):
  ∃gp,L.mA=some ⟨gp,0,none⟩∧w.cell? ⟨gp,v,none⟩=some (.bool S.model[v]!)∧w.frozen? ⟨gp,v,none⟩=false∧bf (w.setCell ⟨gp,v,none⟩ (.bool b)) L { S with model:=S.model.set v b }∧Fr (L.own w) w (w.setCell ⟨gp,v,none⟩ (.bool b)):=by
 have r:=h.xv
 unfold Bools at r
 obtain ⟨gp,hg,sE⟩:∃gp,L.mA=some ⟨gp,0,none⟩∧gp<w.heap.size:=by
  rcases r.2 with ⟨_,h2⟩ |⟨g,cap,cur,hv,_,hg,_⟩
  ·omega
  ·simp only [Value.slice.injEq,true_and] at hv
   exact ⟨g,hv.1,At.lt (t:=4) hg⟩
 rw [hg] at r
 have kG:L.cQ gp=(L.id,6,0):=h.t6 gp (by rw [hg];simp [ap])
 have hf:Fr [gp] w (w.setCell ⟨gp,v,none⟩ (.bool b)):=(Fr.refl _ w).setCell (.inl (by simp)) _
 have o:=h.off (P:=(· =(6,0))) hf (fun k hk hl=>⟨_,rfl,by simp at hk;subst hk;exact kG⟩)
 have mg:=(World.ownsRow.stored r v (.bool b)).1
 refine ⟨gp,hg,?_,World.ownsRow.frozenAt r v,⟨?_,o.tr (by decide),o.hp (by decide),h.io,h.AA,h.Ay,o.ux (by decide),o.rws (by decide),o.uv (by decide),?_,o.tO (by decide),fun n hn=>o.pr n hn (by simp),fun n hn=>o.rr n hn (by simp),
  h.t0,h.t1,h.t2,h.t3,h.t4,h.t5,h.t6,h.t7,h.t8,h.t9⟩,aQ.gE hf (fun k hk hl=>by simp at hk;subst hk;rw [kG])⟩
 ·rw [World.ownsRow.cellAt r v (by omega)]
  simp only [aO,af hv,cu,aa,ay]
 ·have :=o.obj (by decide)
  simp only [oQ,aw] at this⊢
  exact this
 ·unfold Bools
  simp only [aw,List.map_set]
  rw [hg]
  exact mg
namespace Sv
def pop (S:Sv):Sv:={ S with H:=S.H.jS }
theorem Ok.pop {S:Sv} {m:Nat} (ok:S.Ok m) (h0:0<S.H.items.length):S.pop.Ok m:=by
 have h:=ok.hi.pop h0
 exact ⟨ok.vl,ok.tr,h.1,by show S.H.jS.at_.length=_;rw [h.2.2.2.1];exact ok.hl,ok.ph,ok.wl,ok.ll,ok.wb,ok.wt,ok.lr,ok.ln,ok.lb,ok.hd,ok.rs⟩
theorem BX {S:Sv} {f:Nat} (h:S.H.items.length=0):cI f S=(S,0):=by
 cases f with
 |zero=>rfl
 |succ f=>simp only [cI];rw [if_pos h]
theorem BY {S:Sv} {f:Nat} (h:S.H.items.length≠0) (hv:S.val (S.H.it 0)≠0):cI (f+1) S=cI f S.pop:=by
 simp only [cI]
 rw [if_neg h,if_pos (by exact hv)]
 rfl
theorem yK {S:Sv} {f:Nat} (h:S.H.items.length≠0) (hv:S.val (S.H.it 0)=0):cI (f+1) S=(S.pop,if S.phase[(S.H.it 0).toNat]! =true then S.H.it 0 else -(S.H.it 0)):=by
 simp only [cI]
 rw [if_neg h,if_neg (by exact not_not_intro hv)]
 rfl
theorem Ok.cI {m:Nat}:∀(f:Nat) (S:Sv),S.Ok m→(cI f S).1.Ok m∧(Sv.cI f S).1.T=S.T∧(Sv.cI f S).1.vars=S.vars∧(Sv.cI f S).1.list=S.list∧(Sv.cI f S).1.head=S.head∧ -(S.vars:Int)≤(Sv.cI f S).2∧(Sv.cI f S).2≤S.vars
 |0,S,ok=>⟨ok,rfl,rfl,rfl,rfl,by simp only [Sv.cI];omega,by simp only [Sv.cI];omega⟩
 |f+1,S,ok=>by
  by_cases h:S.H.items.length=0
  ·rw [BX h]
   exact ⟨ok,rfl,rfl,rfl,rfl,by simp only;omega,by simp only;omega⟩
  ·have hp:=ok.pop (by omega)
   by_cases hv:S.val (S.H.it 0)=0
   ·rw [yK h hv]
    have hr:=ok.hi.pc.oS 0 (by omega)
    have hl:=ok.hl
    have e:S.H.it 0=S.H.items[0]! :=jd S.H 0
    refine ⟨hp,rfl,rfl,rfl,rfl,?_⟩
    simp only
    split<;>omega
   ·rw [BY h hv]
    exact Ok.cI f S.pop hp
theorem Ok.pick {S:Sv} {m:Nat} (ok:S.Ok m):S.pick.1.Ok m∧S.pick.1.T=S.T∧S.pick.1.vars=S.vars∧S.pick.1.list=S.list∧S.pick.1.head=S.head∧ -(S.vars:Int)≤S.pick.2∧S.pick.2≤S.vars:=Ok.cI _ _ ok
end Sv
theorem EA (w:World) (L:aQ) (S:Sv) (h:bf w L S) (m:Nat) (ok:S.Ok m):
  Calls Tryz.prog 139 #[.pointer (some ⟨L.a,0,none⟩)] w (oF (.int .i64 S.pick.2) S.pick.1 L w):=by
 obtain ⟨dC,fh⟩:∃dC,S.pick=dC:=⟨_,rfl⟩
 have eP:al (Sv.cI (S.H.items.length+1) S=dC):=fh
 rw [fh]
 have mF:al (∀(S':Sv) (r:Int),dC=(S',r)→∀W L',bf W L' S'→L.ext L' w→Fr (L.own w) w W→oF (.int .i64 dC.2) dC.1 L w (.returned (.int .i64 r)) W):=fun S' r e W L' g1 g2 g3=>by
  subst e
  exact ⟨rfl,L',g1,g2,g3⟩
 have HH:=ae h
 have kM:=ae ok
 have nF:=ok.vl
 clear fh h ok
 go_enter Tryz.func139,Tryz.ntmps139
 go_wp2_with fail
 go_loopg [] (S.H.items.length+1) (fun g wr=>∃(S1:Sv) (L1:aQ),al (Sv.cI g S1=dC)∧S1.H.items.length+1≤g∧al (S1.T=S.T∧S1.vars=S.vars)∧al (S1.Ok m)∧al (bf wr L1 S1)∧al (L.ext L1 w)∧al (Fr (L.own w) w wr))
 case atStart=>exact ⟨S,L,eP.o,au _,⟨rfl,rfl⟩,kM.o,HH.o,aQ.co _ _,Fr.refl _ _⟩
 case round=>
  obtain ⟨S1,L1,uR,hg,pR,j4,H1,eG,dy⟩:=hrel
  have HG:=ae hg
  have lO:L1.a=L.a:=eG.o.1
  obtain ⟨-,c1,-⟩:=H1.o.cells
  rw [lO] at c1
  have Xu:=ae lO
  have sD:=j4.o.hi.pc.len
  have NZ:=j4.o.hl
  have PV:S1.vars=S.vars:=pR.o.2
  clear lO hg
  by_cases h0:S1.H.items.length=0
  ·have hn:S1.H.items=[]:=aJ h0
   have KP:=ae (CO wr L1.hL S1.H H1.o.hp hn)
   have HK:al (dC=(S1,0)):=by
    have :=uR.o
    rw [Sv.BX h0] at this
    exact this.symm
   clear hn
   go_wp2_with fail
   refine KP.o.mono ?_
   rintro e w2 ⟨rfl,rfl⟩
   clear c1
   have FF:=ae (mF.o S1 0 HK.o _ L1 H1.o eG.o dy.o)
   go_wp2
   go_ret
   exact FF.o
  ·obtain ⟨f,rfl⟩:∃f,gk=f+1:=⟨gk-1,by have :=HG.o;omega⟩
   obtain ⟨n,hn⟩:∃n,S1.H.items.length=n+1:=⟨S1.H.items.length-1,by omega⟩
   have KP:=ae (Ao wr L1.hL S1.H H1.o.hp j4.o.hi.pc.oS n hn (by omega))
   have hr:=j4.o.hi.pc.oS 0 (by omega)
   have LT:S1.H.it 0=S1.H.items[0]! :=jd S1.H 0
   rw [←LT] at hr
   obtain ⟨v,hv⟩:∃v:Nat,S1.H.it 0=v:=⟨(S1.H.it 0).toNat,by omega⟩
   rw [hv] at hr KP
   have HP:=ae (j4.o.hi.pop (by omega))
   have HV:=ae hv
   have HN:=ae hn
   have Gp:=ae (j4.o.pop (by omega))
   clear LT hv hn
   go_wp2_with fail
   refine KP.o.mono ?_
   clear KP c1
   rintro e w2 ⟨rfl,Nt,bZ⟩
   obtain ⟨L2,g2,Ub,Ua⟩:=H1.o.heap Nt (fD.co _ _) bZ
   have G2:al (bf w2 L2 S1.pop):=g2
   have dx:=ae (aQ.aX eG.o Ub dy.o.size)
   have cH:=ae (aQ.aR eG.o dy.o Ua)
   have aaP:L2.a=L.a:=dx.o.1
   obtain ⟨c0,-,-,-,-,c5,-⟩:=G2.o.cells
   rw [aaP] at c0 c5
   have hvp:v<S1.pop.phase.length:=by rw [Gp.o.ph];show v<S1.vars+1;omega
   obtain ⟨gp,TV,sp,fp⟩:=G2.o.UU hvp
   rw [TV] at c5
   obtain ⟨b,hb⟩:∃b,S1.pop.phase[v]! =b:=⟨_,rfl⟩
   rw [hb] at sp
   have HB:=ae hb
   have ZE:(v:Int)<(S1.pop.phase.length:Int):=by omega
   obtain ⟨pl,xy⟩:∃pl,S1.pop.phase.length=pl:=⟨_,rfl⟩
   rw [xy] at c5 ZE hvp
   have KV:=dQ w2 L2.tL S1.pop.T G2.o.tr (v:Int) (by omega) (by omega) Gp.o.small
   obtain ⟨y,hy⟩:∃y,S1.pop.T.kQ (v:Int)=y:=⟨_,rfl⟩
   rw [hy] at KV
   have KV:=ae KV
   have HY:=ae hy
   have dO:IntKind.i64.wrap (-(v:Int))= -(v:Int):=IntWalk.i64_in _ (by omega)
   clear hb hy xy g2 Ub Ua bZ Nt aaP TV fp
   by_cases jJ:y=0
   ·have hd:decide (y≠0)=false:=by simp [jJ]
    have rl:(y !=0)=false:=by simp [jJ]
    have HK:al (dC=(S1.pop,if b=true then (v:Int) else -(v:Int))):=by
     have :=uR.o
     rw [Sv.yK h0 (by rw [HV.o];exact HY.o.trans jJ),HV.o,Int.toNat_natCast] at this
     rw [←HB.o]
     exact this.symm
    subst jJ
    cases b with
    |true=>
     have FF:=ae (mF.o S1.pop (v:Int) HK.o _ L2 G2.o dx.o cH.o)
     go_wp2_with fail
     refine KV.o.mono ?_
     rintro e w3 ⟨rfl,rfl⟩
     clear KV
     go_wp2
     go_ret
     exact FF.o
    |false=>
     have FF:=ae (mF.o S1.pop (-(v:Int)) HK.o _ L2 G2.o dx.o cH.o)
     go_wp2_with fail
     refine KV.o.mono ?_
     rintro e w3 ⟨rfl,rfl⟩
     clear KV
     go_wp2
     go_ret
     exact FF.o
   ·have rl:(y !=0)=true:=by simp [jJ]
    have HK:al (Sv.cI f S1.pop=dC):=by
     have :=uR.o
     rw [Sv.BY h0 (by rw [HV.o];exact fun h=>jJ (HY.o.symm.trans h))] at this
     exact this
    go_wp2_with fail
    refine KV.o.mono ?_
    rintro e w3 ⟨rfl,rfl⟩
    clear KV
    go_wp2
    go_roundg f
    case measure=>omega
    case rel=>exact ⟨S1.pop,L2,HK.o,by have :=HG.o;have :=HP.o.2.2.1;have e:S1.pop.H.items.length=S1.H.jS.items.length:=rfl;omega,⟨pR.o.1,pR.o.2⟩,Gp.o,G2.o,dx.o,cH.o⟩
theorem Sv.Ok.keep {S:Sv} {m:Nat} (ok:S.Ok m):S.keep.Ok m:=
 ⟨ok.vl,ok.tr,ok.hi,ok.hl,ok.ph,ok.wl,ok.ll,ok.wb,ok.wt,ok.lr,ok.ln,ok.lb,ok.hd,ok.rs⟩
theorem ES (w:World) (L:aQ) (S:Sv) (h:bf w L S) (m:Nat) (ok:S.Ok m):
  Calls Tryz.prog 140 #[.pointer (some ⟨L.a,0,none⟩)] w (oF (.tuple #[]) S.keep L w):=by
 have HH:=ae h
 have kM:=ae ok
 have nF:=ok.vl
 obtain ⟨-,-,c2,-,-,-,d6,-⟩:=h.cells
 obtain ⟨n,hn⟩:∃n,((S.vars:Int)+1).toNat=n:=⟨_,rfl⟩
 have oZ:n=S.vars+1:=by omega
 have LH:=fun W=>lF W ((S.vars:Int)+1) (by omega) (by omega)
 simp only [hn] at LH
 have dO:IntKind.i64.wrap ((S.vars:Int)+1)=(S.vars:Int)+1:=IntWalk.i64_in _ (by omega)
 have HN:=ae oZ
 have fN:=(h.obj.alloc (.cells (madeCells #[.bool false] n) 4)).frozen 6
 have hs6:=(aN w (.cells (madeCells #[.bool false] n) 4)).aT d6
 obtain ⟨L1,g1,ge1,gf1,gl1⟩:=h.model (qa w n (by unfold maxLen;omega)) (au _) ((Fr.refl [] w).alloc _)
 rw [bh] at g1 gf1
 obtain ⟨W1,jr⟩:∃W,(w.alloc (.cells (madeCells #[.bool false] n) 4)).setCell ⟨L.a,6,none⟩ (.slice (some ⟨w.heap.size,0,none⟩) n n)=W:=⟨_,rfl⟩
 have WR:=ae jr
 rw [jr] at g1 gf1
 have G1:=ae g1
 have GE1:=ae ge1
 have GF1:=ae gf1
 have lO:L1.a=L.a:=ge1.1
 have hc6:=g1.cells.2.2.2.2.2.2.1
 rw [gl1] at hc6
 simp only [bh] at hc6
 have Lm:=ae hc6
 clear g1 ge1 gf1 gl1 jr hn oZ h ok lO hc6 d6
 go_enter Tryz.func140,Tryz.ntmps140
 go_upto_region 1 with fail
 rw [WR.o]
 clear LH dO fN c2 hs6
 have c6:=Lm.o
 go_wp2_with fail
 clear c6
 go_loopg [17] n (fun g UG wr=>∃(i:Nat) (L2:aQ) (ms:List Bool),i+g=n∧UG= .int .i64 i∧al (ms.length=n)∧al (∀j:Nat,j<i→ms[j]! =decide (0<S.val (j:Int)))∧al (bf wr L2 { S with model:=ms })∧al (L.ext L2 w)∧al (Fr (L.own w) w wr))
 case atStart=>exact ⟨0,L1,List.replicate n false,by omega,rfl,bh,fun j hj=>absurd hj (aI _),G1.o,GE1.o,GF1.o⟩
 case round=>
  obtain ⟨i,L2,ms,hi,rfl,Me,Ur,H2,dx,cH⟩:=hrel
  have HI:=ae hi
  have ke:i≤n:=by omega
  have lO:L2.a=L.a:=dx.o.1
  clear hi
  by_cases bM:i<n
  ·obtain ⟨gp,TV,sp,fp,h3,dD⟩:=H2.o.Zd (v:=i) (by show i<ms.length;rw [Me.o];exact bM) (decide (0<S.val (i:Int)))
   obtain ⟨c0,-,-,-,-,-,c6,-⟩:=H2.o.cells
   rw [lO] at c0 c6
   simp only [Me.o] at c6
   rw [TV] at c6
   have uT:=ae c0
   have ah9:=ae c6
   have HSP:=ae sp
   have HFP:=ae fp
   have H3:=ae h3
   have cZ:=ae dD
   have hd:decide ((i:Int)<(n:Int))=true:=decide_eq_true (by omega)
   have TQ:n≤262144:=by have :=HN.o;omega
   have xU:(i:Int)<(n:Int):=by omega
   obtain ⟨y,hy⟩:∃y,S.T.kQ (i:Int)=y:=⟨_,rfl⟩
   have KV:=ae (fun W (hW:Fr [] wr W)=>dQ W L2.tL S.T (H2.o.tr.fr hW (by simp)) (i:Int) (by omega) (by omega) kM.o.small)
   simp only [hy] at KV
   have HY:al (S.val (i:Int)=y):=hy
   rw [HY.o] at H3 cZ
   clear TV sp fp h3 dD c0 c6 lO hy
   go_upto_region 4 with fail
   refine wp_region_noPanic ?_
   refine bp (fun w':World=>Fr [] wr w') 13 (by kernel_rfl) ((Fr.refl [] wr).drew) (fun db=> ?_)
   refine pf 10 [(0,[]),(1,[]),(2,[]),(3,[3,13]),(4,[]),(5,[]),(6,[]),(7,[]),(8,[8,13]),(9,[])] db (fun w cm=>And.intro (cm.aT uT.o) (cm.aT ah9.o)) ?_;intro db
   refine R2 10 db fun K hK aH=> ?_
   (go_simp;refine (KV.o _ aH).mono ?_;rintro e w5 ⟨rfl,rfl⟩;dsimp only)
   refine hK.out _ _ (.inr ?_) (fun mn=> ?_)
   ·exact aH
   clear hK K
   try simp only [Act.put,q5,q6,q7]
   refine TB 2 [(11,[]),(12,[])] mn ?_;intro mn
   refine R2 13 mn fun K hK aH=> ?_
   (have sb:=aH.aT HSP.o;have fb:World.frozen? _ _=_:=(World.frozen?_of_block (aH.block gp (bE HSP.o) (by simp))).trans HFP.o;go_simp)
   refine hK.out _ _ (.inl rfl) (fun ml=> ?_)
   clear hK K
   try simp only [Act.put,q5,q6,q7]
   refine fo ?_
   have h5:=H3.o.keep (Fr.refl [] _).drew
   have f5:=cZ.o.drew
   have ahy:al (∀j:Nat,j<i+1→(ms.set i (decide (0<y)))[j]! =decide (0<S.val (j:Int))):=fun j hj=>by
    rw [dT]
    by_cases e:i=j
    ·subst e
     rw [if_pos ⟨rfl,by rw [Me.o];exact bM⟩,HY.o]
    ·rw [if_neg (fun x=>e x.1)]
     exact Ur.o j (by omega)
   obtain ⟨W5,R0⟩:∃W,((wr.setCell ⟨gp,i,none⟩ (.bool (decide (0<y)))).drew)=W:=⟨_,rfl⟩
   rw [R0] at h5 f5
   have H5:=ae h5
   have F5:=ae f5
   try rw [R0]
   clear h5 f5 R0
   go_wp2
   go_roundg (n-(i+1))
   case measure=>have :=HI.o;omega
   case rel=>exact ⟨i+1,L2,ms.set i (decide (0<y)),by omega,by go_num,(by rw [aw];exact Me.o),ahy.o,H5.o,dx.o,aQ.aR dx.o cH.o F5.o⟩
  ·obtain rfl :i=n:=by omega
   have hd:decide ((i:Int)<(i:Int))=false:=by simp
   have f14:=H2.o.obj.frozen 14
   rw [lO] at f14
   obtain ⟨-,-,-,-,-,-,-,-,-,-,-,-,-,-,s14⟩:=H2.o.cells
   rw [lO] at s14
   obtain ⟨h3,dD⟩:=H2.o.pk 14 (.bool true) ({ S with model:=ms,has:=true }:Sv) rfl ⟨rfl,rfl,rfl,rfl,rfl,rfl,rfl⟩
   rw [lO] at h3 dD
   have hK:({ S with model:=ms,has:=true }:Sv)=S.keep:=by
    unfold Sv.keep
    congr 1
    apply List.ext_getElem
    ·rw [Me.o,aq,cX,HN.o]
    ·intro j h1 h2
     have :=Ur.o j (by rw [Me.o] at h1;exact h1)
     simp only [List.getElem_map,List.getElem_range]
     rw [←this]
     simp [aa,af h1]
   rw [hK] at h3
   have FF:al (oF (.tuple #[]) S.keep L w (.returned (.tuple #[])) _):=⟨rfl,L2,h3,dx.o,aQ.aR dx.o cH.o dD⟩
   clear h3 dD hK
   go_wp2_with fail
   go_end0
   exact FF.o
theorem tN {w:World} {ops:Array Oper} {o:Oper} {a:Act} {K:Act→World→Prop} {Q:Exit→Act→World→Prop} {E:Prop} (ou:o.guard=none) (s x:Operand) (t:TypeId)
  (ho:o.op= .call { callee:= .builtin .append,args:=#[s,x],argTypes:=#[t,t] }) (e:TypeId) (z:Value) (size bytes:Nat) (ht:Tryz.prog.underlying t=some (.slice e)) (hi:(Tryz.prog.info? e).map (fun i=>(i.zero,i.size,i.bytes))=some (some z,size,bytes)) (AZ:z.cells.size=size) (nq:0<size)
  (A:Option Addr) (c n:Nat) (hs:a.eval s= .slice A n c) (xs:List Value) (dA:w.ownsRow 0 e size (.slice A n c) n xs) (ad:Addr) (c':Nat) (hx:a.eval x= .slice (some ad) 1 c') (news:List Value) (hl:news.length=size)
  (mh:∀j u,news[j]? =some u→w.cell? (ad.add j)=some u) (h1:∀u∈news,u.oneCell'=true) (LV:n+1≤maxLen) (jW:(n+1)*bytes≤140737488355328)
  (h:∀g cap w',w'.ownsRow 0 e size (.slice (some ⟨g,0,none⟩) (n+1) cap) (n+1) (xs++news)→Fr (ap A) w w'→(g∈ap A∨g=w.heap.size)→K (a.put o.dst (.slice (some ⟨g,0,none⟩) (n+1) cap)) w'):
  if Region.wanted o (yielded ops a.tmps)=true then Oper.wp Tryz.prog o a w K Q else E:=by
 have hw:Region.wanted o (yielded ops a.tmps)=true:=by simp [Region.wanted,ou]
 rw [if_pos hw]
 obtain ⟨A',cap,w',hr,h2,h3,h4,h5,h6,h7⟩:=fd w t o.type e z size bytes ht hi AZ nq A c n xs dA ad 1 c' news (by omega) mh h1 LV jW
 cases A' with
 |none=>exact absurd (h6 rfl).1 (by decide)
 |some a'=>
  obtain ⟨g,rfl⟩:=h7 a' rfl
  unfold Oper.wp execOp
  simp only [ho,resolve,invoke,builtin,Sem.run_bind,Sem.run_pure,Result.andThen_ok,List.map_toArray,cM,dU,hs,hx,hr]
  exact h g cap w' h2 h3 (h4 g (by simp [ap]))
theorem bf.ii {w w1:World} {L:aQ} {S:Sv} (h:bf w L S) {A':Option Addr} {c':Nat} {F:List Nat} {x:Cw} (hi:rM w1 A' c' (L.cs++[x])) (hf:Fr F w w1) (hF:∀k,k∈F→k<w.heap.size→L.cQ k=(L.id,3,0))
  (hA:∀k,k∈ap A'→(k<w.heap.size∧L.cQ k=(L.id,3,0))∨w.heap.size≤k) (hx:Ints w x.A x.c x.lits) (Lx:∀k,k∈ap x.A→L.cQ k=(L.id,8,L.cs.length)):
  ∃L',bf (w1.setCell ⟨L.a,3,none⟩ (.slice A' (L.cs.length+1) c')) L' { S with list:=S.list++[x.rc] }∧L.ext L' w∧Fr (L.own w) w (w1.setCell ⟨L.a,3,none⟩ (.slice A' (L.cs.length+1) c'))∧L'={ L with cA:=A',cC:=c',cs:=L.cs++[x],cQ:=L.re w (3,0) }:=by
 have bZ:Fr (L.a::F) w (w1.setCell ⟨L.a,3,none⟩ (.slice A' (L.cs.length+1) c')):=(hf.mono (fun k hk=> .inl (by simp [hk]))).setCell (.inl (by simp)) _
 have Bh:∀k,k∈L.a::F→k<w.heap.size→∃t,(t=(3,0)∨t=(0,0))∧L.cQ k=(L.id,t):=by
  intro k hk hl
  rcases av.1 hk with rfl |hk
  ·exact ⟨_, .inr rfl,h.t0⟩
  ·exact ⟨_, .inl rfl,hF k hk hl⟩
 have o:=h.off (P:=fun t=>t=(3,0)∨t=(0,0)) bZ Bh
 have o1:=h.off (P:=(· =(3,0))) hf (fun k hk hl=>⟨_,rfl,hF k hk hl⟩)
 have g:=h.tags (3,0)
 have dI:L.a∉ap A':=fun hk=>by
  rcases hA _ hk with ⟨_,h2⟩ |h2
  ·rw [h.t0] at h2;simp at h2
  ·have :=h.obj.lt;omega
 have po:∀j:Nat,(L.cs++[x])[j]! =if j=L.cs.length then x else L.cs[j]! :=fun j=>by
  simp only [aa,List.getElem?_append]
  split
  ·rw [if_neg (by omega)]
  ·rename_i hj
   split
   ·rename_i e;subst e;simp
   ·rw [kt (by simp;omega),kt (by omega)]
 have hxw:Ints (w1.setCell ⟨L.a,3,none⟩ (.slice A' (L.cs.length+1) c')) x.A x.c x.lits:=hx.fr bZ (fun k hk hm=>by
  obtain ⟨t,ht,hl⟩:=Bh k hm (hx.lt k hk)
  rw [Lx k hk] at hl
  simp only [Prod.mk.injEq,true_and] at hl
  rcases ht with rfl |rfl <;>simp at hl)
 refine ⟨{ L with cA:=A',cC:=c',cs:=L.cs++[x],cQ:=L.re w (3,0) },⟨?_,o.tr (by simp),o.hp (by simp),h.io,?_,h.Ay,?_,o.rws (by simp),o.uv (by simp),o.xv (by simp),o.tO (by simp),?_,fun c hc=>o.rr c hc (by simp),
  g.t0,g.t1,g.t2,fun k hk=>aQ.mK (hA k hk),g.t4,g.t5,g.t6,g.t7,?_,g.t9⟩,⟨rfl,rfl,fun k hk e=>aQ.nZ hk e⟩,aQ.gE bZ (fun k hk hl=>by obtain ⟨t,_,e⟩:=Bh k hk hl;rw [e]),rfl⟩
 ·have :=(o1.obj (by simp)).eo 3 (.slice A' (L.cs.length+1) c')
  simpa [oQ] using this
 ·simp only [bJ,cM,dU,h.AA]
 ·unfold rM at hi⊢
  have dD:Fr [L.a] w1 (w1.setCell ⟨L.a,3,none⟩ (.slice A' (L.cs.length+1) c')):=(Fr.refl _ w1).setCell (.inl (by simp)) _
  exact eH hi dD (fun k hk hm=>dI (by simp at hm;subst hm;exact hk))
 ·intro j hj
  simp only [ai,bF] at hj
  simp only
  rw [po]
  split
  ·exact hxw
  ·exact o.pr j (by omega) (by simp)
 ·intro j hj k hk
  simp only [ai,bF] at hj
  simp only at hk
  rw [po] at hk
  split at hk
  ·rename_i e
   subst e
   show L.re w (3,0) k=_
   rw [aQ.ic (hx.lt k hk)]
   exact Lx k hk
  ·exact g.t8 j (by omega) k hk
namespace Sv
def ii (S:Sv) (ls:List Int) (b:Bool):Sv:={ S with list:=S.list++[⟨ls,b,S.used⟩] }
theorem uy (S:Sv) (ls:List Int) (b:Bool) (n:Nat):(S.ii ls b).rc n=if n=S.list.length then ⟨ls,b,S.used⟩ else S.rc n:=by
 simp only [rc,ii,aa,List.getElem?_append]
 split
 ·rw [if_neg (by omega)]
 ·rename_i hj
  split
  ·rename_i e;subst e;simp
  ·rw [kt (by simp;omega),kt (by omega)]
structure Fits (S:Sv) (ls:List Int):Prop where
 two:2≤ls.length
 top:ls.length≤1048576
 lit:∀x∈ls,x≠0∧ -(S.vars:Int)≤x∧x≤S.vars
theorem Ok.ii {S:Sv} {m:Nat} (ok:S.Ok m) {ls:List Int} (hl:S.Fits ls) (b:Bool) (hr:S.list.length<2199023255552):(S.ii ls b).Ok (m+2):=by
 have hlen:(S.ii ls b).list.length=S.list.length+1:=by simp [Sv.ii]
 refine ⟨ok.vl,ok.tr,ok.hi,ok.hl,ok.ph,ok.wl,by rw [hlen];omega,fun c n hn=> ?_,?_,fun n x hx=> ?_,fun n=> ?_,fun n=> ?_,ok.hd,fun v=> ?_⟩
 ·have :=ok.wb c n hn
  omega
 ·rw [hlen]
  have :=ok.wt
  show (S.watch.map List.length).sum+(m+2)≤_
  omega
 ·rw [uy] at hx
  split at hx
  ·exact hl.lit x hx
  ·exact ok.lr n x hx
 ·rw [uy]
  split
  ·have :=hl.two
   show ls.length≠1
   omega
  ·exact ok.ln n
 ·rw [uy]
  split
  ·exact hl.top
  ·exact ok.lb n
 ·rw [hlen]
  have :=ok.rs v
  show 0≤S.T.fe v∧S.T.fe v≤_
  omega
theorem Ok.Sl {S:Sv} {m:Nat} (ok:S.Ok m) {ls:List Int} (hl:S.Fits ls) (b:Bool) (hr:S.list.length<2199023255552):((S.ii ls b).gP (aW ls[0]!) S.list.length).Ok (m+1):=by
 have h:=ok.ii hl b hr
 have h2:=hl.two
 have hw:(S.ii ls b).watch.length=2*S.vars+2:=ok.wl
 have hlen:(S.ii ls b).list.length=S.list.length+1:=by simp [Sv.ii]
 have b0:=hl.lit _ (get_mem (l:=ls) (i:=0) (by omega))
 exact Ok.gP (S:=S.ii ls b) (m:=m+1) h (c:=aW ls[0]!) (n:=S.list.length) (by rw [hw];exact gH b0.2.1 b0.2.2) (by omega)
theorem Ok.attach {S:Sv} {m:Nat} (ok:S.Ok m) {ls:List Int} (hl:S.Fits ls) (b:Bool) (hr:S.list.length<2199023255552):(S.attach ls b).Ok m:=by
 have h:=ok.ii hl b hr
 have h2:=hl.two
 have hw:(S.ii ls b).watch.length=2*S.vars+2:=ok.wl
 have hlen:(S.ii ls b).list.length=S.list.length+1:=by simp [Sv.ii]
 have b0:=hl.lit _ (get_mem (l:=ls) (i:=0) (by omega))
 have b1:=hl.lit _ (get_mem (l:=ls) (i:=1) (by omega))
 have k1:=Ok.gP (S:=S.ii ls b) (m:=m+1) h (c:=aW ls[0]!) (n:=S.list.length) (by rw [hw];exact gH b0.2.1 b0.2.2) (by omega)
 exact Ok.gP k1 (c:=aW ls[1]!) (n:=S.list.length) (by show aW ls[1]! <((S.ii ls b).watch.set _ _).length;rw [aw,hw];exact gH b1.2.1 b1.2.2) (by show _<(S.ii ls b).list.length;omega)
theorem ch (S:Sv) (ls:List Int) (b:Bool):(S.attach ls b).T=S.T∧(S.attach ls b).vars=S.vars∧(S.attach ls b).list.length=S.list.length+1∧(S.attach ls b).head=S.head∧(S.attach ls b).used=S.used∧(S.attach ls b).H=S.H:=by simp [attach,gP,cd]
end Sv
theorem QR:(Tryz.prog.info? 118).map (fun i=>(i.zero,i.size,i.bytes))=some (some (.agg #[.slice none 0 0, .bool false, .int .i64 0]),3,40):=by kernel_rfl
theorem BH {w:World} {g:Nat} {t:TypeId} {a b c:Value} (h:At w g t #[a,b,c]):∀j u,[a,b,c][j]? =some u→w.cell? ((Addr.mk g 0 none).add j)=some u:=fun j u hu=>by
 rw [dJ,cS,h.cell]
 simpa using hu
theorem J8 (cs:List Cw) (x:Cw):eS cs++[.slice x.A x.lits.length x.c, .bool x.iY, .int .i64 x.act]=eS (cs++[x]):=by rw [Ka];rfl
theorem Tk {α β γ:Type} {C:α→β→γ→Prop} {P:α→β→γ→Prop} {G:Prop} (m:(∀x y z,C x y z→P x y z)→G) (t:∀x y z,C x y z→P x y z):G:=m t
def AtP (n:Nat) (S':Sv) (A:Option Addr) (c:Nat) (ls:List Int) (L:aQ) (w:World) (e:Ending) (w':World):Prop:=
 e= .returned (.int .i64 (n:Nat))∧∃L',bf w' L' S'∧L'.a=L.a∧L'.id=L.id∧(∀k,k<w.heap.size→(L'.cQ k).1=L.id→(L.cQ k).1=L.id∨k∈ap A)∧Fr (ap A++L.own w) w w'∧Ints w' A c ls∧L'.tL=L.tL
theorem rJ (w:World) (L:aQ) (S:Sv) (h:bf w L S) (m:Nat) (ok:S.Ok m) (A:Option Addr) (c:Nat) (ls:List Int) (b:Bool) (hi:Ints w A c ls) (sF:S.Fits ls) (hA:∀k,k∈ap A→(L.cQ k).1≠L.id) (hr:S.list.length<2199023255552) (hu:S.used≤2199023255552):
  Calls Tryz.prog 54 #[.pointer (some ⟨L.a,0,none⟩), .slice A ls.length c, .bool b] w (AtP S.list.length (S.attach ls b) A c ls L w):=by
 obtain ⟨ga,o3,RL⟩:=hi.pos (i:=0) (by have :=sF.two;omega)
 subst o3
 have Hu:=h.ni
 have TC:=h.qX.trans ok.wl
 have oq:∀k,L.has k→k∉ap (some (⟨ga,0,none⟩:Addr)):=fun k hk hm=>hA k hm (h.jq hk)
 have h0:=h.GY (fun k=>if k∈ap (some (⟨ga,0,none⟩:Addr)) then (L.id,8,L.cs.length) else L.cQ k) (fun k hk=>if_neg (oq k hk))
 obtain ⟨L0,P3⟩:∃L0,({ L with cQ:=fun k=>if k∈ap (some (⟨ga,0,none⟩:Addr)) then (L.id,8,L.cs.length) else L.cQ k }:aQ)=L0:=⟨_,rfl⟩
 rw [P3] at h0
 have ea0:L0.a=L.a:=by rw [←P3]
 have agj:L0.cs=L.cs:=by rw [←P3]
 have abg:L0.ws=L.ws:=by rw [←P3]
 have Ww:L0.id=L.id:=by rw [←P3]
 have aam:L0.cQ ga=(L0.id,8,L0.cs.length):=by rw [←P3];simp [ap]
 have RY:al (∀W L',bf W L' (S.attach ls b)→L0.ext L' w→Fr (L0.own w) w W→Ints W (some ⟨ga,0,none⟩) c ls→L'.tL=L0.tL→AtP S.list.length (S.attach ls b) (some ⟨ga,0,none⟩) c ls L w (.returned (.int .i64 (S.list.length:Nat))) W):=fun W L' g1 g2 g3 g4 g5=>by
  refine ⟨rfl,L',g1,g2.1.trans ea0,g2.2.1.trans Ww,fun k hk e=> ?_,?_,g4,by rw [g5,←P3]⟩
  ·have e2:=g2.2.2 k hk (e.trans Ww.symm)
   rw [←P3] at e2
   simp only at e2
   by_cases hm:k∈ap (some (⟨ga,0,none⟩:Addr))
   ·exact .inr hm
   ·rw [if_neg hm] at e2
    exact .inl e2
  ·refine g3.mono (fun k hk=> ?_)
   rw [aQ.bQ] at hk
   left
   by_cases hm:k∈ap (some (⟨ga,0,none⟩:Addr))
   ·exact ak _ hm
   ·refine aM _ (aQ.bQ.2 ⟨hk.1,?_⟩)
    have e2:=hk.2
    rw [←P3] at e2
    simp only [if_neg hm] at e2
    exact e2
 have hlC:L0.cs.length=S.list.length:=h0.ni
 have ZC:L0.ws.length=2*S.vars+2:=by rw [abg];exact TC
 have TJ:=hi.cell (i:=0) (by have :=sF.two;omega)
 have TI:=hi.cell (i:=1) (by have :=sF.two;omega)
 obtain ⟨-,-,-,c3,c4,-,-,-,-,c9,-⟩:=h0.cells
 have f3:=h0.obj.frozen 3
 rw [ea0] at c3 c4 c9 f3
 have DN:=ae c3
 have Ln:=ae c4
 have HC9:=ae c9
 have cZ:=ae f3
 have up:=ae sF
 have mR:rM w L0.cA L0.cC L0.cs:=h0.ux
 have mv:al (L.a∉ap L0.cA):=fun hm=>by
  have e1:=h0.t3 _ hm
  rw [←ea0,h0.t0] at e1
  simp at e1
 have aaj:∀k,k∈ap L0.cA→k<w.heap.size:=dN mR
 have TO:∀k,k∈ap L0.cA→L0.cQ k=(L0.id,3,0):=h0.t3
 have ab3:=ae aaj
 have Pj:=ae TO
 have H0:=ae h0
 have HI:=ae hi
 have Bp:=ae aam
 have acr:=ae ea0
 have kM:=ae (ok.ii sF b hr)
 have Pk:=ae (ok.Sl sF b hr)
 have HLC:=ae hlC
 have an7:=ae ZC
 have HR0:=ae TJ
 have uR:=ae TI
 have afd:L0.cs.length<2199023255552:=by omega
 obtain ⟨n,hn⟩:∃n,L0.cs.length=n:=⟨_,rfl⟩
 have hnS:S.list.length=n:=by omega
 rw [hnS] at RY⊢
 rw [hn] at c3 afd
 have HN:=ae hn
 unfold rM at mR
 rw [hn] at mR
 have abO:=ae mR
 have jM:2≤ls.length:=sF.two
 have HNS:=ae hnS
 have bM:ls.length≤1048576:=sF.top
 have HVL:=ae ok.vl
 clear f3 c4 c9 mR aaj TO h0 hi aam ea0 h ok sF hA oq P3 agj abg Ww Hu TC hlC ZC TJ TI hn hnS hr
 go_enter Tryz.func54,Tryz.ntmps54
 go_wp2_with fail
 clear c3
 go_upto_region 2 with fail
 refine wp_region_noPanic ?_
 refine bp (fun w':World=>Fr (ap L0.cA) w w') 16 (by kernel_rfl) ((Fr.refl _ w).drew) (fun db=> ?_)
 refine TB 12 [(0,[]),(1,[]),(2,[]),(3,[]),(4,[4,16]),(5,[]),(6,[]),(7,[]),(8,[]),(9,[]),(10,[10,16]),(11,[])] db ?_ (hr:=by (repeat (apply Ss;rfl;rfl;(intro w cm;(try (have cm:=cm.resolve_left (List.cons_ne_nil _ _);(have s3:=cm.bD mv.o DN.o;have s9:=cm.bD mv.o HC9.o;rw [HN.o] at s3)));go_simp<;>with_reducible rfl);try simp only [Act.put,q5,q6,q7]));exact Sr);intro db
 refine R2 12 db fun K hK aH=> ?_
 go_simp
 refine hK.out _ _ (.inr ?_) (fun qh=> ?_)
 ·first |exact aH.aj dD |exact aH.alloc _ |exact aH
 clear hK K
 try simp only [Act.put,q5,q6,q7]
 refine R2 13 qh fun K hK aH=> ?_
 (refine tN rfl _ _ 82 rfl 118 (.agg #[.slice none 0 0, .bool false, .int .i64 0]) 3 40 Tryz.underlying82 QR rfl (by decide) L0.cA L0.cC n rfl (eS L0.cs) ?Jw _ 1 rfl [.slice (some ⟨ga,0,none⟩) ls.length c, .bool b, .int .i64 S.used] rfl ?Fh (by simp [Value.oneCell']) (by unfold maxLen;omega) (by omega) ?_;(case Jw=>exact eH abO.o ((Fr.refl [] w).alloc _).drew (fun k hk hm=>by cases hm));(case Fh=>exact BH (At.new _ _ _));intro g3 Do w3 TT dD Be)
 refine hK.out _ _ (.inr ?_) (fun ml=> ?_)
 ·first |exact aH.aj dD |exact aH.alloc _ |exact aH
 clear hK K
 try simp only [Act.put,q5,q6,q7]
 refine TB 2 [(14,[]),(15,[])] ml ?_;intro ml
 refine R2 16 ml fun K hK aH=> ?_
 (have sb:=aH.bD mv.o DN.o;have fb:World.frozen? _ _=_:=(World.frozen?_of_block (aH.block L.a (bE DN.o) mv.o)).trans cZ.o;go_simp)
 refine hK.out _ _ (.inl rfl) (fun gM=> ?_)
 clear hK K
 try simp only [Act.put,q5,q6,q7]
 refine fo ?_
 have Ak:rM w3 (some ⟨g3,0,none⟩) Do (L0.cs++[⟨some ⟨ga,0,none⟩,c,ls,b,S.used⟩]):=by
  unfold rM
  rw [←J8,ai,bF,HN.o]
  exact TT
 obtain ⟨L1,h1,rT,cU,xF⟩:=H0.o.ii (x:=⟨some ⟨ga,0,none⟩,c,ls,b,S.used⟩) Ak aH (fun k hk _=>Pj.o k hk) (fun k hk=>by
  simp [ap] at hk
  subst hk
  rcases Be with h5 |h5
  ·exact .inl ⟨ab3.o _ h5,Pj.o _ h5⟩
  ·right
   rw [h5]
   simp) HI.o (fun k hk=>by simp [ap] at hk;subst hk;exact Bp.o)
 rw [acr.o,HN.o] at h1 cU
 obtain ⟨W1,jr⟩:∃W,w3.setCell ⟨L.a,3,none⟩ (.slice (some ⟨g3,0,none⟩) (n+1) Do)=W:=⟨_,rfl⟩
 rw [jr] at h1 cU⊢
 have H1:al (bf W1 L1 (S.ii ls b)):=h1
 have Aq:L1.cs=L0.cs++[⟨some ⟨ga,0,none⟩,c,ls,b,S.used⟩]:=by rw [xF]
 have XA:=ae Aq
 have ag3:al (L1.tL=L0.tL):=(by rw [xF]:L1.tL=L0.tL)
 have Ma:al (L1.cs[n]! =⟨some ⟨ga,0,none⟩,c,ls,b,S.used⟩):=by
  show _=_
  rw [Aq,←HN.o]
  simp
 have PI:al (L1.a=L.a):=(rT.1.trans acr.o:L1.a=L.a)
 have ahJ:al (Ints W1 (some ⟨ga,0,none⟩) c ls):=by
  have :=h1.pr n (by rw [Aq,ai,HN.o];simp)
  rw [Ma.o] at this
  exact this
 have ahD:al (L1.cQ ga=(L1.id,8,n)):=h1.t8 n (by rw [Aq,ai,HN.o];simp) ga (by rw [Ma.o];simp [ap])
 have eG:=ae rT
 have dy:=ae cU
 clear jr h1 cU rT xF Aq aH TT Ak dD Be abO DN Ln HC9 cZ mv ab3 Pj
 go_wp2_with fail
 obtain ⟨y0,jJ⟩:∃y,ls[0]! =y:=⟨_,rfl⟩
 have Zv:=up.o.lit _ (get_mem (l:=ls) (i:=0) (by omega))
 rw [jJ] at Zv
 obtain ⟨-,aeF,aeA⟩:=Zv
 have CS:aW y0<L1.ws.length:=by
  rw [H1.o.qX,kM.o.wl]
  exact gH (v:=S.vars) aeF aeA
 obtain ⟨D4,RU⟩:∃c,aW y0=c:=⟨_,rfl⟩
 have amo:=HVL.o
 have WQ:=ae (fun W'=>mW W' y0 (by omega) (by omega))
 have ah5:=ae RU
 simp only [RU] at WQ
 rw [RU] at CS
 obtain ⟨Wu,RJ,sw0,fw0⟩:=H1.o.UI CS
 have Q4:=H1.o.rr D4 CS
 have RA:=kM.o.room D4
 have Jd:=H1.o.rX CS
 unfold Sv.fH at Jd
 rw [Jd] at RA
 have Fj:∀j,j∈ap (L1.ws[D4]!).A→L1.cQ j=(L1.id,9,D4):=H1.o.t9 D4 CS
 obtain ⟨⟨Qm,c90,Lt⟩,Zz⟩:∃x,L1.ws[D4]! =x:=⟨_,rfl⟩
 rw [Zz] at sw0 Q4 RA Jd Fj
 simp only at sw0 Q4 RA Jd Fj
 obtain ⟨-,-,-,-,s40,-⟩:=H1.o.cells
 rw [RJ,PI.o] at s40
 have Pp:al (L.a∉ap Qm):=fun hm=>by
  have e1:=Fj _ hm
  rw [←PI.o,H1.o.t0] at e1
  simp at e1
 have Po:al (ga∉ap Qm):=fun hm=>by
  have e1:=Fj _ hm
  rw [ahD.o] at e1
  simp at e1
 have xn:al (Wu∉ap Qm):=fun hm=>by
  have e1:=Fj _ hm
  rw [H1.o.t4 Wu (by rw [RJ];simp [ap])] at e1
  simp at e1
 have s10:W1.cell? ⟨ga,0,none⟩=some (.int .i64 y0):=by rw [ahJ.o.cell (i:=0) (by omega),jJ]
 have Pf:=ae s40
 have Pg:=ae s10
 have xk:=ae sw0
 have IA:=ae fw0
 have xm:=ae Q4
 have Xe:=ae Fj
 have agV:=ae Jd
 have ahP:=ae RJ
 have acu:=ae CS
 have ajL:D4<L1.ws.length:=CS
 have ajJ:(D4:Int)<(L1.ws.length:Int):=by omega
 have amI:(0:Int)<(ls.length:Int):=by omega
 have ajg:0<ls.length:=by omega
 have Ps:al (Lt.length<17592186044416):=(by omega:Lt.length<17592186044416)
 have Uw:al (Fr (ap Qm) W1 W1):=Fr.refl _ _
 have HY0:=ae jJ
 clear RJ CS Q4 RA Jd Fj Zz s40 s10 sw0 fw0 RU jJ
 go_upto_region 3 with fail
 apply Tk (C:=fun (gA cA:Nat) (wA:World)=>Ints wA (some ⟨gA,0,none⟩) cA (bR Lt++[(n:Int)])∧Fr (ap Qm) W1 wA∧(gA∈ap Qm∨W1.heap.size≤gA))
 ·intro OY
  refine wp_region_noPanic ?_
  refine bp (fun w':World=>Fr (ap Qm) W1 w') 22 (by kernel_rfl) (Uw.o.drew) (fun db=> ?_)
  refine pf 15 [(0,[]),(1,[]),(2,[]),(3,[3,22]),(4,[]),(5,[]),(6,[6,22]),(8,[]),(9,[]),(10,[]),(11,[11,22]),(12,[]),(13,[]),(14,[14,22]),(18,[])] db (fun w cm=>And.intro (cm.bD Pp.o Pf.o) (And.intro (cm.bD Po.o Pg.o) (cm.bD xn.o xk.o))) ?_;intro db
  have aH:=db.resolve_left (by decide)
  refine aU (rs:=[7,19]) (by kernel_rfl) (by simp) ?_
  refine bY.cons (o:= ?aen) ?Rn ?E8 ?_
  case Rn=>rfl
  case E8=>
   intro K hK
   (go_simp;refine (WQ.o _).mono ?_;rintro e w5 ⟨rfl,rfl⟩;dsimp only)
   refine hK.out _ _ (.inr ?_) (fun mj=> ?_)
   ·first |exact aH.aj sH |exact aH.alloc _ |exact aH
   clear hK K
   try simp only [Act.put,q5,q6,q7]
   have aH:=mj.resolve_left (by decide)
   refine aU (rs:=[15,19]) (by kernel_rfl) (by simp) ?_
   refine bY.cons (o:= ?aem) ?Rl ?E7 ?_
   case Rl=>rfl
   case E7=>
    intro K hK
    (go_simp;refine (WQ.o _).mono ?_;rintro e w5 ⟨rfl,rfl⟩;dsimp only)
    refine hK.out _ _ (.inr ?_) (fun gM=> ?_)
    ·first |exact aH.aj sH |exact aH.alloc _ |exact aH
    clear hK K
    try simp only [Act.put,q5,q6,q7]
    refine pf 2 [(16,[]),(17,[17,22])] gM (fun w cm=>And.intro (cm.bD Pp.o Pf.o) (And.intro (cm.bD Po.o Pg.o) (cm.bD xn.o xk.o))) ?_;intro gM
    refine R2 19 gM fun K hK aH=> ?_
    go_simp
    refine hK.out _ _ (.inr ?_) (fun CY=> ?_)
    ·first |exact aH.aj sH |exact aH.alloc _ |exact aH
    clear hK K
    try simp only [Act.put,q5,q6,q7]
    refine R2 20 CY fun K hK aH=> ?_
    (refine bT rfl _ _ rfl Qm c90 (bR Lt) _ rfl (bj Lt).symm ?Ju _ 1 n rfl ?FG (by rw [bj];exact Ps.o) ?_;(case Ju=>first |exact xm.o.drew.alloc _ |exact xm.o.alloc _ |exact xm.o);(case FG=>simp);intro gA0 cA0 Yv CJ sH CL ZP)
    refine hK.out _ _ (.inr ?_) (fun fU=> ?_)
    ·first |exact aH.aj sH |exact aH.alloc _ |exact aH
    clear hK K
    try simp only [Act.put,q5,q6,q7]
    refine TB 1 [(21,[])] fU ?_;intro fU
    refine R2 22 fU fun K hK aH=> ?_
    (have sb:=aH.bD xn.o xk.o;have fb:World.frozen? _ _=_:=(World.frozen?_of_block (aH.block Wu (bE xk.o) xn.o)).trans IA.o;go_simp)
    refine hK.out _ _ (.inl rfl) (fun CX=> ?_)
    clear hK K
    try simp only [Act.put,q5,q6,q7]
    refine fo ?_
    exact OY _ _ _ ⟨CJ,aH,CL.imp id (fun h=>by rw [h];first |exact au _ |simp)⟩
   refine bY.cons (o:= ?aej) ?Rj ?Vo bY.nil
   case Rj=>rfl
   intro K hK
   go_simp
   refine hK.out _ _ (.inr ?_) (fun gM=> ?_)
   ·first |exact aH.aj sH |exact aH.alloc _ |exact aH
   clear hK K
   try simp only [Act.put,q5,q6,q7]
   refine R2 15 gM fun K hK aH=> ?_
   (go_simp;refine (WQ.o _).mono ?_;rintro e w5 ⟨rfl,rfl⟩;dsimp only)
   refine hK.out _ _ (.inr ?_) (fun jX=> ?_)
   ·first |exact aH.aj sH |exact aH.alloc _ |exact aH
   clear hK K
   try simp only [Act.put,q5,q6,q7]
   refine pf 2 [(16,[]),(17,[17,22])] jX (fun w cm=>And.intro (cm.bD Pp.o Pf.o) (And.intro (cm.bD Po.o Pg.o) (cm.bD xn.o xk.o))) ?_;intro jX
   refine R2 20 jX fun K hK aH=> ?_
   (refine bT rfl _ _ rfl Qm c90 (bR Lt) _ rfl (bj Lt).symm ?Jr _ 1 n rfl ?FC (by rw [bj];exact Ps.o) ?_;(case Jr=>first |exact xm.o.drew.alloc _ |exact xm.o.alloc _ |exact xm.o);(case FC=>simp);intro gA0 cA0 Yv CJ sH CL ZP)
   refine hK.out _ _ (.inr ?_) (fun fU=> ?_)
   ·first |exact aH.aj sH |exact aH.alloc _ |exact aH
   clear hK K
   try simp only [Act.put,q5,q6,q7]
   refine TB 1 [(21,[])] fU ?_;intro fU
   refine R2 22 fU fun K hK aH=> ?_
   (have sb:=aH.bD xn.o xk.o;have fb:World.frozen? _ _=_:=(World.frozen?_of_block (aH.block Wu (bE xk.o) xn.o)).trans IA.o;go_simp)
   refine hK.out _ _ (.inl rfl) (fun CX=> ?_)
   clear hK K
   try simp only [Act.put,q5,q6,q7]
   refine fo ?_
   exact OY _ _ _ ⟨CJ,aH,CL.imp id (fun h=>by rw [h];first |exact au _ |simp)⟩
  refine bY.cons (o:= ?aeg) ?Rh ?Vn bY.nil
  case Rh=>rfl
  intro K hK
  go_simp
  refine hK.out _ _ (.inr ?_) (fun mj=> ?_)
  ·first |exact aH.aj sH |exact aH.alloc _ |exact aH
  clear hK K
  try simp only [Act.put,q5,q6,q7]
  refine R2 7 mj fun K hK aH=> ?_
  (go_simp;refine (WQ.o _).mono ?_;rintro e w5 ⟨rfl,rfl⟩;dsimp only)
  refine hK.out _ _ (.inr ?_) (fun gM=> ?_)
  ·first |exact aH.aj sH |exact aH.alloc _ |exact aH
  clear hK K
  try simp only [Act.put,q5,q6,q7]
  refine R2 15 gM fun K hK aH=> ?_
  (go_simp;refine (WQ.o _).mono ?_;rintro e w5 ⟨rfl,rfl⟩;dsimp only)
  refine hK.out _ _ (.inr ?_) (fun jX=> ?_)
  ·first |exact aH.aj sH |exact aH.alloc _ |exact aH
  clear hK K
  try simp only [Act.put,q5,q6,q7]
  refine pf 2 [(16,[]),(17,[17,22])] jX (fun w cm=>And.intro (cm.bD Pp.o Pf.o) (And.intro (cm.bD Po.o Pg.o) (cm.bD xn.o xk.o))) ?_;intro jX
  refine R2 20 jX fun K hK aH=> ?_
  (refine bT rfl _ _ rfl Qm c90 (bR Lt) _ rfl (bj Lt).symm ?Jo _ 1 n rfl ?Fz (by rw [bj];exact Ps.o) ?_;(case Jo=>first |exact xm.o.drew.alloc _ |exact xm.o.alloc _ |exact xm.o);(case Fz=>simp);intro gA0 cA0 Yv CJ sH CL ZP)
  refine hK.out _ _ (.inr ?_) (fun fU=> ?_)
  ·first |exact aH.aj sH |exact aH.alloc _ |exact aH
  clear hK K
  try simp only [Act.put,q5,q6,q7]
  refine TB 1 [(21,[])] fU ?_;intro fU
  refine R2 22 fU fun K hK aH=> ?_
  (have sb:=aH.bD xn.o xk.o;have fb:World.frozen? _ _=_:=(World.frozen?_of_block (aH.block Wu (bE xk.o) xn.o)).trans IA.o;go_simp)
  refine hK.out _ _ (.inl rfl) (fun CX=> ?_)
  clear hK K
  try simp only [Act.put,q5,q6,q7]
  refine fo ?_
  exact OY _ _ _ ⟨CJ,aH,CL.imp id (fun h=>by rw [h];first |exact au _ |simp)⟩
 ·intro gA0 cA0 Yv ⟨CJ,aH,CL⟩
  have aau:Ints Yv (some ⟨gA0,0,none⟩) cA0 (bR (Lt++[n])):=by rw [←kr];exact CJ
  obtain ⟨gv0,V5,_,_,L2,Wt,Wb,RP,Wm⟩:=H1.o.cd acu.o aau aH (fun j hj _=>Xe.o j hj) (fun j hj=>by
   simp [ap] at hj
   subst hj
   exact CL.imp (fun h5=>⟨(xm.o.lt _ h5),Xe.o _ h5⟩) id)
  obtain rfl :Wu=gv0:=by rw [ahP.o] at V5;simpa using V5
  simp only [ai,bF] at Wt RP
  obtain ⟨W2,T2⟩:∃W,Yv.setCell ⟨Wu,D4,none⟩ (.slice (some ⟨gA0,0,none⟩) (Lt.length+1) cA0)=W:=⟨_,rfl⟩
  rw [T2] at Wt RP⊢
  have Hz:(S.ii ls b).cd D4 (Lt++[n])=(S.ii ls b).gP (aW ls[0]!) S.list.length:=by
   unfold Sv.gP Sv.fH
   rw [HY0.o,ah5.o,agV.o,HNS.o]
  rw [Hz] at Wt
  have JZ:L2.cs=L1.cs:=by rw [Wm]
  have ag2:al (L2.tL=L0.tL):=(by rw [Wm]:L2.tL=L1.tL).trans ag3.o
  have ah6:al (L2.cs=L0.cs++[⟨some ⟨ga,0,none⟩,c,ls,b,S.used⟩]):=JZ.trans XA.o
  have acq:al (L2.a=L.a):=(Wb.1.trans PI.o:L2.a=L.a)
  have ahI:al (Ints W2 (some ⟨ga,0,none⟩) c ls):=by
   have :=Wt.pr n (by rw [JZ,XA.o,ai,HN.o];simp)
   rw [JZ,Ma.o] at this
   exact this
  have ahC:al (L2.cQ ga=(L2.id,8,n)):=Wt.t8 n (by rw [JZ,XA.o,ai,HN.o];simp) ga (by rw [JZ,Ma.o];simp [ap])
  have dx:=ae (aQ.aX eG.o Wb dy.o.size)
  have cH:=ae (aQ.aR eG.o dy.o RP)
  have H2:=ae Wt
  clear T2 Wt RP Wb Wm JZ aH CJ aau CL V5
  clear Uw Pf Pg xk IA xm Xe Pp Po xn
  go_wp2_with fail
  clear WQ
  obtain ⟨y1,im⟩:∃y,ls[1]! =y:=⟨_,rfl⟩
  have QU:=up.o.lit _ (get_mem (l:=ls) (i:=1) (by omega))
  rw [im] at QU
  obtain ⟨-,aeE,aez⟩:=QU
  have CR:aW y1<L2.ws.length:=by
   rw [H2.o.qX,Pk.o.wl]
   exact gH (v:=S.vars) aeE aez
  obtain ⟨Kj,RT⟩:∃c,aW y1=c:=⟨_,rfl⟩
  have amn:=HVL.o
  have Uj:=ae (fun W'=>mW W' y1 (by omega) (by omega))
  have ah4:=ae RT
  simp only [RT] at Uj
  rw [RT] at CR
  obtain ⟨X7,RH,sw1,fw1⟩:=H2.o.UI CR
  have Q3:=H2.o.rr Kj CR
  have Rz:=Pk.o.room Kj
  have Jc:=H2.o.rX CR
  unfold Sv.fH at Jc
  rw [Jc] at Rz
  have Fi:∀j,j∈ap (L2.ws[Kj]!).A→L2.cQ j=(L2.id,9,Kj):=H2.o.t9 Kj CR
  obtain ⟨⟨Ql,c91,M3⟩,Zy⟩:∃x,L2.ws[Kj]! =x:=⟨_,rfl⟩
  rw [Zy] at sw1 Q3 Rz Jc Fi
  simp only at sw1 Q3 Rz Jc Fi
  obtain ⟨-,-,-,-,s41,-⟩:=H2.o.cells
  rw [RH,acq.o] at s41
  have SQ:al (L.a∉ap Ql):=fun hm=>by
   have e1:=Fi _ hm
   rw [←acq.o,H2.o.t0] at e1
   simp at e1
  have SP:al (ga∉ap Ql):=fun hm=>by
   have e1:=Fi _ hm
   rw [ahC.o] at e1
   simp at e1
  have yo:al (X7∉ap Ql):=fun hm=>by
   have e1:=Fi _ hm
   rw [H2.o.t4 X7 (by rw [RH];simp [ap])] at e1
   simp at e1
  have s11:W2.cell? ⟨ga,1,none⟩=some (.int .i64 y1):=by rw [ahI.o.cell (i:=1) (by omega),im]
  have SE:=ae s41
  have SG:=ae s11
  have ym:=ae sw1
  have Px:=ae fw1
  have yn:=ae Q3
  have ab1:=ae Fi
  have agU:=ae Jc
  have ahO:=ae RH
  have acs:=ae CR
  have ajK:Kj<L2.ws.length:=CR
  have ajI:(Kj:Int)<(L2.ws.length:Int):=by omega
  have amH:(1:Int)<(ls.length:Int):=by omega
  have ajf:1<ls.length:=by omega
  have Pr:al (M3.length<17592186044416):=(by omega:M3.length<17592186044416)
  have acl:al (Fr (ap Ql) W2 W2):=Fr.refl _ _
  have HY1:=ae im
  clear RH CR Q3 Rz Jc Fi Zy s41 s11 sw1 fw1 RT im
  go_upto_region 4 with fail
  apply Tk (C:=fun (gA cA:Nat) (wA:World)=>Ints wA (some ⟨gA,0,none⟩) cA (bR M3++[(n:Int)])∧Fr (ap Ql) W2 wA∧(gA∈ap Ql∨W2.heap.size≤gA))
  ·intro OX
   refine wp_region_noPanic ?_
   refine bp (fun w':World=>Fr (ap Ql) W2 w') 22 (by kernel_rfl) (acl.o.drew) (fun db=> ?_)
   refine pf 15 [(0,[]),(1,[]),(2,[]),(3,[3,22]),(4,[]),(5,[]),(6,[6,22]),(8,[]),(9,[]),(10,[]),(11,[11,22]),(12,[]),(13,[]),(14,[14,22]),(18,[])] db (fun w cm=>And.intro (cm.bD SQ.o SE.o) (And.intro (cm.bD SP.o SG.o) (cm.bD yo.o ym.o))) ?_;intro db
   have aH:=db.resolve_left (by decide)
   refine aU (rs:=[7,19]) (by kernel_rfl) (by simp) ?_
   refine bY.cons (o:= ?aee) ?Rg ?E4 ?_
   case Rg=>rfl
   case E4=>
    intro K hK
    (go_simp;refine (Uj.o _).mono ?_;rintro e w5 ⟨rfl,rfl⟩;dsimp only)
    refine hK.out _ _ (.inr ?_) (fun mj=> ?_)
    ·first |exact aH.aj sG |exact aH.alloc _ |exact aH
    clear hK K
    try simp only [Act.put,q5,q6,q7]
    have aH:=mj.resolve_left (by decide)
    refine aU (rs:=[15,19]) (by kernel_rfl) (by simp) ?_
    refine bY.cons (o:= ?aed) ?Rf ?E3 ?_
    case Rf=>rfl
    case E3=>
     intro K hK
     (go_simp;refine (Uj.o _).mono ?_;rintro e w5 ⟨rfl,rfl⟩;dsimp only)
     refine hK.out _ _ (.inr ?_) (fun gM=> ?_)
     ·first |exact aH.aj sG |exact aH.alloc _ |exact aH
     clear hK K
     try simp only [Act.put,q5,q6,q7]
     refine pf 2 [(16,[]),(17,[17,22])] gM (fun w cm=>And.intro (cm.bD SQ.o SE.o) (And.intro (cm.bD SP.o SG.o) (cm.bD yo.o ym.o))) ?_;intro gM
     refine R2 19 gM fun K hK aH=> ?_
     go_simp
     refine hK.out _ _ (.inr ?_) (fun CY=> ?_)
     ·first |exact aH.aj sG |exact aH.alloc _ |exact aH
     clear hK K
     try simp only [Act.put,q5,q6,q7]
     refine R2 20 CY fun K hK aH=> ?_
     (refine bT rfl _ _ rfl Ql c91 (bR M3) _ rfl (bj M3).symm ?Jn _ 1 n rfl ?Fy (by rw [bj];exact Pr.o) ?_;(case Jn=>first |exact yn.o.drew.alloc _ |exact yn.o.alloc _ |exact yn.o);(case Fy=>simp);intro gA1 cA1 wA1 CI sG CK ZO)
     refine hK.out _ _ (.inr ?_) (fun fU=> ?_)
     ·first |exact aH.aj sG |exact aH.alloc _ |exact aH
     clear hK K
     try simp only [Act.put,q5,q6,q7]
     refine TB 1 [(21,[])] fU ?_;intro fU
     refine R2 22 fU fun K hK aH=> ?_
     (have sb:=aH.bD yo.o ym.o;have fb:World.frozen? _ _=_:=(World.frozen?_of_block (aH.block X7 (bE ym.o) yo.o)).trans Px.o;go_simp)
     refine hK.out _ _ (.inl rfl) (fun CX=> ?_)
     clear hK K
     try simp only [Act.put,q5,q6,q7]
     refine fo ?_
     exact OX _ _ _ ⟨CI,aH,CK.imp id (fun h=>by rw [h];first |exact au _ |simp)⟩
    refine bY.cons (o:= ?aec) ?Re ?Vm bY.nil
    case Re=>rfl
    intro K hK
    go_simp
    refine hK.out _ _ (.inr ?_) (fun gM=> ?_)
    ·first |exact aH.aj sG |exact aH.alloc _ |exact aH
    clear hK K
    try simp only [Act.put,q5,q6,q7]
    refine R2 15 gM fun K hK aH=> ?_
    (go_simp;refine (Uj.o _).mono ?_;rintro e w5 ⟨rfl,rfl⟩;dsimp only)
    refine hK.out _ _ (.inr ?_) (fun jX=> ?_)
    ·first |exact aH.aj sG |exact aH.alloc _ |exact aH
    clear hK K
    try simp only [Act.put,q5,q6,q7]
    refine pf 2 [(16,[]),(17,[17,22])] jX (fun w cm=>And.intro (cm.bD SQ.o SE.o) (And.intro (cm.bD SP.o SG.o) (cm.bD yo.o ym.o))) ?_;intro jX
    refine R2 20 jX fun K hK aH=> ?_
    (refine bT rfl _ _ rfl Ql c91 (bR M3) _ rfl (bj M3).symm ?Jm _ 1 n rfl ?Fx (by rw [bj];exact Pr.o) ?_;(case Jm=>first |exact yn.o.drew.alloc _ |exact yn.o.alloc _ |exact yn.o);(case Fx=>simp);intro gA1 cA1 wA1 CI sG CK ZO)
    refine hK.out _ _ (.inr ?_) (fun fU=> ?_)
    ·first |exact aH.aj sG |exact aH.alloc _ |exact aH
    clear hK K
    try simp only [Act.put,q5,q6,q7]
    refine TB 1 [(21,[])] fU ?_;intro fU
    refine R2 22 fU fun K hK aH=> ?_
    (have sb:=aH.bD yo.o ym.o;have fb:World.frozen? _ _=_:=(World.frozen?_of_block (aH.block X7 (bE ym.o) yo.o)).trans Px.o;go_simp)
    refine hK.out _ _ (.inl rfl) (fun CX=> ?_)
    clear hK K
    try simp only [Act.put,q5,q6,q7]
    refine fo ?_
    exact OX _ _ _ ⟨CI,aH,CK.imp id (fun h=>by rw [h];first |exact au _ |simp)⟩
   refine bY.cons (o:= ?aeb) ?Rb ?Vl bY.nil
   case Rb=>rfl
   intro K hK
   go_simp
   refine hK.out _ _ (.inr ?_) (fun mj=> ?_)
   ·first |exact aH.aj sG |exact aH.alloc _ |exact aH
   clear hK K
   try simp only [Act.put,q5,q6,q7]
   refine R2 7 mj fun K hK aH=> ?_
   (go_simp;refine (Uj.o _).mono ?_;rintro e w5 ⟨rfl,rfl⟩;dsimp only)
   refine hK.out _ _ (.inr ?_) (fun gM=> ?_)
   ·first |exact aH.aj sG |exact aH.alloc _ |exact aH
   clear hK K
   try simp only [Act.put,q5,q6,q7]
   refine R2 15 gM fun K hK aH=> ?_
   (go_simp;refine (Uj.o _).mono ?_;rintro e w5 ⟨rfl,rfl⟩;dsimp only)
   refine hK.out _ _ (.inr ?_) (fun jX=> ?_)
   ·first |exact aH.aj sG |exact aH.alloc _ |exact aH
   clear hK K
   try simp only [Act.put,q5,q6,q7]
   refine pf 2 [(16,[]),(17,[17,22])] jX (fun w cm=>And.intro (cm.bD SQ.o SE.o) (And.intro (cm.bD SP.o SG.o) (cm.bD yo.o ym.o))) ?_;intro jX
   refine R2 20 jX fun K hK aH=> ?_
   (refine bT rfl _ _ rfl Ql c91 (bR M3) _ rfl (bj M3).symm ?Jl _ 1 n rfl ?Fw (by rw [bj];exact Pr.o) ?_;(case Jl=>first |exact yn.o.drew.alloc _ |exact yn.o.alloc _ |exact yn.o);(case Fw=>simp);intro gA1 cA1 wA1 CI sG CK ZO)
   refine hK.out _ _ (.inr ?_) (fun fU=> ?_)
   ·first |exact aH.aj sG |exact aH.alloc _ |exact aH
   clear hK K
   try simp only [Act.put,q5,q6,q7]
   refine TB 1 [(21,[])] fU ?_;intro fU
   refine R2 22 fU fun K hK aH=> ?_
   (have sb:=aH.bD yo.o ym.o;have fb:World.frozen? _ _=_:=(World.frozen?_of_block (aH.block X7 (bE ym.o) yo.o)).trans Px.o;go_simp)
   refine hK.out _ _ (.inl rfl) (fun CX=> ?_)
   clear hK K
   try simp only [Act.put,q5,q6,q7]
   refine fo ?_
   exact OX _ _ _ ⟨CI,aH,CK.imp id (fun h=>by rw [h];first |exact au _ |simp)⟩
  ·intro gA1 cA1 wA1 ⟨CI,aH,CK⟩
   have aat:Ints wA1 (some ⟨gA1,0,none⟩) cA1 (bR (M3++[n])):=by rw [←kr];exact CI
   obtain ⟨gv1,V4,_,_,L3,h21,aaR,V9,Wk⟩:=H2.o.cd acs.o aat aH (fun j hj _=>ab1.o j hj) (fun j hj=>by
    simp [ap] at hj
    subst hj
    exact CK.imp (fun h5=>⟨(yn.o.lt _ h5),ab1.o _ h5⟩) id)
   obtain rfl :X7=gv1:=by rw [ahO.o] at V4;simpa using V4
   simp only [ai,bF] at h21 V9
   have hS3:((S.ii ls b).gP (aW ls[0]!) S.list.length).cd Kj (M3++[n])=S.attach ls b:=by
    show _=((S.ii ls b).gP (aW ls[0]!) S.list.length).gP (aW ls[1]!) S.list.length
    have hw:=agU.o
    revert hw
    generalize (S.ii ls b).gP (aW ls[0]!) S.list.length=T
    intro hw
    unfold Sv.gP Sv.fH
    rw [HY1.o,ah4.o,hw,HNS.o]
   rw [hS3] at h21
   have Wd:L3.cs=L0.cs++[⟨some ⟨ga,0,none⟩,c,ls,b,S.used⟩]:=by rw [Wk];exact ah6.o
   have hI3:=h21.pr n (by rw [Wd,ai,HN.o];simp)
   rw [Wd,show (L0.cs++[(⟨some ⟨ga,0,none⟩,c,ls,b,S.used⟩:Cw)])[n]! =⟨some ⟨ga,0,none⟩,c,ls,b,S.used⟩ from by rw [←HN.o];simp] at hI3
   have mF:=ae (RY.o _ L3 h21 (aQ.aX dx.o aaR cH.o.size) (aQ.aR dx.o cH.o V9) hI3 ((by rw [Wk]:L3.tL=L2.tL).trans ag2.o))
   clear Wd hI3
   clear h21 V9 aaR Wk hS3 aH CI aat CK V4 RY
   go_wp2
   go_ret
   exact mF.o
structure T3 where
 a:Int
 b:Int
 c:Int
instance:Inhabited T3:=⟨⟨0,0,0⟩⟩
structure Nm where
 k:ByteArray
 i:Int
 t:ByteArray
instance:Inhabited Nm:=⟨⟨⟨#[]⟩,0,⟨#[]⟩⟩⟩
structure Pc where
 mx:Int
 ins:List Int
 bi:List T3
 outs:List Int
 a8:List Int
 aZ:List Int
 aG:List T3
 b8:List Nm
structure Hd where
 iA:Option Addr
 iC:Nat
 lA:Option Addr
 lC:Nat
 oA:Option Addr
 oC:Nat
 bA:Option Addr
 bC:Nat
 vA:Option Addr
 vC:Nat
 gA:Option Addr
 gC:Nat
 nA:Option Addr
 nC:Nat
def kj (H:Hd) (C:Pc):Array Value:=
 #[.int .i64 C.mx, .slice H.iA C.ins.length H.iC, .slice H.lA C.bi.length H.lC, .slice H.oA C.outs.length H.oC, .slice H.bA C.a8.length H.bC, .slice H.vA C.aZ.length H.vC, .slice H.gA C.aG.length H.gC, .slice H.nA C.b8.length H.nC]
def eX (H:Hd) (C:Pc):Value:= .agg (kj H C)
def Ud (w:World) (A:Option Addr) (l:List T3):Prop:=0<l.length→∃b o,A=some ⟨b,o,none⟩∧
 ∀j:Nat,j<l.length→w.cell? ⟨b,o+j*3,none⟩=some (.int .i64 (l[j]!).a)∧w.cell? ⟨b,o+j*3+1,none⟩=some (.int .i64 (l[j]!).b)∧w.cell? ⟨b,o+j*3+2,none⟩=some (.int .i64 (l[j]!).c)
def WJ (w:World) (A:Option Addr) (l:List Nm):Prop:=0<l.length→∃b o,A=some ⟨b,o,none⟩∧
 ∀j:Nat,j<l.length→w.cell? ⟨b,o+j*3,none⟩=some (.string (l[j]!).k)∧w.cell? ⟨b,o+j*3+1,none⟩=some (.int .i64 (l[j]!).i)∧w.cell? ⟨b,o+j*3+2,none⟩=some (.string (l[j]!).t)
theorem Ud.keep {w w':World} {A:Option Addr} {l:List T3} (h:Ud w A l) (hf:Fr [] w w'):Ud w' A l:=by
 intro h0
 obtain ⟨b,o,hA,hx⟩:=h h0
 exact ⟨b,o,hA,fun j hj=>⟨hf.aT (hx j hj).1,hf.aT (hx j hj).2.1,hf.aT (hx j hj).2.2⟩⟩
theorem WJ.keep {w w':World} {A:Option Addr} {l:List Nm} (h:WJ w A l) (hf:Fr [] w w'):WJ w' A l:=by
 intro h0
 obtain ⟨b,o,hA,hx⟩:=h h0
 exact ⟨b,o,hA,fun j hj=>⟨hf.aT (hx j hj).1,hf.aT (hx j hj).2.1,hf.aT (hx j hj).2.2⟩⟩
def dY (x:Int):Prop:= -9223372036854775808≤x∧x≤9223372036854775807
def Ra (l:List Int):Prop:=∀j:Nat,j<l.length→dY l[j]!
def Rt (l:List T3):Prop:=∀j:Nat,j<l.length→dY (l[j]!).a∧dY (l[j]!).b∧dY (l[j]!).c
def Rm (l:List Nm):Prop:=∀j:Nat,j<l.length→(l[j]!).k.size≤maxLen∧dY (l[j]!).i∧(l[j]!).t.size≤maxLen
structure iy (w:World) (H:Hd) (C:Pc):Prop where
 i:Rd w H.iA C.ins
 l:Ud w H.lA C.bi
 o:Rd w H.oA C.outs
 b:Rd w H.bA C.a8
 v:Rd w H.vA C.aZ
 g:Ud w H.gA C.aG
 n:WJ w H.nA C.b8
 iL:C.ins.length≤17592186044416
 lL:C.bi.length≤5864062014635
 oL:C.outs.length≤17592186044416
 bL:C.a8.length≤17592186044416
 vL:C.aZ.length≤17592186044416
 gL:C.aG.length≤5864062014635
 nL:C.b8.length≤3518437208781
 mr:dY C.mx
 ir:Ra C.ins
 lr:Rt C.bi
 or_:Ra C.outs
 br:Ra C.a8
 vr:Ra C.aZ
 gr:Rt C.aG
 nr:Rm C.b8
theorem iy.keep {w w':World} {H:Hd} {C:Pc} (h:iy w H C) (hf:Fr [] w w'):iy w' H C:=
 ⟨h.i.keep hf,h.l.keep hf,h.o.keep hf,h.b.keep hf,h.v.keep hf,h.g.keep hf,h.n.keep hf,h.iL,h.lL,h.oL,h.bL,h.vL,h.gL,h.nL,h.mr,h.ir,h.lr,h.or_,h.br,h.vr,h.gr,h.nr⟩
theorem OT (w:World) (H:Hd) (C:Pc):At (w.alloc (.cells (kj H C) 27)) w.heap.size 27 (kj H C):=At.new w _ _
theorem eE (w:World) (o:Obj):Fr [] w (w.alloc o):=(Fr.refl [] w).alloc o
structure Cx (w wr:World) (H:Hd) (C:Pc):Prop where
 fr:Fr [] w wr
 bx:At wr w.heap.size 27 (kj H C)
theorem Cx.start (w:World) (H:Hd) (C:Pc):Cx w (w.alloc (.cells (kj H C) 27)) H C:=⟨eE _ _,OT _ _ _⟩
theorem Cx.keep {w wr w':World} {H:Hd} {C:Pc} (h:Cx w wr H C) (hf:Fr [] wr w'):Cx w w' H C:=⟨h.fr.aj hf,h.bx.keep hf⟩
theorem At.ON {w:World} {g:Nat} {t:TypeId} {H:Hd} {C:Pc} (h:At w g t (kj H C)):
  w.cell? ⟨g,0,none⟩=some (.int .i64 C.mx)∧w.cell? ⟨g,1,none⟩=some (.slice H.iA C.ins.length H.iC)∧w.cell? ⟨g,2,none⟩=some (.slice H.lA C.bi.length H.lC)∧w.cell? ⟨g,3,none⟩=some (.slice H.oA C.outs.length H.oC)∧
  w.cell? ⟨g,4,none⟩=some (.slice H.bA C.a8.length H.bC)∧w.cell? ⟨g,5,none⟩=some (.slice H.vA C.aZ.length H.vC)∧w.cell? ⟨g,6,none⟩=some (.slice H.gA C.aG.length H.gC)∧w.cell? ⟨g,7,none⟩=some (.slice H.nA C.b8.length H.nC):=by
 refine ⟨?_,?_,?_,?_,?_,?_,?_,?_⟩<;>(rw [h.cell];rfl)
theorem Cx.cells {w wr:World} {iA iC lA lC oA oC bA bC vA vC gA gC nA nC mx ins bi outs a8 aZ aG b8} (h:Cx w wr ⟨iA,iC,lA,lC,oA,oC,bA,bC,vA,vC,gA,gC,nA,nC⟩ ⟨mx,ins,bi,outs,a8,aZ,aG,b8⟩):
  wr.cell? ⟨w.heap.size,0,none⟩=some (.int .i64 mx)∧wr.cell? ⟨w.heap.size,1,none⟩=some (.slice iA ins.length iC)∧wr.cell? ⟨w.heap.size,2,none⟩=some (.slice lA bi.length lC)∧wr.cell? ⟨w.heap.size,3,none⟩=some (.slice oA outs.length oC)∧
  wr.cell? ⟨w.heap.size,4,none⟩=some (.slice bA a8.length bC)∧wr.cell? ⟨w.heap.size,5,none⟩=some (.slice vA aZ.length vC)∧wr.cell? ⟨w.heap.size,6,none⟩=some (.slice gA aG.length gC)∧wr.cell? ⟨w.heap.size,7,none⟩=some (.slice nA b8.length nC):=h.bx.ON
theorem Cx.ext {w wr:World} {iA iC lA lC oA oC bA bC vA vC gA gC nA nC mx ins bi outs a8 aZ aG b8} (h:Cx w wr ⟨iA,iC,lA,lC,oA,oC,bA,bC,vA,vC,gA,gC,nA,nC⟩ ⟨mx,ins,bi,outs,a8,aZ,aG,b8⟩):
  (∀u:Ext wr,u.v.cell? ⟨w.heap.size,0,none⟩=some (.int .i64 mx))∧(∀u:Ext wr,u.v.cell? ⟨w.heap.size,1,none⟩=some (.slice iA ins.length iC))∧(∀u:Ext wr,u.v.cell? ⟨w.heap.size,2,none⟩=some (.slice lA bi.length lC))∧(∀u:Ext wr,u.v.cell? ⟨w.heap.size,3,none⟩=some (.slice oA outs.length oC))∧
  (∀u:Ext wr,u.v.cell? ⟨w.heap.size,4,none⟩=some (.slice bA a8.length bC))∧(∀u:Ext wr,u.v.cell? ⟨w.heap.size,5,none⟩=some (.slice vA aZ.length vC))∧(∀u:Ext wr,u.v.cell? ⟨w.heap.size,6,none⟩=some (.slice gA aG.length gC))∧(∀u:Ext wr,u.v.cell? ⟨w.heap.size,7,none⟩=some (.slice nA b8.length nC)):=by
 obtain ⟨c0,c1,c2,c3,c4,c5,c6,c7⟩:=h.cells
 exact ⟨Ext.cell c0,Ext.cell c1,Ext.cell c2,Ext.cell c3,Ext.cell c4,Ext.cell c5,Ext.cell c6,Ext.cell c7⟩
theorem Rd.one {w:World} {A:Option Addr} {l:List Int} (h:Rd w A l) (hr:Ra l) {j:Nat} (hj:j<l.length):∃b o x,A=some ⟨b,o,none⟩∧al (l[j]! =x)∧w.cell? ⟨b,o+j,none⟩=some (.int .i64 x)∧ -9223372036854775808≤x∧x≤9223372036854775807:=by
 obtain ⟨b,o,hA,hx⟩:=h (by omega)
 exact ⟨b,o,_,hA,rfl,hx j hj,hr j hj⟩
theorem Ud.one {w:World} {A:Option Addr} {l:List T3} (h:Ud w A l) (hr:Rt l) {j:Nat} (hj:j<l.length):∃b o x y z,A=some ⟨b,o,none⟩∧al (l[j]! =⟨x,y,z⟩)∧
  w.cell? ⟨b,o+j*3,none⟩=some (.int .i64 x)∧w.cell? ⟨b,o+j*3+1,none⟩=some (.int .i64 y)∧w.cell? ⟨b,o+j*3+2,none⟩=some (.int .i64 z)∧
  (-9223372036854775808≤x∧x≤9223372036854775807)∧(-9223372036854775808≤y∧y≤9223372036854775807)∧(-9223372036854775808≤z∧z≤9223372036854775807):=by
 obtain ⟨b,o,hA,hx⟩:=h (by omega)
 obtain ⟨h1,h2,h3⟩:=hx j hj
 exact ⟨b,o,_,_,_,hA,rfl,h1,h2,h3,hr j hj⟩
theorem WJ.one {w:World} {A:Option Addr} {l:List Nm} (h:WJ w A l) (hr:Rm l) {j:Nat} (hj:j<l.length):∃b o x y z,A=some ⟨b,o,none⟩∧al (l[j]! =⟨x,y,z⟩)∧
  w.cell? ⟨b,o+j*3,none⟩=some (.string x)∧w.cell? ⟨b,o+j*3+1,none⟩=some (.int .i64 y)∧w.cell? ⟨b,o+j*3+2,none⟩=some (.string z)∧
  x.size≤maxLen∧(-9223372036854775808≤y∧y≤9223372036854775807)∧z.size≤maxLen:=by
 obtain ⟨b,o,hA,hx⟩:=h (by omega)
 obtain ⟨h1,h2,h3⟩:=hx j hj
 exact ⟨b,o,_,_,_,hA,rfl,h1,h2,h3,hr j hj⟩
def hit (v x:Int):Bool:=decide (0≤x)&&decide (x/2=v)
def qc (C:Pc) (v:Int):Bool:=decide (v=0) ||C.ins.any (hit v) ||C.bi.any (fun x=>hit v x.a) ||C.aG.any (fun x=>hit v x.a)
theorem Io {α:Type} [Inhabited α] (l:List α) (p:α→Bool):(l.any p=true↔∃j:Nat,j<l.length∧p l[j]! =true):=by
 rw [bI]
 constructor
 ·rintro ⟨x,hx,h⟩
  obtain ⟨j,hj,e⟩:=List.mem_iff_getElem.1 hx
  exact ⟨j,hj,by simp [hj,e,h]⟩
 ·rintro ⟨j,hj,h⟩
  simp only [aa,af hj,ay] at h
  exact ⟨l[j],List.getElem_mem hj,h⟩
theorem Sm {α:Type} [Inhabited α] (l:List α) (p:α→Bool) (h:∀j:Nat,j<l.length→p l[j]! =false):l.any p=false:=by
 rw [Bool.eq_false_iff]
 intro hh
 obtain ⟨j,hj,h1⟩:=(Io l p).1 hh
 rw [h j hj] at h1;cases h1
theorem rK {α:Type} [Inhabited α] (l:List α) (p:α→Bool) (k:Nat) (hk:k<l.length) (h:p l[k]! =true):l.any p=true:=(Io l p).2 ⟨k,hk,h⟩
def eC {α:Type} [Inhabited α] (l:List α) (p:α→Bool) (k:Nat):Prop:=∀j:Nat,j<k→p l[j]! =false
theorem eC.zero {α:Type} [Inhabited α] (l:List α) (p:α→Bool):eC l p 0:=fun j hj=>absurd hj (aI _)
theorem eC.step {α:Type} [Inhabited α] {l:List α} {p:α→Bool} {k:Nat} (h:eC l p k) (hk:p l[k]! =false):eC l p (k+1):=fun j hj=>by
 by_cases e:j=k
 ·subst e;exact hk
 ·exact h j (by omega)
theorem eC.all {α:Type} [Inhabited α] {l:List α} {p:α→Bool} {k:Nat} (h:eC l p k) (hk:¬k<l.length):l.any p=false:=Sm l p fun j hj=>h j (by omega)
def gT (C:Pc) (l:Int):Bool:=decide (0≤l)&&qc C (l/2)
def uf (C:Pc) (l:List Int):Bool:=l.all (gT C)&&decide ((l.length:Int)≤64)
def iz (C:Pc) (k:ByteArray):Int:=
 if (k.toList==[105])=true then C.ins.length else if (k.toList==[108])=true then C.bi.length else if (k.toList==[111])=true then C.outs.length else if (k.toList==[98])=true then C.a8.length else if (k.toList==[99])=true then C.aZ.length else -1
def rk (k:ByteArray):Int:=if (k.toList==[105])=true then 0 else if (k.toList==[108])=true then 1 else if (k.toList==[111])=true then 2 else if (k.toList==[98])=true then 3 else if (k.toList==[99])=true then 4 else -1
theorem zQ (a b:List UInt8):(a==b)=true∨(a==b)=false:=by cases (a==b)<;>simp
def fL (c:UInt8):Bool:=decide ((c.toNat:Int)<33) ||decide (126<(c.toNat:Int))
def Eg (t:ByteArray):Bool:=t.data.toList.any fL
def N5 (C:Pc) (x:Nm):Bool:=decide (0≤x.i)&&decide (x.i<iz C x.k)&& !x.t.toList.isEmpty&&decide ((x.t.size:Int)≤32)
def sW (C:Pc) (x:Nm):Bool:=N5 C x&& !Eg x.t
def uz (y x:Nm):Bool:=decide (rk x.k<rk y.k) || (y.k.toList==x.k.toList)&&decide (x.i≤y.i)
def Is (C:Pc) (k:Nat):Prop:=∀j:Nat,j<k→sW C C.b8[j]! =true∧(0<j→uz C.b8[j-1]! C.b8[j]! =false)
def z8 (C:Pc):Bool:=(List.range C.b8.length).all fun j=>sW C C.b8[j]! &&(j==0 || !uz C.b8[j-1]! C.b8[j]!)
theorem I0 (C:Pc):z8 C=true↔Is C C.b8.length:=by
 unfold z8 Is
 rw [kO]
 constructor
 ·intro h j hj
  have :=h j (df.2 hj)
  simp only [aD,Bool.or_eq_true,beq_iff_eq,Bool.not_eq_true'] at this
  exact ⟨this.1,fun h0=>this.2.resolve_left (by omega)⟩
 ·intro h j hj
  obtain ⟨h1,h2⟩:=h j (df.1 hj)
  simp only [aD,Bool.or_eq_true,beq_iff_eq,Bool.not_eq_true']
  refine ⟨h1,?_⟩
  by_cases e:j=0
  ·exact .inl e
  ·exact .inr (h2 (by omega))
def Rs (w:World) (A:Option Addr) (vs:List Value):Prop:=0<vs.length→∃b o,A=some ⟨b,o,none⟩∧∀j u,vs[j]? =some u→w.cell? ⟨b,o+j,none⟩=some u
theorem Rd.rs {w:World} {A:Option Addr} {l:List Int} (h:Rd w A l):Rs w A (l.map (Value.int .i64)):=by
 intro h0
 obtain ⟨b,o,hA,hx⟩:=h (by simpa using h0)
 refine ⟨b,o,hA,fun j u hu=> ?_⟩
 simp only [aO,Option.map_eq_some_iff] at hu
 obtain ⟨y,hy,rfl⟩:=hu
 have hj:=(gK.1 hy).1
 have :=hx j hj
 rwa [aa,hy] at this
def vc (x:T3):Bool:=decide (x.c=0) ||decide (x.c=1) ||decide (x.c=x.a)
def M0 (C:Pc) (x:T3):Bool:=vc x&&gT C x.b
def F3 (C:Pc) (p:Option Int) (x:T3):Bool:=(match p with |none=>true |some q=>decide (q<x.a))&&decide (x.b<x.a)&&decide (x.c<x.a)&&gT C x.b&&gT C x.c
def YM (l:List T3) (j:Nat):Option Int:=if j=0 then none else some (l[j-1]!).a
def cD (C:Pc):List Int:=C.ins++C.bi.map (fun x=>x.a)++C.aG.map (fun x=>x.a)
def kR (C:Pc) (l:List Int) (i:Nat):Bool:=decide (2≤l[i]!)&&decide (l[i]! %2=0)&&decide (l[i]! ≤2*C.mx)&& !decide (l[i]! ∈l.take i)
structure Valid (C:Pc):Prop where
 m0:0≤C.mx
 m1:C.mx≤2048
 i:C.ins.length≤64
 l:C.bi.length≤64
 n:z8 C=true
 bi:∀j:Nat,j<C.bi.length→M0 C C.bi[j]! =true
 aG:∀j:Nat,j<C.aG.length→F3 C (YM C.aG j) C.aG[j]! =true
 own:∀j:Nat,j<(cD C).length→kR C (cD C) j=true
 o:uf C C.outs=true
 b:uf C C.a8=true
 v:uf C C.aZ=true
def PP (C:Pc) (w:World) (e:Ending) (w':World):Prop:=((e= .returned (.int .i64 0)∧Valid C)∨(e= .returned (.int .i64 9)∧¬Valid C))∧Fr [] w w'
theorem Wx {C:Pc} {w w':World} (h:¬Valid C) (hf:Fr [] w w'):PP C w (.returned (.int .i64 9)) w':=⟨.inr ⟨rfl,h⟩,hf⟩
theorem Si {C:Pc} {w w':World} (h:Valid C) (hf:Fr [] w w'):PP C w (.returned (.int .i64 0)) w':=⟨.inl ⟨rfl,h⟩,hf⟩
def DA (C:Pc) (l:List Int) (k:Nat):Prop:=∀j:Nat,j<k→kR C l j=true
theorem DA.step {C:Pc} {l:List Int} {k:Nat} (h:DA C l k) (h1:kR C l k=true):DA C l (k+1):=fun j hj=>by
 by_cases e:j=k
 ·subst e;exact h1
 ·exact h j (by omega)
theorem zq (n:Int) (h₀:0≤n) (h₁:n<2^63):IntKind.i64.wrap n=n:=by rw [IntKind.wrap_i64];omega
theorem Ko {l:Int} (h:0≤l) (h2:l≤9223372036854775807):bits BinOp.and IntKind.i64 l 1=l%2:=by
 have :=bits_mask .i64 63 (by decide) zq 1 (by decide) l h (by omega)
 simpa using this
theorem kb (w:World) (l:Int) (h:0≤l) (h2:l≤9223372036854775807):
  Calls Tryz.prog 92 #[.int .i64 l] w fun e w'=>e= .returned (.int .i64 (l/2))∧w=w':=by
 go_enter Tryz.func92,Tryz.ntmps92
 go_wp2
 go_ret
 exact ⟨rfl,rfl⟩
theorem vu (w:World) (l:Int) (h:l<0):
  Calls Tryz.prog 92 #[.int .i64 l] w fun e w'=>e= .returned (.int .i64 0)∧w=w':=by
 go_enter Tryz.func92,Tryz.ntmps92
 go_wp2
 go_ret
 exact ⟨rfl,rfl⟩
theorem qW (w:World) (l:Int) (h:0≤l) (h2:l≤9223372036854775807):
  Calls Tryz.prog 91 #[.int .i64 l] w fun e w'=>e= .returned (.bool (l%2==1))∧w=w':=by
 have HB:=ae (Ko h h2)
 go_enter Tryz.func91,Tryz.ntmps91
 go_wp2
 go_ret
 exact ⟨by rw [←HB.o];rfl,rfl⟩
def Tg (w:World) (g:Nat) (cb:Array Value) (p:Int→Bool) (xs:List Int):Prop:=∀W,Fr [] w W→∀x,x∈xs→dY x→
 Calls Tryz.prog g (#[.int .i64 x]++cb) W fun e w'=>e= .returned (.bool (p x))∧Fr [] W w'
theorem bu {α:Type} [Inhabited α] {l:List α} {k:Nat} (h:k<l.length):l[k]! ∈l:=by
 rw [aa,af h]
 exact List.getElem_mem h
def LZ (b:Bool) (w:World) (e:Ending) (w':World):Prop:=∃n:Int,e= .returned (.int .i64 n)∧ -1≤n∧n≤9223372036854775807∧decide (0≤n)=b∧Fr [] w w'
theorem EV (w:World) (A:Option Addr) (c:Nat) (xs:List Int) (g:Nat) (cb:Array Value) (p:Int→Bool) (eg:∀args w,(callFunc g args).run Tryz.prog w= .ok (.enter g args) w) (h:Rd w A xs) (hr:Ra xs) (hl:xs.length≤17592186044416) (hp:Tg w g cb p xs):
  Calls Tryz.prog 74 #[.slice A xs.length c, .func (.func g) #[] cb] w (LZ (xs.any p) w):=by
 have HH:=ae h
 have HR:=ae hr
 have HP:=ae hp
 have pP:al (∀(n:Nat) W,n≤17592186044416→xs.any p=true→Fr [] w W→LZ (xs.any p) w (.returned (.int .i64 (n:Int))) W):=fun n W h1 h2 h3=>⟨n,rfl,by omega,by omega,by rw [h2];exact decide_eq_true (by omega),h3⟩
 have NO:al (∀W,xs.any p=false→Fr [] w W→LZ (xs.any p) w (.returned (.int .i64 (-1))) W):=fun W h2 h3=>⟨-1,rfl,by omega,by omega,by rw [h2];rfl,h3⟩
 clear h hr hp
 go_enter Tryz.func74,Tryz.ntmps74
 go_wp2_with fail
 go_loopg [8] xs.length (fun g i wr=>∃k:Nat,k+g=xs.length∧i= .int .i64 k∧Fr [] w wr∧eC xs p k)
 case atStart=>exact ⟨0,by omega,rfl,Fr.refl _ _,eC.zero _ _⟩
 case round=>
  obtain ⟨k,hk,rfl,hx,hn⟩:=hrel
  have HK:=ae hk
  have HX:=ae hx
  have HN:=ae hn
  have ly:k≤xs.length:=by omega
  clear hk hx hn
  by_cases bM:k<xs.length
  ·obtain ⟨b,o,x,hA,he,cx,ij,ix⟩:=(HH.o.keep HX.o).one HR.o bM
   subst hA
   obtain ⟨q,HQ⟩:∃q,al (p x=q):=⟨_,rfl⟩
   have HC:=ae (HP.o wr HX.o x (by rw [←he.o];exact bu bM) ⟨ij,ix⟩)
   go_wp2_with fail
   refine HC.o.mono ?_
   rw [HQ.o]
   rintro e w2 ⟨rfl,hf⟩
   have HF:=ae (HX.o.aj hf)
   clear hf
   cases q with
   |true=>
    go_wp2
    go_ret
    exact pP.o k _ (by omega) (rK _ _ k bM (by rw [he.o];exact HQ.o)) HF.o
   |false=>
    go_wp2
    go_roundg (gk-1)
    case measure=>have :=HK.o;omega
    case rel=>exact ⟨k+1,by have :=HK.o;omega,by go_num,HF.o,HN.o.step (by rw [he.o];exact HQ.o)⟩
  ·have HT:=ae (HN.o.all bM)
   clear HN HK
   go_wp2
   go_ret
   exact NO.o _ HT.o HX.o
theorem gW (w:World) (A:Option Addr) (c:Nat) (xs:List Int) (g:Nat) (cb:Array Value) (p:Int→Bool) (eg:∀args w,(callFunc g args).run Tryz.prog w= .ok (.enter g args) w) (h:Rd w A xs) (hr:Ra xs) (hl:xs.length≤17592186044416) (hp:Tg w g cb p xs):
  Calls Tryz.prog 40 #[.slice A xs.length c, .func (.func g) #[] cb] w fun e w'=>e= .returned (.bool (xs.any p))∧Fr [] w w':=by
 have HC:=ae (EV w A c xs g cb p eg h hr hl hp)
 clear h hr hp
 go_enter Tryz.func40,Tryz.ntmps40
 go_wp2_with fail
 refine HC.o.mono ?_
 rintro e w2 ⟨n,rfl,h1,h2,h3,hf⟩
 have H3:=ae h3
 have HF:=ae hf
 clear h3 hf
 go_wp2
 go_ret
 exact ⟨by rw [←H3.o];rfl,HF.o⟩
theorem adT {v:Int} (h:dY v):(Lit.int IntKind.i64 v).wf=true:=by
 unfold dY at h
 simp [Lit.wf,IntKind.min,IntKind.max,IntKind.signed,IntKind.bits]
 omega
theorem QQ {v:Int} (h:dY v):keyOf Tryz.prog 3 (.int .i64 v)=some (.int .i64 v):=Maps.keyOf_int_mk Tryz.underlying3 (adT h)
theorem Yq (w:World):(zeroValue 9).run Tryz.prog w= .ok (.string ⟨#[]⟩) w:=by kernel_rfl
theorem Ke {P:Program} {e:TypeId} (he:P.underlying e=some .string) {v:Value} {z:DataW Unit×List MemPlace} (h:plainElem P e v=some z):∃s:ByteArray,v= .string s∧z=(.lit (.string s.data.toList),[]):=by
 unfold plainElem at h
 rw [he] at h
 cases v<;>simp at h
 obtain ⟨_,rfl⟩:=h
 exact ⟨_,rfl,rfl⟩
def Met (w:World) (b n:Nat) (f:Int→List UInt8):Prop:=∃D:DataW Unit,w.ownsMap Tryz.prog 3 (plainElem Tryz.prog 9) b n D∧∀v,dY v→D.atKey (.int .i64 v) (.lit (.string []))= .lit (.string (f v))
theorem Met.lt {w:World} {b n:Nat} {f:Int→List UInt8} (h:Met w b n f):b<w.heap.size:=by
 obtain ⟨D,h1,_⟩:=h
 exact h1.lt
theorem Met.fr {w w':World} {S:List Nat} {b n:Nat} {f:Int→List UInt8} (h:Met w b n f) (hf:Fr S w w') (hn:b∉S):Met w' b n f:=by
 have bM:=h.lt
 obtain ⟨D,⟨es,clock,hb,F,hs,hD⟩,h2⟩:=h
 exact ⟨D,⟨es,clock,(hf.block b bM hn).trans hb,F,hs,hD⟩,h2⟩
theorem Met.keep {w w':World} {b n:Nat} {f:Int→List UInt8} (h:Met w b n f) (hf:Fr [] w w'):Met w' b n f:=h.fr hf (by simp)
theorem Met.new (w:World):Met (w.alloc (.map #[] 0)) w.heap.size 0 (fun _=>[]):=
 ⟨.map [],World.ownsMap_made w _ _ _,fun v _=>rfl⟩
theorem MY {P:Program} {k e t:TypeId} (K:Maps.Keyed P k) (ht:P.underlying t=some (.map k e)) (he:P.underlying e=some .string) {w:World} (hz:(zeroValue e).run P w= .ok (.string ⟨#[]⟩) w) {b n:Nat} {D:DataW Unit}
  (h1:w.ownsMap P k (plainElem P e) b n D) {key:Value} {kl:Lit} (VY:keyOf P k key=some kl) {s:List UInt8} (h2:D.atKey kl (.lit (.string []))= .lit (.string s)):
  (Instr.lookup t (.map (some b)) key false).run P w= .ok (.string ⟨s.toArray⟩) w:=by
 obtain ⟨x,ps,hr,hx⟩:=h1.lookup K ht hz (plainElem_string he (by simp [maxLen,ByteArray.size])) VY
 obtain ⟨y,rfl,hz⟩:=Ke he hx
 have h4:=(Prod.mk.inj hz).1
 refine hr.trans ?_
 have h5:(DataW.lit (H:=Unit) (.string y.data.toList))= .lit (.string s):=by rw [←h4];exact h2
 injection h5 with h5
 injection h5 with h5
 rw [←h5]
theorem Met.look {w:World} {b n:Nat} {f:Int→List UInt8} (h:Met w b n f) {v:Int} (hv:dY v):
  (Instr.lookup 122 (.map (some b)) (.int .i64 v) false).run Tryz.prog w= .ok (.string ⟨(f v).toArray⟩) w:=by
 obtain ⟨D,h1,h2⟩:=h
 exact MY (Maps.int_keyed Tryz.underlying3) Tryz.underlying122 Tryz.underlying9 (Yq w) h1 (QQ hv) (h2 v hv)
theorem sg {D:DataW Unit} (hD:Maps.IsMap D) {v x:Int} {d:DataW Unit} {f:Int→List UInt8} {s:List UInt8} (hd:d= .lit (.string s)) (h:dY x→D.atKey (.int .i64 x) (.lit (.string []))= .lit (.string (f x))) (hx:dY x):
  (D.put (.int .i64 v) d).atKey (.int .i64 x) (.lit (.string []))= .lit (.string (if x=v then s else f x)):=by
 by_cases e:x=v
 ·subst e
  rw [if_pos rfl,Maps.atKey_put_same hD (by simp [WideAt.IsKeyLit]),hd]
 ·rw [if_neg e,Maps.atKey_put_other (by simpa using e),h hx]
theorem Ec (w:World) {ops:Array Oper} {rest:List Oper} {o:Oper} {a:Act} {Q:Exit→Act→World→Prop} (hg:o.guard=none) (m x y:Operand) (LD:o.op=Op.mapUpdate 122 m x y)
  (b n:Nat) (f:Int→List UInt8) (hm:a.eval m= .map (some b)) (h:Met w b n f) (hn:n<maxLen) (v:Int) (hx:a.eval x= .int .i64 v) (hv:dY v) (s:ByteArray) (hy:a.eval y= .string s) (hs:s.size≤maxLen)
  (hK:∀w',Met w' b (n+1) (fun x=>if x=v then s.data.toList else f x)→Fr [b] w w'→wpList Tryz.prog ops Q rest (a.put o.dst undef) w'):
  wpList Tryz.prog ops Q (o::rest) a w:=by
 obtain ⟨D,h1,h2⟩:=h
 refine wpList_mapUpdate_own w hg m x y 122 LD 3 9 (Maps.int_keyed Tryz.underlying3) Tryz.underlying122 _ b n D hm h1 hn _ _ (.int .i64 v) hx hy (QQ hv) (.lit (.string s.data.toList)) []
  (plainElem_string Tryz.underlying9 hs) ?_
 intro w' g1 g2
 exact hK w' ⟨_,g1,fun x hx=>sg h1.isMap rfl (fun hr=>h2 x hr) hx⟩ ((Fr.refl _ w).grown g2 (fun k hk=>by cases hk;exact .inl (by simp)))
def eM:Ending:= .panicked [{ v:= .iface 32 (.int .i64 9),recovered:=false }]
theorem gQ (w:World):Calls Tryz.prog 67 #[.bool true] w fun e w'=>e= .returned (.tuple #[])∧w=w':=by
 go_enter Tryz.func67,Tryz.ntmps67
 go_wp2_with fail
 go_end0
 exact ⟨rfl,rfl⟩
theorem ef (w:World):Calls Tryz.prog 67 #[.bool false] w fun e w'=>e=eM∧w=w':=by
 go_enter Tryz.func67,Tryz.ntmps67
 go_wp2_with fail
 exact ⟨rfl,rfl,rfl⟩
structure Ms (w:World) (g b n:Nat) (f:Int→List UInt8):Prop where
 at_:At w g 124 #[.map (some b)]
 met:Met w b n f
theorem Ms.keep {w w':World} {g b n:Nat} {f:Int→List UInt8} (h:Ms w g b n f) (hf:Fr [] w w'):Ms w' g b n f:=⟨h.at_.keep hf,h.met.keep hf⟩
def uc (f:Int→List UInt8) (l eO:Int):Bool:=decide (2≤l)&&decide (l%2=0)&&decide (l/2≤eO)&&(f (l/2)).isEmpty
theorem sK (w:World) (g b n:Nat) (f:Int→List UInt8) (l eO:Int) (k:ByteArray) (h:Ms w g b n f) (hgb:g≠b) (hr:dY l) (hd:uc f l eO=true) (hk:k.size≤1) (hn:n<140737488355328):
  Calls Tryz.prog 93 #[.pointer (some ⟨g,0,none⟩), .int .i64 l, .int .i64 eO, .string k] w fun e w'=>e= .returned (.tuple #[])∧Ms w' g b (n+1) (fun x=>if x=l/2 then k.data.toList else f x)∧Fr [b] w w':=by
 simp only [uc,aD,decide_eq_true_eq] at hd
 obtain ⟨⟨⟨h1,h2⟩,h3⟩,h4⟩:=hd
 unfold dY at hr
 obtain ⟨Vw,jU⟩:=hr
 have HM:=ae h
 have hc:=h.at_.cell 0
 simp at hc
 have jL:=h.met.look (v:=l/2) (by unfold dY;omega)
 have e4:f (l/2)=[]:=List.isEmpty_iff.1 h4
 rw [e4] at jL
 have HG:=ae hgb
 have H2:(l%2==1)=false:=by rw [beq_eq_false_iff_ne];omega
 have d1:decide (2≤l)=true:=decide_eq_true h1
 have d3:decide (l/2≤eO)=true:=decide_eq_true h3
 clear h h4 e4 h2 hgb
 have l0:0≤l:=by omega
 go_enter Tryz.func93,Tryz.ntmps93
 go_wp2_with fail
 refine (kb _ l l0 jU).mono ?_
 rintro e w' ⟨rfl,rfl⟩
 go_wp2_with fail
 refine (qW _ l l0 jU).mono ?_
 rintro e w' ⟨rfl,rfl⟩
 go_wp2_with fail
 refine (gQ _).mono ?_
 rintro e w' ⟨rfl,rfl⟩
 go_wp2_with (at_mapUpdate;refine Ec _ rfl _ _ _ rfl b n f rfl HM.o.met (by unfold maxLen;omega) (l/2) rfl (by unfold dY;omega) k rfl (by unfold maxLen;omega) ?_;intro w2 g1 g2;have G1:=ae g1;have G2:=ae g2;clear g1 g2)
 go_end0
 exact ⟨rfl,⟨G2.o.at_ HM.o.at_ (by simp;exact HG.o),G1.o⟩,G2.o⟩
theorem qj (w:World) (g b n:Nat) (f:Int→List UInt8) (l eO:Int) (k:ByteArray) (h:Ms w g b n f) (hr:dY l) (hd:uc f l eO=false):
  Calls Tryz.prog 93 #[.pointer (some ⟨g,0,none⟩), .int .i64 l, .int .i64 eO, .string k] w fun e w'=>e=eM∧w=w':=by
 unfold dY at hr
 obtain ⟨Vw,jU⟩:=hr
 have HM:=ae h
 have hc:=h.at_.cell 0
 simp at hc
 have HF:=ae (rfl :eM=eM)
 by_cases l0:0≤l
 ·have jL:=h.met.look (v:=l/2) (by unfold dY;omega)
  by_cases h1:2≤l
  ·have d1:decide (2≤l)=true:=decide_eq_true h1
   by_cases h2:l%2=0
   ·have H2:(l%2==1)=false:=by rw [beq_eq_false_iff_ne];omega
    by_cases h3:l/2≤eO
    ·have d3:decide (l/2≤eO)=true:=decide_eq_true h3
     have h4:(f (l/2)).isEmpty=false:=by
      simp only [uc,d1,d3,h2,decide_true,Bool.true_and] at hd
      exact hd
     obtain ⟨c,r,hcr⟩:∃c r,f (l/2)=c::r:=by
      cases hf:f (l/2) with
      |nil=>rw [hf] at h4;cases h4
      |cons c r=>exact ⟨c,r,rfl⟩
     rw [hcr] at jL
     clear h h4 hcr h2 hd
     go_enter Tryz.func93,Tryz.ntmps93
     go_wp2_with fail
     refine (kb _ l l0 jU).mono ?_
     rintro e w' ⟨rfl,rfl⟩
     go_wp2_with fail
     refine (qW _ l l0 jU).mono ?_
     rintro e w' ⟨rfl,rfl⟩
     go_wp2_with fail
     refine (ef _).mono ?_
     rintro e w' ⟨rfl,rfl⟩
     unfold eM
     go_wp2_with fail
     exact ⟨rfl,rfl,rfl⟩
    ·have d3:decide (l/2≤eO)=false:=decide_eq_false h3
     clear h h2 hd jL
     go_enter Tryz.func93,Tryz.ntmps93
     go_wp2_with fail
     refine (kb _ l l0 jU).mono ?_
     rintro e w' ⟨rfl,rfl⟩
     go_wp2_with fail
     refine (qW _ l l0 jU).mono ?_
     rintro e w' ⟨rfl,rfl⟩
     go_wp2_with fail
     refine (ef _).mono ?_
     rintro e w' ⟨rfl,rfl⟩
     unfold eM
     go_wp2_with fail
     exact ⟨rfl,rfl,rfl⟩
   ·have H2:(l%2==1)=true:=by rw [beq_iff_eq];omega
    clear h h2 hd jL
    go_enter Tryz.func93,Tryz.ntmps93
    go_wp2_with fail
    refine (kb _ l l0 jU).mono ?_
    rintro e w' ⟨rfl,rfl⟩
    go_wp2_with fail
    refine (qW _ l l0 jU).mono ?_
    rintro e w' ⟨rfl,rfl⟩
    go_wp2_with fail
    refine (ef _).mono ?_
    rintro e w' ⟨rfl,rfl⟩
    unfold eM
    go_wp2_with fail
    exact ⟨rfl,rfl,rfl⟩
  ·have d1:decide (2≤l)=false:=decide_eq_false h1
   clear h hd jL
   go_enter Tryz.func93,Tryz.ntmps93
   go_wp2_with fail
   refine (kb _ l l0 jU).mono ?_
   rintro e w' ⟨rfl,rfl⟩
   go_wp2_with fail
   refine (ef _).mono ?_
   rintro e w' ⟨rfl,rfl⟩
   unfold eM
   go_wp2_with fail
   exact ⟨rfl,rfl,rfl⟩
 ·have d1:decide (2≤l)=false:=decide_eq_false (by omega)
  clear h hd
  go_enter Tryz.func93,Tryz.ntmps93
  go_wp2_with fail
  refine (vu _ l (by omega)).mono ?_
  rintro e w' ⟨rfl,rfl⟩
  go_wp2_with fail
  refine (ef _).mono ?_
  rintro e w' ⟨rfl,rfl⟩
  unfold eM
  go_wp2_with fail
  exact ⟨rfl,rfl,rfl⟩
def tc (f:Int→List UInt8) (l:Int):Bool:=decide (0≤l)&&(decide (l<2) || !(f (l/2)).isEmpty)
theorem lu (w:World) (g b n:Nat) (f:Int→List UInt8) (l:Int) (h:Ms w g b n f) (hr:dY l):
  Calls Tryz.prog 69 #[.pointer (some ⟨g,0,none⟩), .int .i64 l] w fun e w'=>e= .returned (.bool (tc f l))∧Fr [] w w':=by
 unfold dY at hr
 obtain ⟨Vw,jU⟩:=hr
 have HM:=ae h
 have hc:=h.at_.cell 0
 simp at hc
 have hK:al (∀s,tc f l=s→Ending.returned (.bool s)= .returned (.bool (tc f l))):=fun s h=>by rw [h]
 have e0:=Ext.cell hc
 by_cases l0:0≤l
 ·have d0:decide (0≤l)=true:=decide_eq_true l0
  have KV:=ae (fun W=>kb W l l0 jU)
  have jL:∀u:Ext w,(Instr.lookup 122 (.map (some b)) (.int .i64 (l/2)) false).run Tryz.prog u.v= .ok (.string ⟨(f (l/2)).toArray⟩) u.v:=fun u=>(h.met.keep u.fr).look (v:=l/2) (by unfold dY;omega)
  by_cases h1:l<2
  ·have d1:decide (l<2)=true:=decide_eq_true h1
   have D9:al (tc f l=true):=(by simp [tc,d0,d1]:tc f l=true)
   clear h jL
   go_enter Tryz.func69,Tryz.ntmps69
   go_wp2
   refine ax ?_
   repeat (go_big_quiet_step (exact bk (KV.o _)))
   refine gO ?_
   intro w2 bl
   go_wp2
   go_ret
   exact ⟨hK.o _ D9.o,bl.o⟩
  ·have d1:decide (l<2)=false:=decide_eq_false h1
   cases hf:f (l/2) with
   |nil=>
    have D9:al (tc f l=false):=(by simp [tc,d1,hf]:tc f l=false)
    rw [hf] at jL
    clear h hf
    go_enter Tryz.func69,Tryz.ntmps69
    go_wp2
    refine ax ?_
    repeat (go_big_quiet_step (exact bk (KV.o _)))
    refine gO ?_
    intro w2 bl
    go_wp2
    go_ret
    exact ⟨hK.o _ D9.o,bl.o⟩
   |cons c r=>
    have D9:al (tc f l=true):=(by simp [tc,d0,hf]:tc f l=true)
    rw [hf] at jL
    clear h hf
    go_enter Tryz.func69,Tryz.ntmps69
    go_wp2
    refine ax ?_
    repeat (go_big_quiet_step (exact bk (KV.o _)))
    refine gO ?_
    intro w2 bl
    go_wp2
    go_ret
    exact ⟨hK.o _ D9.o,bl.o⟩
 ·have d0:decide (0≤l)=false:=decide_eq_false l0
  have D9:al (tc f l=false):=(by simp [tc,d0]:tc f l=false)
  have KV:=ae (fun W=>vu W l (by omega))
  clear h
  go_enter Tryz.func69,Tryz.ntmps69
  go_wp2
  refine ax ?_
  repeat (go_big_quiet_step (exact bk (KV.o _)))
  refine gO ?_
  intro w2 bl
  go_wp2
  go_ret
  exact ⟨hK.o _ D9.o,bl.o⟩
theorem OG:∀args w,(callFunc 94 args).run Tryz.prog w= .ok (.enter 94 args) w:=enters_of Tryz.func94 (by kernel_rfl) rfl
theorem OH:∀args w,(callFunc 99 args).run Tryz.prog w= .ok (.enter 99 args) w:=enters_of Tryz.func99 (by kernel_rfl) rfl
theorem F6 (w:World) (p g b n:Nat) (f:Int→List UInt8) (x:Int) (h:Ms w g b n f) (hp:w.cell? ⟨p,0,none⟩=some (.pointer (some ⟨g,0,none⟩))) (hr:dY x):
  Calls Tryz.prog 94 #[.int .i64 x, .pointer (some ⟨p,0,none⟩)] w fun e w'=>e= .returned (.bool (!tc f x))∧Fr [] w w':=by
 have KC:=ae (lu w g b n f x h hr)
 clear h hr
 go_enter Tryz.func94,Tryz.ntmps94
 go_wp2_with fail
 refine KC.o.mono ?_
 obtain ⟨q,HQ⟩:∃q,al (tc f x=q):=⟨_,rfl⟩
 rw [HQ.o]
 rintro e w' ⟨rfl,hf⟩
 have HF:=ae hf
 clear hf
 go_wp2
 go_ret
 exact ⟨by rw [HQ.o];rfl,HF.o⟩
theorem sM (w:World) (g b n:Nat) (f:Int→List UInt8) (A:Option Addr) (c:Nat) (xs:List Int) (h:Ms w g b n f) (hx:Rd w A xs) (hr:Ra xs) (hl:xs.length≤17592186044416):
  Calls Tryz.prog 70 #[.pointer (some ⟨g,0,none⟩), .slice A xs.length c] w fun e w'=>e= .returned (.bool (xs.all (tc f)))∧Fr [] w w':=by
 have hmf:∀(fn:Fn) (first cap:Array Value) (w:World),(Instr.makeFunc fn first cap).run Tryz.prog w= .ok (.func fn first cap) w:=fun _ _ _ _=>rfl
 have cU:=eE w (.cells #[.pointer (some ⟨g,0,none⟩)] 102)
 have KC:=ae (gW (w.alloc (.cells #[.pointer (some ⟨g,0,none⟩)] 102)) A c xs 94 #[.pointer (some ⟨w.heap.size,0,none⟩)] (fun x=> !tc f x) OG (hx.keep cU) hr hl
  (fun W hW x _ hx=>F6 W w.heap.size g b n f x (h.keep (cU.aj hW)) (hW.aT (by simp)) hx))
 have dy:=ae cU
 clear h hx hr cU
 go_enter Tryz.func70,Tryz.ntmps70
 go_wp2_with fail
 refine KC.o.mono ?_
 obtain ⟨q,HQ⟩:∃q,al ((xs.any fun x=> !tc f x)=q):=⟨_,rfl⟩
 rw [HQ.o]
 rintro e w' ⟨rfl,hf⟩
 have HF:=ae (dy.o.aj hf)
 clear hf
 go_wp2
 go_ret
 exact ⟨by rw [List.all_eq_not_any_not,HQ.o];rfl,HF.o⟩
theorem BI (w:World) (c:UInt8):
  Calls Tryz.prog 118 #[.int .u8 c.toNat] w fun e w'=>e= .returned (.bool (fL c))∧w=w':=by
 have hK:al (∀s,fL c=s→Ending.returned (.bool s)= .returned (.bool (fL c))):=fun s h=>by rw [h]
 by_cases h1:(c.toNat:Int)<33
 ·have d1:decide ((c.toNat:Int)<33)=true:=decide_eq_true h1
  have HB:al (fL c=true):=(by simp [fL,d1]:fL c=true)
  go_enter Tryz.func118,Tryz.ntmps118
  go_wp2
  go_ret
  exact ⟨hK.o _ HB.o,rfl⟩
 ·have d1:decide ((c.toNat:Int)<33)=false:=decide_eq_false h1
  by_cases h2:126<(c.toNat:Int)
  ·have d2:decide (126<(c.toNat:Int))=true:=decide_eq_true h2
   have HB:al (fL c=true):=(by simp [fL,d2]:fL c=true)
   go_enter Tryz.func118,Tryz.ntmps118
   go_wp2
   go_ret
   exact ⟨hK.o _ HB.o,rfl⟩
  ·have d2:decide (126<(c.toNat:Int))=false:=decide_eq_false h2
   have HB:al (fL c=false):=(by simp [fL,d1,d2]:fL c=false)
   go_enter Tryz.func118,Tryz.ntmps118
   go_wp2
   go_ret
   exact ⟨hK.o _ HB.o,rfl⟩
theorem OF:∀args w,(callFunc 118 args).run Tryz.prog w= .ok (.enter 118 args) w:=enters_of Tryz.func118 (by kernel_rfl) rfl
theorem Cl (w:World) (g c:Nat) (l:List UInt8) (h:∀j:Nat,j<l.length→w.cell? ⟨g,j,none⟩=some (.int .u8 (l[j]!).toNat)) (hl:l.length≤17592186044416):
  Calls Tryz.prog 142 #[.slice (some ⟨g,0,none⟩) l.length c, .func (.func 118) #[] #[]] w (LZ (l.any fL) w):=by
 have HH:=ae h
 have pP:al (∀(n:Nat) W,n≤17592186044416→l.any fL=true→Fr [] w W→LZ (l.any fL) w (.returned (.int .i64 (n:Int))) W):=fun n W h1 h2 h3=>⟨n,rfl,by omega,by omega,by rw [h2];exact decide_eq_true (by omega),h3⟩
 have NO:al (∀W,l.any fL=false→Fr [] w W→LZ (l.any fL) w (.returned (.int .i64 (-1))) W):=fun W h2 h3=>⟨-1,rfl,by omega,by omega,by rw [h2];rfl,h3⟩
 have eg:=OF
 clear h
 go_enter Tryz.func142,Tryz.ntmps142
 go_wp2
 go_loop [8] (fun i=>∃k:Nat,k≤l.length∧i= .int .i64 k∧eC l fL k) (fun i=>l.length-(intOf i).toNat)
 case atStart=>exact ⟨0,bH _,rfl,eC.zero _ _⟩
 case round=>
  obtain ⟨k,hk,rfl,hn⟩:=hrel
  have HN:=ae hn
  clear hn
  by_cases bM:k<l.length
  ·have cx:=HH.o k bM
   obtain ⟨x,he⟩:∃x,al (l[k]! =x):=⟨_,rfl⟩
   rw [he.o] at cx
   have HC:=ae (BI w x)
   go_wp2_with fail
   refine HC.o.mono ?_
   obtain ⟨q,HQ⟩:∃q,al (fL x=q):=⟨_,rfl⟩
   rw [HQ.o]
   rintro e w2 ⟨rfl,rfl⟩
   cases q with
   |true=>
    go_wp2
    go_ret
    exact pP.o k _ (by omega) (rK _ _ k bM (by rw [he.o];exact HQ.o)) (Fr.refl _ _)
   |false=>
    go_wp2
    go_round
    case rel=>exact ⟨k+1,by omega,by go_num,HN.o.step (by rw [he.o];exact HQ.o)⟩
    case measure=>simp [intOf];omega
  ·have HT:=ae (HN.o.all bM)
   go_wp2
   go_ret
   exact NO.o _ HT.o (Fr.refl _ _)
theorem wQ (w:World) (g c:Nat) (l:List UInt8) (h:∀j:Nat,j<l.length→w.cell? ⟨g,j,none⟩=some (.int .u8 (l[j]!).toNat)) (hl:l.length≤17592186044416):
  Calls Tryz.prog 117 #[.slice (some ⟨g,0,none⟩) l.length c, .func (.func 118) #[] #[]] w fun e w'=>e= .returned (.bool (l.any fL))∧Fr [] w w':=by
 have HC:=ae (Cl w g c l h hl)
 clear h
 go_enter Tryz.func117,Tryz.ntmps117
 go_wp2_with fail
 refine HC.o.mono ?_
 rintro e w2 ⟨n,rfl,h1,h2,h3,hf⟩
 have H3:=ae h3
 have HF:=ae hf
 clear h3 hf
 go_wp2
 go_ret
 exact ⟨by rw [←H3.o];rfl,HF.o⟩
theorem OP (w:World) (e:TypeId) (s:ByteArray):Fr [] w (Lib.bytesWorld w e s):=
 ⟨rfl,rfl,rfl,by rw [Lib.bytesWorld_size];omega,fun k hk _=>Lib.bytesWorld_at_old w e s k hk⟩
def kw (s:ByteArray):Bool:= !s.toList.isEmpty&&decide ((s.size:Int)≤32)&& !Eg s
theorem Ei (w:World) (s:ByteArray) (hs:s.size≤maxLen):
  Calls Tryz.prog 97 #[.string s] w fun e w'=>e= .returned (.bool (kw s))∧Fr [] w w':=by
 unfold maxLen at hs
 have hK:al (∀x,kw s=x→Ending.returned (.bool x)= .returned (.bool (kw s))):=fun s h=>by rw [h]
 by_cases h1:s.toList.isEmpty=true
 ·have HB:al (kw s=false):=(by simp [kw,h1]:kw s=false)
  go_enter Tryz.func97,Tryz.ntmps97
  go_wp2
  go_ret
  exact ⟨hK.o _ HB.o,Fr.refl _ _⟩
 ·have h1b:=Bool.eq_false_iff.2 h1
  by_cases h2:(s.size:Int)≤32
  ·have d2:decide ((s.size:Int)≤32)=true:=decide_eq_true h2
   have HC:=ae (wQ (Lib.bytesWorld w 5 s) w.heap.size (grownCap w s.size 0 5) s.data.toList (fun j hj=>by
    rw [Lib.bytesWorld_cell w 5 s j hj,aa,List.getD_eq_getElem?_getD,af hj];rfl) (by simp;omega))
   have HB:al (kw s= !(s.data.toList.any fL)):=(by simp [kw,h1b,d2,Eg]:kw s= !(s.data.toList.any fL))
   have hcv:=Lib.run_convert_string_bytes (P:=Tryz.prog) w 9 140 5 s Tryz.underlying9 Tryz.underlying140 Tryz.underlying5
   have HF:=ae (OP w 5 s)
   rw [show s.data.toList.length=s.size from rfl] at HC
   go_enter Tryz.func97,Tryz.ntmps97
   go_wp2_with fail
   refine HC.o.mono ?_
   obtain ⟨q,HQ⟩:∃q,al (s.data.toList.any fL=q):=⟨_,rfl⟩
   rw [HQ.o]
   rintro e w2 ⟨rfl,hf⟩
   have cH:=ae hf
   clear hf
   go_wp2
   go_ret
   exact ⟨hK.o _ (by rw [HB.o,HQ.o]),HF.o.aj cH.o⟩
  ·have d2:decide ((s.size:Int)≤32)=false:=decide_eq_false h2
   have HB:al (kw s=false):=(by simp [kw,d2]:kw s=false)
   go_enter Tryz.func97,Tryz.ntmps97
   go_wp2
   go_ret
   exact ⟨hK.o _ HB.o,Fr.refl _ _⟩
def ee (c:UInt8):Int:=Lib.indexByte [105,108,111,98,99] c
theorem GN (c:UInt8):(ByteArray.mk #[c]).toList=[c]:=by
 rw [ByteArray.toList_eq]
theorem U9 (w:World) (c:UInt8):
  Calls Tryz.prog 155 #[.string ⟨#[105,108,111,98,99]⟩, .int .u8 c.toNat] w fun e w'=>e= .returned (.int .i64 (ee c))∧w=w':=by
 go_enter Tryz.func155,Tryz.ntmps155
 go_wp2_with fail
 rw [run_callFunc_extern Tryz.func165 (by kernel_rfl) (by kernel_rfl) (by kernel_rfl) (e:=Extern.BytealgIndexByte.indexByte) (by kernel_rfl),Lib.run_indexByteString]
 simp only [Result.andThen]
 rw [Oper.upon_value]
 go_wp2
 go_ret
 exact ⟨by simp [ee],rfl⟩
theorem Qr (w:World) (c:UInt8):
  Calls Tryz.prog 141 #[.string ⟨#[105,108,111,98,99]⟩, .string ⟨#[c]⟩] w fun e w'=>e= .returned (.int .i64 (ee c))∧w=w':=by
 go_enter Tryz.func141,Tryz.ntmps141
 go_wp2_with fail
 refine (U9 _ c).mono ?_
 rintro e w' ⟨rfl,rfl⟩
 go_wp2
 go_ret
 exact ⟨rfl,rfl⟩
theorem BL (w:World) (c:UInt8):
  Calls Tryz.prog 116 #[.string ⟨#[105,108,111,98,99]⟩, .string ⟨#[c]⟩] w fun e w'=>e= .returned (.int .i64 (ee c))∧w=w':=by
 go_enter Tryz.func116,Tryz.ntmps116
 go_wp2_with fail
 refine (Qr _ c).mono ?_
 rintro e w' ⟨rfl,rfl⟩
 go_wp2
 go_ret
 exact ⟨rfl,rfl⟩
theorem BM (w:World) (c:UInt8):
  Calls Tryz.prog 95 #[.string ⟨#[105,108,111,98,99]⟩, .string ⟨#[c]⟩] w fun e w'=>e= .returned (.bool (decide (0≤ee c)))∧w=w':=by
 go_enter Tryz.func95,Tryz.ntmps95
 go_wp2_with fail
 refine (BL _ c).mono ?_
 rintro e w' ⟨rfl,rfl⟩
 go_wp2
 go_ret
 exact ⟨rfl,rfl⟩
end Go.Proofs.YtdgplmgfkliijaaGreat
