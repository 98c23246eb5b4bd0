/- Parts of a proof. -/
import Derived.Test.YtdgplmgfkliijaaGreatGAQ
import Derived.WalkKit
import Derived.ProofKit
import Derived.OpenShut
import Derived.Deep.Slices
import Derived.Carry
import Derived.SizedLaws
import Derived.Lib.SmallJoins
import Derived.Deep.Strs
set_option linter.unusedVariables false
set_option linter.unusedSimpArgs false
set_option maxRecDepth 100000
namespace Go.Proofs.YtdgplmgfkliijaaGreat
open Go.ChangeShapes Go.WideShapes Go.ChangeAt Go.RowKit
theorem Ez {H:Type} {enc:TypeId×Value→H} {P:Program} {f:Func} {s:ChangeSpec} {apart fresh handsOn again:Bool} {W W':World} {args:Array Value} {v:Value} {ds gs:List (DataW H)} {before pa pv:List MemPlace}
  (hW:DataW.Whole enc P f.params.toList s.vars apart W args.toList ds gs before)
  (fS:∀(b:Nat) (sp:Nat→Bool) (hd:Bool),DataW.TrodAll enc P W' b sp hd f.resultTypes.toList (v.resultList f.resultTypes.size) (s.fn H (ds++gs)).results [])
  (Oh:∀sp:Nat→Bool,(∀p∈before,sp p.block=true)→DataW.TrodAll enc P W' 0 sp true f.params.toList args.toList (s.fn H (ds++gs)).args pa)
  (TD:∀sp:Nat→Bool,(∀p∈before,sp p.block=true)→DataW.TrodVars enc P W' sp s.vars (s.fn H (ds++gs)).vars pv)
  (hps:before=pa++pv) (hb:Below W.heap.size W W')
  (tm:∀(j:Nat) (t:TypeId) (r:Value),f.resultTypes[j]? =some t→(v.resultList f.resultTypes.size)[j]? =some r→Value.okWide P W' .any 0 t r):
  s.post enc P f apart fresh handsOn again W args v W':=by
 have old:∀p∈before,p.block<W.heap.size:=fun p hp=>hW.lt p hp
 have Ty:∀p∈before,(fun b=>decide (b<W.heap.size)) p.block=true:=fun p hp=>by simpa using old p hp
 refine ⟨ds,gs,before,[],pa,pv,hW,fS _ _ _,Oh _ Ty,TD _ Ty,?_,fun _=> ?_⟩
 ·refine World.keptBut_mono (fun p hp=>⟨hp,?_⟩) (hb.frame (· ∈before))
  rw [hps,ag] at hp
  exact Or.inr hp
 ·obtain ⟨_,_,_,_,_,hz,hn⟩:=hW
  refine ⟨tm,_,_,([]++pa)++pv,⟨[]++pa,pv,trodAll_append (Oh _ (fun _ _=>rfl)) (fS _ _ _),TD _ (fun _ _=>rfl),rfl,?_,?_⟩,?_⟩
  ·intro b off hp
   have ke:MemPlace.cell b off∈before:=by rw [hps];simpa using hp
   rw [hb.frozen (old _ ke)]
   exact hz b off ke
  ·intro ha
   have :=hn ha
   rw [hps] at this
   simpa using this
  ·intro p hp _
   rw [hps]
   simpa using hp
end Go.Proofs.YtdgplmgfkliijaaGreat
namespace Go.Proofs.YtdgplmgfkliijaaGreat
open Go.ChangeShapes Go.WideShapes Go.ChangeAt Go.RowKit Go.Deep
theorem laid:laidOutB Tryz.prog=true:=by kernel_rfl
theorem vE {H:Type} {enc:TypeId×Value→H} {t:TypeId} (hr:Tryz.prog.readableRec t=true) (fJ:t<Tryz.prog.types.size) {W W':World} {v:Value} {d:DataW H} {ps:List MemPlace} {sp:Nat→Bool}
  (h:DataW.Trod enc Tryz.prog W 0 (fun _=>true) true t v d ps) (hb:Below W.heap.size W W') (bM:∀x∈ps,x.block<W.heap.size) (hs:∀p∈ps,sp p.block=true):
  DataW.Trod enc Tryz.prog W' 0 sp true t v d ps:=
 WideElems.Trod_stays laid hr fJ h (fun x hx=>hb.same (bM x hx)) hs
section
variable {H:Type} {enc:TypeId×Value→H} {P:Program} {w:World} {base:Nat} {spare:Nat→Bool} {held:Bool}
end
end Go.Proofs.YtdgplmgfkliijaaGreat
namespace Go.Proofs.YtdgplmgfkliijaaGreat
open Go.ChangeShapes Go.WideShapes Go.ChangeAt Go.RowKit Go.Deep Go.Joins
section
variable {H:Type} {enc:TypeId×Value→H} {w:World} {base:Nat} {spare:Nat→Bool} {held:Bool}
theorem nf:Tryz.prog.cellsOf 27 =8:=by kernel_rfl
theorem yh:Tryz.prog.cellsOf 40 =3:=by kernel_rfl
theorem Dn:Tryz.prog.cellsOf 105 =3:=by kernel_rfl
theorem rG:Tryz.prog.cellsOf 127 =3:=by kernel_rfl
theorem gd:Tryz.prog.cellsOf 3 =1:=by kernel_rfl
theorem mY:Tryz.prog.cellsOf 22 =1:=by kernel_rfl
theorem AK:Tryz.prog.cellsOf 23 =1:=by kernel_rfl
theorem AM:Tryz.prog.cellsOf 24 =1:=by kernel_rfl
theorem Dm:Tryz.prog.cellsOf 25 =1:=by kernel_rfl
theorem wU:Tryz.prog.cellsOf 9 =1:=by kernel_rfl
theorem Dp:Tryz.prog.bytesOf 3 =8:=by kernel_rfl
theorem yi:Tryz.prog.bytesOf 40 =24:=by kernel_rfl
theorem Dq:Tryz.prog.bytesOf 105 =24:=by kernel_rfl
theorem AN:Tryz.prog.bytesOf 127 =40:=by kernel_rfl
theorem qU {a:Addr} {v:Value} (h:w.cell? a=some v):∃b o,a=⟨b,o,none⟩:=by
 obtain ⟨b,o,s⟩:=a
 unfold World.cell? at h
 split at h
 ·split at h
  ·cases h
  ·rename_i Vp
   exact ⟨b,o,by cases s<;>simp_all⟩
 ·cases h
theorem Iq (a:Addr):a.add 0=a:=by unfold Addr.add;exact if_pos rfl
theorem AR (b o n:Nat):(Addr.mk b o none).add n=⟨b,o+n,none⟩:=by unfold Addr.add;split<;>simp_all
theorem je {n:Nat} {cs:List Value} {x:DataW H×List MemPlace} (h:DataW.trod enc Tryz.prog w base spare held n 22 cs=some x) (hb:∀n∈x.1.weights Tryz.prog 22,n≤reachBytes):
  ∃(A:Option Addr) (c:Nat) (l:List Int),cs=[.slice A l.length c]∧l.length≤c∧c≤maxLen∧Rd w A l∧Ra l∧l.length≤17592186044416∧(A=none→l.length=0∧c=0):=by
 rcases open_ints Tryz.underlying22 Tryz.underlying3 gd h with ⟨e1,ij⟩ |⟨a,len,cap,zs,e1,CW,CG,hm,hz,ij,j3,hwf⟩
 ·exact ⟨none,0,[],e1,au _,by simp [maxLen],fun h=>absurd h (aI _),fun j hj=>absurd hj (aI _),by simp,fun _=>⟨rfl,rfl⟩⟩
 ·have hle:len≤zs.length:=by rw [hz];split<;>omega
  have Lx:(zs.take len).length=len:=by rw [aV];omega
  refine ⟨some a,cap,zs.take len,by rw [e1,Lx],by omega,hm,fun hp=> ?_,fun j hj=> ?_,?_,fun h=>by cases h⟩
  ·rw [Lx] at hp
   obtain ⟨b,o,rfl⟩:=qU (j3 0 (by omega))
   refine ⟨b,o,rfl,fun j hj=> ?_⟩
   rw [Lx] at hj
   have :=j3 j (by omega)
   rw [AR] at this
   rw [this]
   have RF:j<zs.length:=by omega
   simp [aa,hj]
  ·rw [Lx] at hj
   have RF:j<zs.length:=by omega
   have :=Go.Joins.in64_of_wf (hwf zs[j] (List.getElem_mem RF))
   have e:(zs.take len)[j]! =zs[j]:=by simp [aa,hj,RF]
   rw [e]
   exact this
  ·have h1:=hb ((len+(zs.length-len))*8) (by
    rw [ij]
    simp [DataW.weights,Tryz.underlying22,Dp,lits]
    omega)
   rw [Lx]
   simp only [reachBytes] at h1
   omega
theorem BK {t e:TypeId} {f0 f1 f2:Field} (ht:Tryz.prog.underlying t=some (.slice e)) (he:Tryz.prog.underlying e=some (.struct #[f0,f1,f2])) (ce:Tryz.prog.cellsOf e=3) (be:Tryz.prog.bytesOf e=24)
  (o0:f0.offset=0∧f0.type=3) (o1:f1.offset=1∧f1.type=3) (o2:f2.offset=2∧f2.type=3)
  {n:Nat} {cs:List Value} {x:DataW H×List MemPlace} (h:DataW.trod enc Tryz.prog w base spare held n t cs=some x) (hb:∀n∈x.1.weights Tryz.prog t,n≤reachBytes):
  ∃(A:Option Addr) (c:Nat) (l:List T3),cs=[.slice A l.length c]∧Ud w A l∧Rt l∧l.length≤5864062014635∧(A=none→l.length=0∧c=0):=by
 rcases open_slice ht h with ⟨h0,_⟩ |⟨a,len,cap,m,n',D,Pl,h0,CW,hl,hm,xz,np,hx⟩
 ·exact ⟨none,0,[],h0,fun h=>absurd h (aI _),fun j hj=>absurd hj (aI _),by simp,fun _=>⟨rfl,rfl⟩⟩
 ·have tn:len≤m:=by rw [xz];split<;>omega
  have vT:∀i,i<len→∃z:T3,(dY z.a∧dY z.b∧dY z.c)∧w.cell? (a.add (i*3))=some (.int .i64 z.a)∧w.cell? ((a.add (i*3)).add 1)=some (.int .i64 z.b)∧w.cell? ((a.add (i*3)).add 2)=some (.int .i64 z.c):=by
   intro i hi
   obtain ⟨cs',hc,PT⟩:=hx i (by omega)
   rw [ce] at hc
   obtain ⟨y0,y1,y2,n2,_,hlen,g0,g1,g2⟩:=trod_struct3 he PT
   rw [ce] at hlen
   rw [o0.1,o0.2,gd] at g0
   rw [o1.1,o1.2,gd] at g1
   rw [o2.1,o2.2,gd] at g2
   match cs',hlen with
   |[v0,v1,v2],_=>
    simp only [List.drop_zero,List.drop_succ_cons,List.take_succ_cons,List.take_zero] at g0 g1 g2
    obtain ⟨z0,e0,_,w0⟩:=DataW.trod_int Tryz.underlying3 g0
    obtain ⟨z1,e1,_,w1⟩:=DataW.trod_int Tryz.underlying3 g1
    obtain ⟨z2,e2,_,w2⟩:=DataW.trod_int Tryz.underlying3 g2
    cases e0
    cases e1
    cases e2
    obtain ⟨_,_,vV⟩:=World.cells?_some hc
    have a0:=vV 0 (by omega)
    have a1:=vV 1 (by omega)
    have a2:=vV 2 (by omega)
    rw [Iq] at a0
    exact ⟨⟨z0,z1,z2⟩,⟨Go.Joins.in64_of_wf w0,Go.Joins.in64_of_wf w1,Go.Joins.in64_of_wf w2⟩,a0,a1,a2⟩
  obtain ⟨F,hF⟩:=choose_lt vT
  refine ⟨some a,cap,(List.range len).map F,by simp [h0],fun rg=> ?_,fun j hj=> ?_,?_,fun h=>by cases h⟩
  ·simp only [aq,cX] at rg
   have LW:=(hF 0 rg).2.1
   rw [Nat.zero_mul] at LW
   rw [Iq] at LW
   obtain ⟨b,o,rfl⟩:=qU LW
   refine ⟨b,o,rfl,fun j hj=> ?_⟩
   simp only [aq,cX] at hj
   have :=(hF j hj).2
   simp only [AR] at this
   simp only [aa,aO,List.getElem?_range hj,cu,ay]
   exact this
  ·simp only [aq,cX] at hj
   simp only [aa,aO,List.getElem?_range hj,cu,ay]
   exact (hF j hj).1
  ·have h1:=hb ((len+(m-len))*24) (by
    rw [np]
    simp [DataW.weights,ht,be])
   simp only [reachBytes] at h1
   simp only [aq,cX]
   omega
theorem MP {n:Nat} {cs:List Value} {x:DataW H×List MemPlace} (h:DataW.trod enc Tryz.prog w base spare held n 25 cs=some x) (hb:∀n∈x.1.weights Tryz.prog 25,n≤reachBytes):
  ∃(A:Option Addr) (c:Nat) (l:List Nm),cs=[.slice A l.length c]∧WJ w A l∧Rm l∧l.length≤3518437208781∧(A=none→l.length=0∧c=0):=by
 rcases open_slice Tryz.underlying25 h with ⟨h0,_⟩ |⟨a,len,cap,m,n',D,Pl,h0,CW,hl,hm,xz,np,hx⟩
 ·exact ⟨none,0,[],h0,fun h=>absurd h (aI _),fun j hj=>absurd hj (aI _),by simp,fun _=>⟨rfl,rfl⟩⟩
 ·have tn:len≤m:=by rw [xz];split<;>omega
  have vT:∀i,i<len→∃z:Nm,(z.k.size≤maxLen∧dY z.i∧z.t.size≤maxLen)∧w.cell? (a.add (i*3))=some (.string z.k)∧w.cell? ((a.add (i*3)).add 1)=some (.int .i64 z.i)∧w.cell? ((a.add (i*3)).add 2)=some (.string z.t):=by
   intro i hi
   obtain ⟨cs',hc,PT⟩:=hx i (by omega)
   rw [rG] at hc
   obtain ⟨y0,y1,y2,n2,_,hlen,g0,g1,g2⟩:=trod_struct3 Tryz.underlying127 PT
   rw [rG] at hlen
   simp only [gd,wU] at g0 g1 g2
   match cs',hlen with
   |[v0,v1,v2],_=>
    simp only [List.drop_zero,List.drop_succ_cons,List.take_succ_cons,List.take_zero] at g0 g1 g2
    obtain ⟨z0,e0,_,w0⟩:=DataW.trod_string Tryz.underlying9 g0
    obtain ⟨z1,e1,_,w1⟩:=DataW.trod_int Tryz.underlying3 g1
    obtain ⟨z2,e2,_,w2⟩:=DataW.trod_string Tryz.underlying9 g2
    cases e0
    cases e1
    cases e2
    obtain ⟨_,_,vV⟩:=World.cells?_some hc
    have a0:=vV 0 (by omega)
    have a1:=vV 1 (by omega)
    have a2:=vV 2 (by omega)
    rw [Iq] at a0
    exact ⟨⟨z0,z1,z2⟩,⟨w0,Go.Joins.in64_of_wf w1,w2⟩,a0,a1,a2⟩
  obtain ⟨F,hF⟩:=choose_lt vT
  refine ⟨some a,cap,(List.range len).map F,by simp [h0],fun rg=> ?_,fun j hj=> ?_,?_,fun h=>by cases h⟩
  ·simp only [aq,cX] at rg
   have LW:=(hF 0 rg).2.1
   rw [Nat.zero_mul] at LW
   rw [Iq] at LW
   obtain ⟨b,o,rfl⟩:=qU LW
   refine ⟨b,o,rfl,fun j hj=> ?_⟩
   simp only [aq,cX] at hj
   have :=(hF j hj).2
   simp only [AR] at this
   simp only [aa,aO,List.getElem?_range hj,cu,ay]
   exact this
  ·simp only [aq,cX] at hj
   simp only [aa,aO,List.getElem?_range hj,cu,ay]
   exact (hF j hj).1
  ·have h1:=hb ((len+(m-len))*40) (by
    rw [np]
    simp [DataW.weights,Tryz.underlying25,AN])
   simp only [reachBytes] at h1
   simp only [aq,cX]
   omega
theorem Tq {α:Type} {l:List α} (h:l.length=8):∃a b c d e f g h,l=[a,b,c,d,e,f,g,h]:=by
 match l,h with
 |[a,b,c,d,e,f,g,h],_=>exact ⟨a,b,c,d,e,f,g,h,rfl⟩
theorem zD {P:Program} {t:TypeId} {f0 f1 f2 f3 f4 f5 f6 f7:Field} {fuel:Nat} {cs:List Value} {x:DataW H×List MemPlace} (ht:P.underlying t=some (.struct #[f0,f1,f2,f3,f4,f5,f6,f7])) (h:DataW.trod enc P w base spare held fuel t cs=some x):
  ∃y0 y1 y2 y3 y4 y5 y6 y7 n,x.1= .agg ([y0,y1,y2,y3,y4,y5,y6,y7].map (·.1))∧cs.length=P.cellsOf t∧DataW.trod enc P w base spare held n f0.type ((cs.drop f0.offset).take (P.cellsOf f0.type))=some y0∧DataW.trod enc P w base spare held n f1.type ((cs.drop f1.offset).take (P.cellsOf f1.type))=some y1∧DataW.trod enc P w base spare held n f2.type ((cs.drop f2.offset).take (P.cellsOf f2.type))=some y2∧DataW.trod enc P w base spare held n f3.type ((cs.drop f3.offset).take (P.cellsOf f3.type))=some y3∧DataW.trod enc P w base spare held n f4.type ((cs.drop f4.offset).take (P.cellsOf f4.type))=some y4∧DataW.trod enc P w base spare held n f5.type ((cs.drop f5.offset).take (P.cellsOf f5.type))=some y5∧DataW.trod enc P w base spare held n f6.type ((cs.drop f6.offset).take (P.cellsOf f6.type))=some y6∧DataW.trod enc P w base spare held n f7.type ((cs.drop f7.offset).take (P.cellsOf f7.type))=some y7:=by
 obtain ⟨xs,n,_,hx,hl,hlen,hf⟩:=DataW.trod_struct ht h
 obtain ⟨y0,y1,y2,y3,y4,y5,y6,y7,rfl⟩:=Tq (l:=xs) hlen
 exact ⟨y0,y1,y2,y3,y4,y5,y6,y7,n,by rw [hx],hl,by simpa using hf 0 f0 rfl,by simpa using hf 1 f1 rfl,by simpa using hf 2 f2 rfl,by simpa using hf 3 f3 rfl,by simpa using hf 4 f4 rfl,by simpa using hf 5 f5 rfl,by simpa using hf 6 f6 rfl,by simpa using hf 7 f7 rfl⟩
theorem FV {n:Nat} {cs:List Value} {x:DataW H×List MemPlace} (h:DataW.trod enc Tryz.prog w base spare held n 27 cs=some x) (hb:∀n∈x.1.weights Tryz.prog 27,n≤reachBytes):
  ∃(Hh:Hd) (C:Pc),cs=(kj Hh C).toList∧iy w Hh C:=by
 obtain ⟨y0,y1,y2,y3,y4,y5,y6,y7,n2,hx,hl,TW,cU,bZ,dD,eW,eu,fN,gG⟩:=zD Tryz.underlying27 h
 rw [nf] at hl
 obtain ⟨v0,v1,v2,v3,v4,v5,v6,v7,rfl⟩:=Tq hl
 simp only [gd,mY,AK,AM,Dm,List.drop_zero,List.drop_succ_cons,List.take_succ_cons,List.take_zero] at TW cU bZ dD eW eu fN gG
 have hw:∀(j:Nat) (t:TypeId) (y:DataW H×List MemPlace),[3,22,23,22,22,22,24,25][j]? =some t→[y0,y1,y2,y3,y4,y5,y6,y7][j]? =some y→∀n∈y.1.weights Tryz.prog t,n≤reachBytes:=by
  intro j t y ht hy k hk
  refine hb k ?_
  rw [hx]
  have e:(DataW.agg ([y0,y1,y2,y3,y4,y5,y6,y7].map (·.1))).weights Tryz.prog 27 =DataW.weightsEach Tryz.prog [3,22,23,22,22,22,24,25] ([y0,y1,y2,y3,y4,y5,y6,y7].map (·.1)):=by
   rw [DataW.weights,Tryz.underlying27]
   rfl
  rw [e]
  exact DataW.weights_mem_each (j:=j) ht (by rw [aO,hy];rfl) k hk
 obtain ⟨mx,e0,_,w0⟩:=DataW.trod_int Tryz.underlying3 TW
 obtain ⟨A1,c1,l1,e1,_,_,r1,q1,b1,n1⟩:=je cU (hw 1 _ _ rfl rfl)
 obtain ⟨A2,c2,l2,e2,r2,q2,b2,n2'⟩:=BK Tryz.underlying23 Tryz.underlying40 yh yi ⟨rfl,rfl⟩ ⟨rfl,rfl⟩ ⟨rfl,rfl⟩ bZ (hw 2 _ _ rfl rfl)
 obtain ⟨A3,c3,l3,e3,_,_,r3,q3,b3,n3⟩:=je dD (hw 3 _ _ rfl rfl)
 obtain ⟨A4,c4,l4,e4,_,_,r4,q4,b4,n4⟩:=je eW (hw 4 _ _ rfl rfl)
 obtain ⟨A5,c5,l5,e5,_,_,r5,q5,b5,n5⟩:=je eu (hw 5 _ _ rfl rfl)
 obtain ⟨A6,c6,l6,e6,r6,q6,b6,n6⟩:=BK Tryz.underlying24 Tryz.underlying105 Dn Dq ⟨rfl,rfl⟩ ⟨rfl,rfl⟩ ⟨rfl,rfl⟩ fN (hw 6 _ _ rfl rfl)
 obtain ⟨A7,c7,l7,e7,r7,q7,b7,n7⟩:=MP gG (hw 7 _ _ rfl rfl)
 simp only [List.cons.injEq,and_true] at e0 e1 e2 e3 e4 e5 e6 e7
 subst e0 e1 e2 e3 e4 e5 e6 e7
 exact ⟨⟨A1,c1,A2,c2,A3,c3,A4,c4,A5,c5,A6,c6,A7,c7⟩,⟨mx,l1,l2,l3,l4,l5,l6,l7⟩,rfl,
  ⟨r1,r2,r3,r4,r5,r6,r7,b1,b2,b3,b4,b5,b6,b7,Go.Joins.in64_of_wf w0,q1,q2,q3,q4,q5,q6,q7⟩⟩
theorem yg:Tryz.prog.cellsOf 28 =1:=by kernel_rfl
theorem AO:Tryz.prog.bytesOf 22 =24:=by kernel_rfl
theorem od {P:Program} {e:TypeId} {d:DataW H} {n:Nat} (hn:n∈d.weights P e):∀{ds:List (DataW H)},d∈ds→n∈DataW.weightsAll P e ds
 |[],h=>by cases h
 |a::r,h=>by
  rw [DataW.weightsAll]
  rcases av.1 h with h1 |h1
  ·rw [←h1]
   exact ak _ hn
  ·exact aM _ (od hn h1)
theorem Ib {α:Type} [Inhabited α] {len j:Nat} {F:Nat→α} (hj:j<len):((List.range len).map F)[j]! =F j:=by
 simp only [aa,aO,List.getElem?_range hj,cu,ay]
theorem mQ {n:Nat} {cs:List Value} {x:DataW H×List MemPlace} (h:DataW.trod enc Tryz.prog w base spare held n 28 cs=some x) (hb:∀n∈x.1.weights Tryz.prog 28,n≤reachBytes):
  ∃(A:Option Addr) (c:Nat) (hs:List Ls),cs=[.slice A hs.length c]∧iS w A hs∧hs.length≤5864062014805:=by
 rcases open_slice1 Tryz.underlying28 mY h with ⟨h0,_⟩ |⟨a,len,cap,m,n',V,D,Pl,h0,CW,hl,hm,xz,np,hx⟩
 ·exact ⟨none,0,[],h0,⟨fun h=>absurd h (aI _),fun j hj=>absurd hj (aI _)⟩,by simp⟩
 ·have tn:len≤m:=by rw [xz];split<;>omega
  have vT:∀i,i<len→∃L:Ls,w.cell? (a.add i)=some L.val∧uh w L:=by
   intro i hi
   obtain ⟨hc,PT⟩:=hx i (by omega)
   obtain ⟨A1,k1,l1,h1,_,_,g1,g2,g3,g4⟩:=je PT (fun n hn=>hb n (by
    rw [np]
    simp only [DataW.weights,Tryz.underlying28]
    exact aP _ (ak _ (od hn (az.2 ⟨i,df.2 hi,rfl⟩)))))
   simp only [List.cons.injEq,and_true] at h1
   exact ⟨⟨A1,k1,l1⟩,by rw [hc,h1];rfl,g1,g2,g3,g4⟩
  obtain ⟨F,hF⟩:=choose_lt vT
  refine ⟨some a,cap,(List.range len).map F,by simp [h0],⟨fun rg=> ?_,fun j hj=> ?_⟩,?_⟩
  ·simp only [aq,cX] at rg
   have LW:=(hF 0 rg).1
   obtain ⟨b,o,rfl⟩:=qU LW
   refine ⟨b,o,rfl,fun j hj=> ?_⟩
   simp only [aq,cX] at hj
   rw [Ib hj]
   have :=(hF j hj).1
   rwa [AR] at this
  ·simp only [aq,cX] at hj
   rw [Ib hj]
   exact (hF j hj).2
  ·have h1:=hb ((len+(m-len))*24) (by
    rw [np]
    simp [DataW.weights,Tryz.underlying28,AO])
   simp only [reachBytes] at h1
   simp only [aq,cX]
   omega
theorem EJ {n:Nat} {cs:List Value} {x:DataW H×List MemPlace} (h:DataW.trod enc Tryz.prog w base spare held n 28 cs=some x) {A:Option Addr} {c k:Nat} (e1:cs=[.slice A k c]):
  k≤c∧(A=none→c=0):=by
 rcases open_slice1 Tryz.underlying28 mY h with ⟨h0,_⟩ |⟨a,len,cap,m,n',V,D,Pl,h0,CW,hl,hm,xz,np,hx⟩
 ·rw [e1] at h0
  simp only [List.cons.injEq,Value.slice.injEq,and_true] at h0
  exact ⟨by omega,fun _=>h0.2.2⟩
 ·rw [e1] at h0
  simp only [List.cons.injEq,Value.slice.injEq,and_true] at h0
  refine ⟨by omega,fun hA=> ?_⟩
  rw [hA] at h0
  cases h0.1
theorem yf:Tryz.prog.cellsOf 30 =14:=by kernel_rfl
theorem Ze {α:Type} {l:List α} (h:l.length=7):∃a b c d e f g,l=[a,b,c,d,e,f,g]:=by
 match l,h with
 |[a,b,c,d,e,f,g],_=>exact ⟨a,b,c,d,e,f,g,rfl⟩
theorem U3 {α:Type} {l:List α} (h:l.length=14):∃a b c d e f g h i j k m n o,l=[a,b,c,d,e,f,g,h,i,j,k,m,n,o]:=by
 match l,h with
 |[a,b,c,d,e,f,g,h,i,j,k,m,n,o],_=>exact ⟨a,b,c,d,e,f,g,h,i,j,k,m,n,o,rfl⟩
theorem zE {P:Program} {t:TypeId} {f0 f1 f2 f3 f4 f5 f6:Field} {fuel:Nat} {cs:List Value} {x:DataW H×List MemPlace} (ht:P.underlying t=some (.struct #[f0,f1,f2,f3,f4,f5,f6])) (h:DataW.trod enc P w base spare held fuel t cs=some x):
  ∃y0 y1 y2 y3 y4 y5 y6 n,x.1= .agg ([y0,y1,y2,y3,y4,y5,y6].map (·.1))∧cs.length=P.cellsOf t∧DataW.trod enc P w base spare held n f0.type ((cs.drop f0.offset).take (P.cellsOf f0.type))=some y0∧DataW.trod enc P w base spare held n f1.type ((cs.drop f1.offset).take (P.cellsOf f1.type))=some y1∧DataW.trod enc P w base spare held n f2.type ((cs.drop f2.offset).take (P.cellsOf f2.type))=some y2∧DataW.trod enc P w base spare held n f3.type ((cs.drop f3.offset).take (P.cellsOf f3.type))=some y3∧DataW.trod enc P w base spare held n f4.type ((cs.drop f4.offset).take (P.cellsOf f4.type))=some y4∧DataW.trod enc P w base spare held n f5.type ((cs.drop f5.offset).take (P.cellsOf f5.type))=some y5∧DataW.trod enc P w base spare held n f6.type ((cs.drop f6.offset).take (P.cellsOf f6.type))=some y6:=by
 obtain ⟨xs,n,_,hx,hl,hlen,hf⟩:=DataW.trod_struct ht h
 obtain ⟨y0,y1,y2,y3,y4,y5,y6,rfl⟩:=Ze (l:=xs) hlen
 exact ⟨y0,y1,y2,y3,y4,y5,y6,n,by rw [hx],hl,by simpa using hf 0 f0 rfl,by simpa using hf 1 f1 rfl,by simpa using hf 2 f2 rfl,by simpa using hf 3 f3 rfl,by simpa using hf 4 f4 rfl,by simpa using hf 5 f5 rfl,by simpa using hf 6 f6 rfl⟩
theorem BU {n:Nat} {cs:List Value} {x:DataW H×List MemPlace} (h:DataW.trod enc Tryz.prog w base spare held n 30 cs=some x) (hb:∀n∈x.1.weights Tryz.prog 30,n≤reachBytes):
  ∃(Hh:Qh) (q:Qn),cs=(jR Hh q).toList∧m8 w Hh q:=by
 obtain ⟨y0,y1,y2,y3,y4,y5,y6,n2,hx,hl,TW,cU,bZ,dD,eW,eu,fN⟩:=zE Tryz.underlying30 h
 rw [yf] at hl
 obtain ⟨v0,v1,v2,v3,v4,v5,v6,v7,v8,v9,v10,v11,v12,v13,rfl⟩:=U3 hl
 simp only [gd,yg,nf,List.drop_zero,List.drop_succ_cons,List.take_succ_cons,List.take_zero] at TW cU bZ dD eW eu fN
 have hw:∀(j:Nat) (t:TypeId) (y:DataW H×List MemPlace),[27,28,28,28,3,3,3][j]? =some t→[y0,y1,y2,y3,y4,y5,y6][j]? =some y→∀k∈y.1.weights Tryz.prog t,k≤reachBytes:=by
  intro j t y ht hy k hk
  refine hb k ?_
  rw [hx]
  have e:(DataW.agg ([y0,y1,y2,y3,y4,y5,y6].map (·.1))).weights Tryz.prog 30 =DataW.weightsEach Tryz.prog [27,28,28,28,3,3,3] ([y0,y1,y2,y3,y4,y5,y6].map (·.1)):=by
   rw [DataW.weights,Tryz.underlying30]
   rfl
  rw [e]
  exact DataW.weights_mem_each (j:=j) ht (by rw [aO,hy];rfl) k hk
 obtain ⟨Hc,C,e0,ci⟩:=FV TW (hw 0 _ _ rfl rfl)
 obtain ⟨A1,c1,l1,e1,r1,b1⟩:=mQ cU (hw 1 _ _ rfl rfl)
 obtain ⟨A2,c2,l2,e2,r2,b2⟩:=mQ bZ (hw 2 _ _ rfl rfl)
 obtain ⟨A3,c3,l3,e3,r3,b3⟩:=mQ dD (hw 3 _ _ rfl rfl)
 obtain ⟨z4,e4,_,w4⟩:=DataW.trod_int Tryz.underlying3 eW
 obtain ⟨z5,e5,_,w5⟩:=DataW.trod_int Tryz.underlying3 eu
 obtain ⟨z6,e6,_,w6⟩:=DataW.trod_int Tryz.underlying3 fN
 simp only [kj,List.cons.injEq,and_true] at e0 e1 e2 e3 e4 e5 e6
 obtain ⟨a0,a1,a2,a3,a4,a5,a6,a7⟩:=e0
 subst a0 a1 a2 a3 a4 a5 a6 a7 e1 e2 e3 e4 e5 e6
 exact ⟨⟨Hc,A1,c1,A2,c2,A3,c3⟩,⟨C,l1,l2,l3,z4,z5,z6⟩,rfl,⟨ci,r1,r2,r3,b1,b2,b3,Go.Joins.in64_of_wf w4,Go.Joins.in64_of_wf w5,Go.Joins.in64_of_wf w6⟩⟩
end
end Go.Proofs.YtdgplmgfkliijaaGreat
namespace Go.Proofs.YtdgplmgfkliijaaGreat.shrinkClause
open Go.ChangeShapes Go.WideShapes Go.ChangeAt Go.RowKit
theorem own:ownKnob Tryz.prog.godebug=none:=by kernel_rfl
theorem lifted (os:Os) (started:os.Started) (H:Type) (enc:TypeId×Value→H):
  ReturnsInHanded {} Tryz.checked os 3 .any (Rows.shrinkClauseSpec.pre6 enc Tryz.prog Tryz.f3 Rows.shrinkClauseRow.domain false) (Rows.shrinkClauseSpec.post enc Tryz.prog Tryz.f3 false true false false):=by
 refine returnsInHanded_of_change_sized (C:=Tryz.checked) own started (by kernel_rfl) Tryz.func3
  (ChangeSpec.witness6 (enc:=enc) (C:=Tryz.checked) false ⟨#[],#[.agg #[.int .i64 0, .slice none 0 0, .slice none 0 0, .slice none 0 0, .slice none 0 0, .slice none 0 0, .slice none 0 0, .slice none 0 0, .slice none 0 0, .slice none 0 0, .slice none 0 0, .int .i64 0, .int .i64 0, .int .i64 0], .slice none 0 0, .slice none 0 0],[]⟩ 8 (by kernel_rfl) (by kernel_rfl) (by kernel_rfl) (by kernel_rfl)) ?_
 intro W base args ds gs before TF hW am9 ZM _
 have nq:(DataW.weightsEach Tryz.prog (Tryz.f3.params.toList++Rows.shrinkClauseSpec.plain.varTypes Tryz.prog) (ds++gs)).all (· ≤reachBytes)=true:=ZM
 clear ZM
 have Co:∀(j:Nat) t v,Tryz.f3.params[j]? =some t→args[j]? =some v→Value.okWide Tryz.prog W .any base t v:=TF
 have Oj:=hW
 obtain ⟨p,q,Wr,hV,rfl,tX,tU⟩:=hW
 have hA:DataW.TrodAll enc Tryz.prog W 0 (fun _=>true) true Tryz.f3.params.toList args.toList ds p:=Wr
 rw [Tryz.params3] at hA Co nq
 obtain ⟨v0,vs0,d0,ds0,p0,q0,Oh,rfl,rfl,h0,r0⟩:=trodAll_cons hA
 obtain ⟨v1,vs1,d1,ds1,p1,q1,rfl,rfl,rfl,h1,r1⟩:=trodAll_cons r0
 obtain ⟨v2,vs2,d2,ds2,p2,q2,rfl,rfl,rfl,h2,r2⟩:=trodAll_cons r1
 obtain ⟨rfl,rfl,rfl⟩:=trodAll_nil r2
 obtain rfl :args=#[v0,v1,v2]:=by cases args;simp_all
 obtain ⟨rfl,rfl⟩:=trodVars_none hV
 obtain ⟨cs,rfl,xE⟩:=okWide_struct Tryz.underlying30 (Co 0 30 v0 rfl rfl)
 obtain ⟨a1,aex,agm,rfl⟩:=okWide_slice Tryz.underlying28 (Co 1 28 v1 rfl rfl)
 obtain ⟨a2,aew,OO,rfl⟩:=okWide_slice Tryz.underlying22 (Co 2 22 v2 rfl rfl)
 have Lz:∀n∈d0.weights Tryz.prog 30,n≤reachBytes:=fun n hn=>by
  have :=kO.1 nq _ (DataW.weights_mem_each (j:=0) (t:=30) rfl rfl n hn)
  simpa using this
 have dO:∀n∈d1.weights Tryz.prog 28,n≤reachBytes:=fun n hn=>by
  have :=kO.1 nq _ (DataW.weights_mem_each (j:=1) (t:=28) rfl rfl n hn)
  simpa using this
 have mD:∀n∈d2.weights Tryz.prog 22,n≤reachBytes:=fun n hn=>by
  have :=kO.1 nq _ (DataW.weights_mem_each (j:=2) (t:=22) rfl rfl n hn)
  simpa using this
 have h0':=h0
 have J6:=h1
 have T9:=h2
 obtain ⟨akz,TW⟩:=h0
 obtain ⟨aky,cU⟩:=h1
 obtain ⟨akx,bZ⟩:=h2
 obtain ⟨Hh,Q,hcv,hqi⟩:=BU TW Lz
 obtain ⟨A,c,l,lI,rQ,xB⟩:=mQ cU dO
 obtain ⟨Ht,hlz⟩:=EJ cU lI
 obtain ⟨X,xc,xl,hxv,_,_,g1,g2,g3,g4⟩:=je bZ mD
 have afE:cs=jR Hh Q:=by
  have :cs.toList=(jR Hh Q).toList:=by simpa [Value.cells] using hcv
  exact Array.ext' this
 have Rw:Value.slice a1 aex agm= .slice A l.length c:=by simpa [Value.cells] using lI
 have Zx:Value.slice a2 aew OO= .slice X xl.length xc:=by simpa [Value.cells] using hxv
 subst afE
 rw [Rw] at J6⊢
 rw [Zx] at T9⊢
 clear Wr TF TW cU bZ
 have bM:∀x∈p0++(p1++(p2++[]))++[],x.block<W.heap.size:=fun x hx=>by simpa using Oj.lt x (by simpa using hx)
 refine (Er W Hh Q hqi A c l rQ hlz Ht (by omega) ⟨X,xc,xl⟩ ⟨g1,g2,g3,g4⟩).mono fun e W' ⟨he,hg⟩=> ?_
 subst he
 rw [Rw,Zx] at Oj
 exact ⟨_,rfl,Ez (pa:=p0++(p1++(p2++[]))) (pv:=[]) Oj (fun _ _ _=>(trodAll_cons_mk (shut_bool Tryz.underlying4 _) trodAll_mk0))
  (fun sp Vp=>trodAll_cons_mk (vE (by kernel_rfl) (of_decide_eq_true (by kernel_rfl)) h0' hg.below (fun x hx=>bM x (by simp [hx])) (fun p hp=>Vp p (by simp [hp])))
   (trodAll_cons_mk (vE (by kernel_rfl) (of_decide_eq_true (by kernel_rfl)) J6 hg.below (fun x hx=>bM x (by simp [hx])) (fun p hp=>Vp p (by simp [hp])))
   (trodAll_cons_mk (vE (by kernel_rfl) (of_decide_eq_true (by kernel_rfl)) T9 hg.below (fun x hx=>bM x (by simp [hx])) (fun p hp=>Vp p (by simp [hp]))) trodAll_mk0))) (fun _ _=>rfl) (by simp)
  hg.below (ok_one (by kernel_rfl) rfl (okWide_bool_mk Tryz.underlying4 _))⟩
theorem over:Rows.shrinkClauseRow.holds Tryz.pinned (OpenSpec.ofChange Rows.shrinkClauseSpec):=
 OpenClaim.holds_of_wide 3 Tryz.f3 rfl rfl rfl rfl rfl rfl rfl ⟨rfl,rfl,rfl,rfl,rfl⟩ rfl rfl rfl rfl rfl (by kernel_rfl) Tryz.func3 (by kernel_rfl)
  (of_decide_eq_true (by kernel_rfl)) (by unfold Func.isWrapper;first | (rw [if_pos (by decide+kernel)];kernel_rfl) | (rw [if_neg (by decide+kernel)];exact ⟨rfl,rfl⟩))
  (fun os started H enc _=>lifted os started H enc)
theorem proved:Rows.ShrinkClauseSaid:=
 over
end Go.Proofs.YtdgplmgfkliijaaGreat.shrinkClause
