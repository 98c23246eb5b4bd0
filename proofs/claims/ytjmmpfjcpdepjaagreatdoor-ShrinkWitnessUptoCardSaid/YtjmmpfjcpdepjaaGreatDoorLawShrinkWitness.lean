/- Parts of a proof. -/
import Derived.Test.YtjmmpfjcpdepjaaGreatDoorGAR
import Derived.Test.YtjmmpfjcpdepjaaGreatDoorCards
import Derived.Test.YtjmmpfjcpdepjaaGreatDoorTie
import Derived.WalkKit
import Derived.ProofKit
import Derived.OpenShut
import Derived.Deep.Slices
import Derived.Carry
import Derived.SizedLaws
import Derived.Lib.SmallJoins
import Derived.Deep.Strs
import Derived.Deep.DeepHandedRow
import Derived.Deep.DeepLaidRun
set_option linter.unusedVariables false
set_option linter.unusedSimpArgs false
set_option maxRecDepth 100000
namespace Go.Proofs.YtjmmpfjcpdepjaaGreatDoor.bulks
theorem one_le {H:Type} (d:DataW H):1≤Rows.uptoBulk d:=by
 cases d with
 |lit l=>cases l<;>simp [Rows.uptoBulk]
 |nil=>simp [Rows.uptoBulk]
 |ptr d=>simp [Rows.uptoBulk]
 |slice elems spare=>simp [Rows.uptoBulk]
 |agg parts=>simp [Rows.uptoBulk]
 |iface t d=>simp [Rows.uptoBulk]
 |map entries=>simp [Rows.uptoBulk]
 |held h=>simp [Rows.uptoBulk]
theorem part_le {H:Type} {d:DataW H} {l:List (DataW H)} (h:d∈l):Rows.uptoBulk d≤Rows.uptoBulkAll l:=by
 induction l with
 |nil=>cases h
 |cons x r ih=>
  simp only [Rows.uptoBulkAll]
  cases List.mem_cons.1 h with
  |inl e=>subst e;omega
  |inr e=>have :=ih e;omega
theorem length_le {H:Type} (l:List (DataW H)):l.length≤Rows.uptoBulkAll l:=by
 induction l with
 |nil=>simp [Rows.uptoBulkAll]
 |cons x r ih=>have :=one_le x;simp only [Rows.uptoBulkAll,List.length_cons];omega
theorem string_eq {H:Type} (bytes:List UInt8):Rows.uptoBulk (DataW.lit (H:=H) (.string bytes))=bytes.length+1:=by
 simp [Rows.uptoBulk]
theorem bound {H:Type} {l:List (DataW H)} (hk:Rows.uptoSmall H l=true):Rows.uptoBulkAll l≤1048576:=by
 simpa [Rows.uptoSmall] using hk
end Go.Proofs.YtjmmpfjcpdepjaaGreatDoor.bulks
namespace Go.Proofs.YtjmmpfjcpdepjaaGreatDoor
open Go.ChangeShapes Go.WideShapes Go.ChangeAt Go.RowKit
theorem post_below {H:Type} {enc:TypeId×Value→H} {P:Program} {f:Func} {s:ChangeSpec} {apart fresh handsOn again:Bool} {W W':World} {args:Array Value} {v:Value} {ds gs:List (DataW H)} {before pa pv:List MemPlace}
  (hW:DataW.Whole enc P f.params.toList s.vars apart W args.toList ds gs before)
  (hres:∀(b:Nat) (sp:Nat→Bool) (hd:Bool),DataW.TrodAll enc P W' b sp hd f.resultTypes.toList (v.resultList f.resultTypes.size) (s.fn H (ds++gs)).results [])
  (hargs:∀sp:Nat→Bool,(∀p∈before,sp p.block=true)→DataW.TrodAll enc P W' 0 sp true f.params.toList args.toList (s.fn H (ds++gs)).args pa)
  (hvars:∀sp:Nat→Bool,(∀p∈before,sp p.block=true)→DataW.TrodVars enc P W' sp s.vars (s.fn H (ds++gs)).vars pv)
  (hps:before=pa++pv) (hb:Below W.heap.size W W')
  (hok:∀(j:Nat) (t:TypeId) (r:Value),f.resultTypes[j]? =some t→(v.resultList f.resultTypes.size)[j]? =some r→Value.okWide P W' .any 0 t r):
  s.post enc P f apart fresh handsOn again W args v W':=by
 have old:∀p∈before,p.block<W.heap.size:=fun p hp=>hW.lt p hp
 have isOld:∀p∈before,(fun b=>decide (b<W.heap.size)) p.block=true:=fun p hp=>by simpa using old p hp
 refine ⟨ds,gs,before,[],pa,pv,hW,hres _ _ _,hargs _ isOld,hvars _ isOld,?_,fun _=> ?_⟩
 ·refine World.keptBut_mono (fun p hp=>⟨hp,?_⟩) (hb.frame (· ∈before))
  rw [hps,List.mem_append] at hp
  exact Or.inr hp
 ·obtain ⟨_,_,_,_,_,hz,hn⟩:=hW
  refine ⟨hok,_,_,([]++pa)++pv,⟨[]++pa,pv,trodAll_append (hargs _ (fun _ _=>rfl)) (hres _ _ _),hvars _ (fun _ _=>rfl),rfl,?_,?_⟩,?_⟩
  ·intro b off hp
   have hin:MemPlace.cell b off∈before:=by rw [hps];simpa using hp
   rw [hb.frozen (old _ hin)]
   exact hz b off hin
  ·intro ha
   have :=hn ha
   rw [hps] at this
   simpa using this
  ·intro p hp _
   rw [hps]
   simpa using hp
end Go.Proofs.YtjmmpfjcpdepjaaGreatDoor
namespace Go.Proofs.YtjmmpfjcpdepjaaGreatDoor
open Go.ChangeShapes Go.WideShapes Go.ChangeAt Go.RowKit Go.Deep
theorem laid:laidOutB Tryz.prog=true:=by kernel_rfl
theorem kept_arg {H:Type} {enc:TypeId×Value→H} {t:TypeId} (hr:Tryz.prog.readableRec t=true) (hrow:t<Tryz.prog.types.size) {W W':World} {v:Value} {d:DataW H} {ps:List MemPlace} {sp:Nat→Bool}
  (h:DataW.Trod enc Tryz.prog W 0 (fun _=>true) true t v d ps) (hb:Below W.heap.size W W') (hlt:∀x∈ps,x.block<W.heap.size) (hs:∀p∈ps,sp p.block=true):
  DataW.Trod enc Tryz.prog W' 0 sp true t v d ps:=
 WideElems.Trod_stays laid hr hrow h (fun x hx=>hb.same (hlt x hx)) hs
section
variable {H:Type} {enc:TypeId×Value→H} {P:Program} {w:World} {base:Nat} {spare:Nat→Bool} {held:Bool}
end
end Go.Proofs.YtjmmpfjcpdepjaaGreatDoor
namespace Go.Proofs.YtjmmpfjcpdepjaaGreatDoor
open Go.ChangeShapes Go.WideShapes Go.ChangeAt Go.RowKit Go.Deep Go.Joins
section
variable {H:Type} {enc:TypeId×Value→H} {w:World} {base:Nat} {spare:Nat→Bool} {held:Bool}
theorem cellsOf_circuit:Tryz.prog.cellsOf 27 =8:=by kernel_rfl
theorem cellsOf_latch:Tryz.prog.cellsOf 63 =3:=by kernel_rfl
theorem cellsOf_and:Tryz.prog.cellsOf 93 =3:=by kernel_rfl
theorem cellsOf_name:Tryz.prog.cellsOf 134 =3:=by kernel_rfl
theorem cellsOf_int:Tryz.prog.cellsOf 3 =1:=by kernel_rfl
theorem cellsOf_ints:Tryz.prog.cellsOf 22 =1:=by kernel_rfl
theorem cellsOf_lats:Tryz.prog.cellsOf 23 =1:=by kernel_rfl
theorem cellsOf_ands:Tryz.prog.cellsOf 24 =1:=by kernel_rfl
theorem cellsOf_nms:Tryz.prog.cellsOf 25 =1:=by kernel_rfl
theorem cellsOf_string:Tryz.prog.cellsOf 9 =1:=by kernel_rfl
theorem bytesOf_int:Tryz.prog.bytesOf 3 =8:=by kernel_rfl
theorem bytesOf_latch:Tryz.prog.bytesOf 63 =24:=by kernel_rfl
theorem bytesOf_and:Tryz.prog.bytesOf 93 =24:=by kernel_rfl
theorem bytesOf_name:Tryz.prog.bytesOf 134 =40:=by kernel_rfl
theorem plain_of {a:Addr} {v:Value} (h:w.cell? a=some v):∃b o,a=⟨b,o,none⟩:=by
 obtain ⟨b,o,s⟩:=a
 unfold World.cell? at h
 split at h
 ·split at h
  ·cases h
  ·rename_i hsp
   exact ⟨b,o,by cases s<;>simp_all⟩
 ·cases h
theorem add_0 (a:Addr):a.add 0=a:=by unfold Addr.add;exact if_pos rfl
theorem add_pl (b o n:Nat):(Addr.mk b o none).add n=⟨b,o+n,none⟩:=by unfold Addr.add;split<;>simp_all
theorem ints_cells {n:Nat} {cs:List Value} {x:DataW H×List MemPlace} (h:DataW.trod enc Tryz.prog w base spare held n 22 cs=some x) (hb:∀n∈x.1.weights Tryz.prog 22,n≤reachBytes):
  ∃(A:Option Addr) (c:Nat) (l:List Int),cs=[.slice A l.length c]∧l.length≤c∧c≤maxLen∧Rd w A l∧Ra l∧l.length≤17592186044416∧(A=none→l.length=0∧c=0):=by
 rcases open_ints Tryz.underlying22 Tryz.underlying3 cellsOf_int h with ⟨e1,hx1⟩ |⟨a,len,cap,zs,e1,hbb,hlc,hm,hz,hx1,hcell,hwf⟩
 ·exact ⟨none,0,[],e1,Nat.le_refl _,by simp [maxLen],fun h=>absurd h (Nat.not_lt_zero _),fun j hj=>absurd hj (Nat.not_lt_zero _),by simp,fun _=>⟨rfl,rfl⟩⟩
 ·have hle:len≤zs.length:=by rw [hz];split<;>omega
  have hxl:(zs.take len).length=len:=by rw [List.length_take];omega
  refine ⟨some a,cap,zs.take len,by rw [e1,hxl],by omega,hm,fun hp=> ?_,fun j hj=> ?_,?_,fun h=>by cases h⟩
  ·rw [hxl] at hp
   obtain ⟨b,o,rfl⟩:=plain_of (hcell 0 (by omega))
   refine ⟨b,o,rfl,fun j hj=> ?_⟩
   rw [hxl] at hj
   have :=hcell j (by omega)
   rw [add_pl] at this
   rw [this]
   have hj2:j<zs.length:=by omega
   simp [List.getElem!_eq_getElem?_getD,hj]
  ·rw [hxl] at hj
   have hj2:j<zs.length:=by omega
   have :=Go.Joins.in64_of_wf (hwf zs[j] (List.getElem_mem hj2))
   have e:(zs.take len)[j]! =zs[j]:=by simp [List.getElem!_eq_getElem?_getD,hj,hj2]
   rw [e]
   exact this
  ·have h1:=hb ((len+(zs.length-len))*8) (by
    rw [hx1]
    simp [DataW.weights,Tryz.underlying22,bytesOf_int,lits]
    omega)
   rw [hxl]
   simp only [reachBytes] at h1
   omega
theorem t3_cells {t e:TypeId} {f0 f1 f2:Field} (ht:Tryz.prog.underlying t=some (.slice e)) (he:Tryz.prog.underlying e=some (.struct #[f0,f1,f2])) (ce:Tryz.prog.cellsOf e=3) (be:Tryz.prog.bytesOf e=24)
  (o0:f0.offset=0∧f0.type=3) (o1:f1.offset=1∧f1.type=3) (o2:f2.offset=2∧f2.type=3)
  {n:Nat} {cs:List Value} {x:DataW H×List MemPlace} (h:DataW.trod enc Tryz.prog w base spare held n t cs=some x) (hb:∀n∈x.1.weights Tryz.prog t,n≤reachBytes):
  ∃(A:Option Addr) (c:Nat) (l:List T3),cs=[.slice A l.length c]∧RdT w A l∧Rt l∧l.length≤5864062014635∧(A=none→l.length=0∧c=0):=by
 rcases open_slice ht h with ⟨h0,_⟩ |⟨a,len,cap,m,n',D,Pl,h0,hbb,hl,hm,hmm,hxe,hx⟩
 ·exact ⟨none,0,[],h0,fun h=>absurd h (Nat.not_lt_zero _),fun j hj=>absurd hj (Nat.not_lt_zero _),by simp,fun _=>⟨rfl,rfl⟩⟩
 ·have hlm:len≤m:=by rw [hmm];split<;>omega
  have hcells:∀i,i<len→∃z:T3,(R64 z.a∧R64 z.b∧R64 z.c)∧w.cell? (a.add (i*3))=some (.int .i64 z.a)∧w.cell? ((a.add (i*3)).add 1)=some (.int .i64 z.b)∧w.cell? ((a.add (i*3)).add 2)=some (.int .i64 z.c):=by
   intro i hi
   obtain ⟨cs',hc,htr⟩:=hx i (by omega)
   rw [ce] at hc
   obtain ⟨y0,y1,y2,n2,_,hlen,g0,g1,g2⟩:=trod_struct3 he htr
   rw [ce] at hlen
   rw [o0.1,o0.2,cellsOf_int] at g0
   rw [o1.1,o1.2,cellsOf_int] at g1
   rw [o2.1,o2.2,cellsOf_int] at g2
   match cs',hlen with
   |[v0,v1,v2],_=>
    simp only [List.drop_zero,List.drop_succ_cons,List.take_succ_cons,List.take_zero] at g0 g1 g2
    obtain ⟨z0,e0,_,w0⟩:=DataW.trod_int Tryz.underlying3 g0
    obtain ⟨z1,e1,_,w1⟩:=DataW.trod_int Tryz.underlying3 g1
    obtain ⟨z2,e2,_,w2⟩:=DataW.trod_int Tryz.underlying3 g2
    cases e0
    cases e1
    cases e2
    obtain ⟨_,_,hat⟩:=World.cells?_some hc
    have a0:=hat 0 (by omega)
    have a1:=hat 1 (by omega)
    have a2:=hat 2 (by omega)
    rw [add_0] at a0
    exact ⟨⟨z0,z1,z2⟩,⟨Go.Joins.in64_of_wf w0,Go.Joins.in64_of_wf w1,Go.Joins.in64_of_wf w2⟩,a0,a1,a2⟩
  obtain ⟨F,hF⟩:=choose_lt hcells
  refine ⟨some a,cap,(List.range len).map F,by simp [h0],fun hpos=> ?_,fun j hj=> ?_,?_,fun h=>by cases h⟩
  ·simp only [List.length_map,List.length_range] at hpos
   have h00:=(hF 0 hpos).2.1
   rw [Nat.zero_mul] at h00
   rw [add_0] at h00
   obtain ⟨b,o,rfl⟩:=plain_of h00
   refine ⟨b,o,rfl,fun j hj=> ?_⟩
   simp only [List.length_map,List.length_range] at hj
   have :=(hF j hj).2
   simp only [add_pl] at this
   simp only [List.getElem!_eq_getElem?_getD,List.getElem?_map,List.getElem?_range hj,Option.map_some,Option.getD_some]
   exact this
  ·simp only [List.length_map,List.length_range] at hj
   simp only [List.getElem!_eq_getElem?_getD,List.getElem?_map,List.getElem?_range hj,Option.map_some,Option.getD_some]
   exact (hF j hj).1
  ·have h1:=hb ((len+(m-len))*24) (by
    rw [hxe]
    simp [DataW.weights,ht,be])
   simp only [reachBytes] at h1
   simp only [List.length_map,List.length_range]
   omega
theorem nm_cells {n:Nat} {cs:List Value} {x:DataW H×List MemPlace} (h:DataW.trod enc Tryz.prog w base spare held n 25 cs=some x) (hb:∀n∈x.1.weights Tryz.prog 25,n≤reachBytes):
  ∃(A:Option Addr) (c:Nat) (l:List Nm),cs=[.slice A l.length c]∧RdM w A l∧Rm l∧l.length≤3518437208781∧(A=none→l.length=0∧c=0):=by
 rcases open_slice Tryz.underlying25 h with ⟨h0,_⟩ |⟨a,len,cap,m,n',D,Pl,h0,hbb,hl,hm,hmm,hxe,hx⟩
 ·exact ⟨none,0,[],h0,fun h=>absurd h (Nat.not_lt_zero _),fun j hj=>absurd hj (Nat.not_lt_zero _),by simp,fun _=>⟨rfl,rfl⟩⟩
 ·have hlm:len≤m:=by rw [hmm];split<;>omega
  have hcells:∀i,i<len→∃z:Nm,(z.k.size≤maxLen∧R64 z.i∧z.t.size≤maxLen)∧w.cell? (a.add (i*3))=some (.string z.k)∧w.cell? ((a.add (i*3)).add 1)=some (.int .i64 z.i)∧w.cell? ((a.add (i*3)).add 2)=some (.string z.t):=by
   intro i hi
   obtain ⟨cs',hc,htr⟩:=hx i (by omega)
   rw [cellsOf_name] at hc
   obtain ⟨y0,y1,y2,n2,_,hlen,g0,g1,g2⟩:=trod_struct3 Tryz.underlying134 htr
   rw [cellsOf_name] at hlen
   simp only [cellsOf_int,cellsOf_string] at g0 g1 g2
   match cs',hlen with
   |[v0,v1,v2],_=>
    simp only [List.drop_zero,List.drop_succ_cons,List.take_succ_cons,List.take_zero] at g0 g1 g2
    obtain ⟨z0,e0,_,w0⟩:=DataW.trod_string Tryz.underlying9 g0
    obtain ⟨z1,e1,_,w1⟩:=DataW.trod_int Tryz.underlying3 g1
    obtain ⟨z2,e2,_,w2⟩:=DataW.trod_string Tryz.underlying9 g2
    cases e0
    cases e1
    cases e2
    obtain ⟨_,_,hat⟩:=World.cells?_some hc
    have a0:=hat 0 (by omega)
    have a1:=hat 1 (by omega)
    have a2:=hat 2 (by omega)
    rw [add_0] at a0
    exact ⟨⟨z0,z1,z2⟩,⟨w0,Go.Joins.in64_of_wf w1,w2⟩,a0,a1,a2⟩
  obtain ⟨F,hF⟩:=choose_lt hcells
  refine ⟨some a,cap,(List.range len).map F,by simp [h0],fun hpos=> ?_,fun j hj=> ?_,?_,fun h=>by cases h⟩
  ·simp only [List.length_map,List.length_range] at hpos
   have h00:=(hF 0 hpos).2.1
   rw [Nat.zero_mul] at h00
   rw [add_0] at h00
   obtain ⟨b,o,rfl⟩:=plain_of h00
   refine ⟨b,o,rfl,fun j hj=> ?_⟩
   simp only [List.length_map,List.length_range] at hj
   have :=(hF j hj).2
   simp only [add_pl] at this
   simp only [List.getElem!_eq_getElem?_getD,List.getElem?_map,List.getElem?_range hj,Option.map_some,Option.getD_some]
   exact this
  ·simp only [List.length_map,List.length_range] at hj
   simp only [List.getElem!_eq_getElem?_getD,List.getElem?_map,List.getElem?_range hj,Option.map_some,Option.getD_some]
   exact (hF j hj).1
  ·have h1:=hb ((len+(m-len))*40) (by
    rw [hxe]
    simp [DataW.weights,Tryz.underlying25,bytesOf_name])
   simp only [reachBytes] at h1
   simp only [List.length_map,List.length_range]
   omega
theorem list8 {α:Type} {l:List α} (h:l.length=8):∃a b c d e f g h,l=[a,b,c,d,e,f,g,h]:=by
 match l,h with
 |[a,b,c,d,e,f,g,h],_=>exact ⟨a,b,c,d,e,f,g,h,rfl⟩
theorem trod_struct8 {P:Program} {t:TypeId} {f0 f1 f2 f3 f4 f5 f6 f7:Field} {fuel:Nat} {cs:List Value} {x:DataW H×List MemPlace} (ht:P.underlying t=some (.struct #[f0,f1,f2,f3,f4,f5,f6,f7])) (h:DataW.trod enc P w base spare held fuel t cs=some x):
  ∃y0 y1 y2 y3 y4 y5 y6 y7 n,x.1= .agg ([y0,y1,y2,y3,y4,y5,y6,y7].map (·.1))∧cs.length=P.cellsOf t∧DataW.trod enc P w base spare held n f0.type ((cs.drop f0.offset).take (P.cellsOf f0.type))=some y0∧DataW.trod enc P w base spare held n f1.type ((cs.drop f1.offset).take (P.cellsOf f1.type))=some y1∧DataW.trod enc P w base spare held n f2.type ((cs.drop f2.offset).take (P.cellsOf f2.type))=some y2∧DataW.trod enc P w base spare held n f3.type ((cs.drop f3.offset).take (P.cellsOf f3.type))=some y3∧DataW.trod enc P w base spare held n f4.type ((cs.drop f4.offset).take (P.cellsOf f4.type))=some y4∧DataW.trod enc P w base spare held n f5.type ((cs.drop f5.offset).take (P.cellsOf f5.type))=some y5∧DataW.trod enc P w base spare held n f6.type ((cs.drop f6.offset).take (P.cellsOf f6.type))=some y6∧DataW.trod enc P w base spare held n f7.type ((cs.drop f7.offset).take (P.cellsOf f7.type))=some y7:=by
 obtain ⟨xs,n,_,hx,hl,hlen,hf⟩:=DataW.trod_struct ht h
 obtain ⟨y0,y1,y2,y3,y4,y5,y6,y7,rfl⟩:=list8 (l:=xs) hlen
 exact ⟨y0,y1,y2,y3,y4,y5,y6,y7,n,by rw [hx],hl,by simpa using hf 0 f0 rfl,by simpa using hf 1 f1 rfl,by simpa using hf 2 f2 rfl,by simpa using hf 3 f3 rfl,by simpa using hf 4 f4 rfl,by simpa using hf 5 f5 rfl,by simpa using hf 6 f6 rfl,by simpa using hf 7 f7 rfl⟩
theorem circ_cells {n:Nat} {cs:List Value} {x:DataW H×List MemPlace} (h:DataW.trod enc Tryz.prog w base spare held n 27 cs=some x) (hb:∀n∈x.1.weights Tryz.prog 27,n≤reachBytes):
  ∃(Hh:Hd) (C:Pc),cs=(cvs Hh C).toList∧CiAt w Hh C:=by
 obtain ⟨y0,y1,y2,y3,y4,y5,y6,y7,n2,hx,hl,hf0,hf1,hf2,hf3,hf4,hf5,hf6,hf7⟩:=trod_struct8 Tryz.underlying27 h
 rw [cellsOf_circuit] at hl
 obtain ⟨v0,v1,v2,v3,v4,v5,v6,v7,rfl⟩:=list8 hl
 simp only [cellsOf_int,cellsOf_ints,cellsOf_lats,cellsOf_ands,cellsOf_nms,List.drop_zero,List.drop_succ_cons,List.take_succ_cons,List.take_zero] at hf0 hf1 hf2 hf3 hf4 hf5 hf6 hf7
 have hw:∀(j:Nat) (t:TypeId) (y:DataW H×List MemPlace),[3,22,23,22,22,22,24,25][j]? =some t→[y0,y1,y2,y3,y4,y5,y6,y7][j]? =some y→∀n∈y.1.weights Tryz.prog t,n≤reachBytes:=by
  intro j t y ht hy k hk
  refine hb k ?_
  rw [hx]
  have e:(DataW.agg ([y0,y1,y2,y3,y4,y5,y6,y7].map (·.1))).weights Tryz.prog 27 =DataW.weightsEach Tryz.prog [3,22,23,22,22,22,24,25] ([y0,y1,y2,y3,y4,y5,y6,y7].map (·.1)):=by
   rw [DataW.weights,Tryz.underlying27]
   rfl
  rw [e]
  exact DataW.weights_mem_each (j:=j) ht (by rw [List.getElem?_map,hy];rfl) k hk
 obtain ⟨mx,e0,_,w0⟩:=DataW.trod_int Tryz.underlying3 hf0
 obtain ⟨A1,c1,l1,e1,_,_,r1,q1,b1,n1⟩:=ints_cells hf1 (hw 1 _ _ rfl rfl)
 obtain ⟨A2,c2,l2,e2,r2,q2,b2,n2'⟩:=t3_cells Tryz.underlying23 Tryz.underlying63 cellsOf_latch bytesOf_latch ⟨rfl,rfl⟩ ⟨rfl,rfl⟩ ⟨rfl,rfl⟩ hf2 (hw 2 _ _ rfl rfl)
 obtain ⟨A3,c3,l3,e3,_,_,r3,q3,b3,n3⟩:=ints_cells hf3 (hw 3 _ _ rfl rfl)
 obtain ⟨A4,c4,l4,e4,_,_,r4,q4,b4,n4⟩:=ints_cells hf4 (hw 4 _ _ rfl rfl)
 obtain ⟨A5,c5,l5,e5,_,_,r5,q5,b5,n5⟩:=ints_cells hf5 (hw 5 _ _ rfl rfl)
 obtain ⟨A6,c6,l6,e6,r6,q6,b6,n6⟩:=t3_cells Tryz.underlying24 Tryz.underlying93 cellsOf_and bytesOf_and ⟨rfl,rfl⟩ ⟨rfl,rfl⟩ ⟨rfl,rfl⟩ hf6 (hw 6 _ _ rfl rfl)
 obtain ⟨A7,c7,l7,e7,r7,q7,b7,n7⟩:=nm_cells hf7 (hw 7 _ _ rfl rfl)
 simp only [List.cons.injEq,and_true] at e0 e1 e2 e3 e4 e5 e6 e7
 subst e0 e1 e2 e3 e4 e5 e6 e7
 exact ⟨⟨A1,c1,A2,c2,A3,c3,A4,c4,A5,c5,A6,c6,A7,c7⟩,⟨mx,l1,l2,l3,l4,l5,l6,l7⟩,rfl,
  ⟨r1,r2,r3,r4,r5,r6,r7,b1,b2,b3,b4,b5,b6,b7,Go.Joins.in64_of_wf w0,q1,q2,q3,q4,q5,q6,q7⟩⟩
theorem cellsOf_lists:Tryz.prog.cellsOf 28 =1:=by kernel_rfl
theorem bytesOf_ints:Tryz.prog.bytesOf 22 =24:=by kernel_rfl
theorem mem_weightsAll {P:Program} {e:TypeId} {d:DataW H} {n:Nat} (hn:n∈d.weights P e):∀{ds:List (DataW H)},d∈ds→n∈DataW.weightsAll P e ds
 |[],h=>by cases h
 |a::r,h=>by
  rw [DataW.weightsAll]
  rcases List.mem_cons.1 h with h1 |h1
  ·rw [←h1]
   exact List.mem_append_left _ hn
  ·exact List.mem_append_right _ (mem_weightsAll hn h1)
theorem get_rng {α:Type} [Inhabited α] {len j:Nat} {F:Nat→α} (hj:j<len):((List.range len).map F)[j]! =F j:=by
 simp only [List.getElem!_eq_getElem?_getD,List.getElem?_map,List.getElem?_range hj,Option.map_some,Option.getD_some]
theorem lists_wide {n:Nat} {cs:List Value} {x:DataW H×List MemPlace} (h:DataW.trod enc Tryz.prog w base spare held n 28 cs=some x) (hb:∀n∈x.1.weights Tryz.prog 28,n≤reachBytes):
  ∃(A:Option Addr) (c:Nat) (hs:List Ls),cs=[.slice A hs.length c]∧RdL w A hs∧hs.length≤5864062014805:=by
 rcases open_slice1 Tryz.underlying28 cellsOf_ints h with ⟨h0,_⟩ |⟨a,len,cap,m,n',V,D,Pl,h0,hbb,hl,hm,hmm,hxe,hx⟩
 ·exact ⟨none,0,[],h0,⟨fun h=>absurd h (Nat.not_lt_zero _),fun j hj=>absurd hj (Nat.not_lt_zero _)⟩,by simp⟩
 ·have hlm:len≤m:=by rw [hmm];split<;>omega
  have hcells:∀i,i<len→∃L:Ls,w.cell? (a.add i)=some L.val∧OkL w L:=by
   intro i hi
   obtain ⟨hc,htr⟩:=hx i (by omega)
   obtain ⟨A1,k1,l1,h1,_,_,g1,g2,g3,g4⟩:=ints_cells htr (fun n hn=>hb n (by
    rw [hxe]
    simp only [DataW.weights,Tryz.underlying28]
    exact List.mem_cons_of_mem _ (List.mem_append_left _ (mem_weightsAll hn (List.mem_map.2 ⟨i,List.mem_range.2 hi,rfl⟩)))))
   simp only [List.cons.injEq,and_true] at h1
   exact ⟨⟨A1,k1,l1⟩,by rw [hc,h1];rfl,g1,g2,g3,g4⟩
  obtain ⟨F,hF⟩:=choose_lt hcells
  refine ⟨some a,cap,(List.range len).map F,by simp [h0],⟨fun hpos=> ?_,fun j hj=> ?_⟩,?_⟩
  ·simp only [List.length_map,List.length_range] at hpos
   have h00:=(hF 0 hpos).1
   obtain ⟨b,o,rfl⟩:=plain_of h00
   refine ⟨b,o,rfl,fun j hj=> ?_⟩
   simp only [List.length_map,List.length_range] at hj
   rw [get_rng hj]
   have :=(hF j hj).1
   rwa [add_pl] at this
  ·simp only [List.length_map,List.length_range] at hj
   rw [get_rng hj]
   exact (hF j hj).2
  ·have h1:=hb ((len+(m-len))*24) (by
    rw [hxe]
    simp [DataW.weights,Tryz.underlying28,bytesOf_ints])
   simp only [reachBytes] at h1
   simp only [List.length_map,List.length_range]
   omega
theorem cellsOf_quest:Tryz.prog.cellsOf 30 =14:=by kernel_rfl
theorem list7 {α:Type} {l:List α} (h:l.length=7):∃a b c d e f g,l=[a,b,c,d,e,f,g]:=by
 match l,h with
 |[a,b,c,d,e,f,g],_=>exact ⟨a,b,c,d,e,f,g,rfl⟩
theorem list14 {α:Type} {l:List α} (h:l.length=14):∃a b c d e f g h i j k m n o,l=[a,b,c,d,e,f,g,h,i,j,k,m,n,o]:=by
 match l,h with
 |[a,b,c,d,e,f,g,h,i,j,k,m,n,o],_=>exact ⟨a,b,c,d,e,f,g,h,i,j,k,m,n,o,rfl⟩
theorem trod_struct7 {P:Program} {t:TypeId} {f0 f1 f2 f3 f4 f5 f6:Field} {fuel:Nat} {cs:List Value} {x:DataW H×List MemPlace} (ht:P.underlying t=some (.struct #[f0,f1,f2,f3,f4,f5,f6])) (h:DataW.trod enc P w base spare held fuel t cs=some x):
  ∃y0 y1 y2 y3 y4 y5 y6 n,x.1= .agg ([y0,y1,y2,y3,y4,y5,y6].map (·.1))∧cs.length=P.cellsOf t∧DataW.trod enc P w base spare held n f0.type ((cs.drop f0.offset).take (P.cellsOf f0.type))=some y0∧DataW.trod enc P w base spare held n f1.type ((cs.drop f1.offset).take (P.cellsOf f1.type))=some y1∧DataW.trod enc P w base spare held n f2.type ((cs.drop f2.offset).take (P.cellsOf f2.type))=some y2∧DataW.trod enc P w base spare held n f3.type ((cs.drop f3.offset).take (P.cellsOf f3.type))=some y3∧DataW.trod enc P w base spare held n f4.type ((cs.drop f4.offset).take (P.cellsOf f4.type))=some y4∧DataW.trod enc P w base spare held n f5.type ((cs.drop f5.offset).take (P.cellsOf f5.type))=some y5∧DataW.trod enc P w base spare held n f6.type ((cs.drop f6.offset).take (P.cellsOf f6.type))=some y6:=by
 obtain ⟨xs,n,_,hx,hl,hlen,hf⟩:=DataW.trod_struct ht h
 obtain ⟨y0,y1,y2,y3,y4,y5,y6,rfl⟩:=list7 (l:=xs) hlen
 exact ⟨y0,y1,y2,y3,y4,y5,y6,n,by rw [hx],hl,by simpa using hf 0 f0 rfl,by simpa using hf 1 f1 rfl,by simpa using hf 2 f2 rfl,by simpa using hf 3 f3 rfl,by simpa using hf 4 f4 rfl,by simpa using hf 5 f5 rfl,by simpa using hf 6 f6 rfl⟩
theorem quest_cells {n:Nat} {cs:List Value} {x:DataW H×List MemPlace} (h:DataW.trod enc Tryz.prog w base spare held n 30 cs=some x) (hb:∀n∈x.1.weights Tryz.prog 30,n≤reachBytes):
  ∃(Hh:Qh) (q:Qn),cs=(qvs Hh q).toList∧QuAt w Hh q:=by
 obtain ⟨y0,y1,y2,y3,y4,y5,y6,n2,hx,hl,hf0,hf1,hf2,hf3,hf4,hf5,hf6⟩:=trod_struct7 Tryz.underlying30 h
 rw [cellsOf_quest] at hl
 obtain ⟨v0,v1,v2,v3,v4,v5,v6,v7,v8,v9,v10,v11,v12,v13,rfl⟩:=list14 hl
 simp only [cellsOf_int,cellsOf_lists,cellsOf_circuit,List.drop_zero,List.drop_succ_cons,List.take_succ_cons,List.take_zero] at hf0 hf1 hf2 hf3 hf4 hf5 hf6
 have hw:∀(j:Nat) (t:TypeId) (y:DataW H×List MemPlace),[27,28,28,28,3,3,3][j]? =some t→[y0,y1,y2,y3,y4,y5,y6][j]? =some y→∀k∈y.1.weights Tryz.prog t,k≤reachBytes:=by
  intro j t y ht hy k hk
  refine hb k ?_
  rw [hx]
  have e:(DataW.agg ([y0,y1,y2,y3,y4,y5,y6].map (·.1))).weights Tryz.prog 30 =DataW.weightsEach Tryz.prog [27,28,28,28,3,3,3] ([y0,y1,y2,y3,y4,y5,y6].map (·.1)):=by
   rw [DataW.weights,Tryz.underlying30]
   rfl
  rw [e]
  exact DataW.weights_mem_each (j:=j) ht (by rw [List.getElem?_map,hy];rfl) k hk
 obtain ⟨Hc,C,e0,ci⟩:=circ_cells hf0 (hw 0 _ _ rfl rfl)
 obtain ⟨A1,c1,l1,e1,r1,b1⟩:=lists_wide hf1 (hw 1 _ _ rfl rfl)
 obtain ⟨A2,c2,l2,e2,r2,b2⟩:=lists_wide hf2 (hw 2 _ _ rfl rfl)
 obtain ⟨A3,c3,l3,e3,r3,b3⟩:=lists_wide hf3 (hw 3 _ _ rfl rfl)
 obtain ⟨z4,e4,_,w4⟩:=DataW.trod_int Tryz.underlying3 hf4
 obtain ⟨z5,e5,_,w5⟩:=DataW.trod_int Tryz.underlying3 hf5
 obtain ⟨z6,e6,_,w6⟩:=DataW.trod_int Tryz.underlying3 hf6
 simp only [cvs,List.cons.injEq,and_true] at e0 e1 e2 e3 e4 e5 e6
 obtain ⟨a0,a1,a2,a3,a4,a5,a6,a7⟩:=e0
 subst a0 a1 a2 a3 a4 a5 a6 a7 e1 e2 e3 e4 e5 e6
 exact ⟨⟨Hc,A1,c1,A2,c2,A3,c3⟩,⟨C,l1,l2,l3,z4,z5,z6⟩,rfl,⟨ci,r1,r2,r3,b1,b2,b3,Go.Joins.in64_of_wf w4,Go.Joins.in64_of_wf w5,Go.Joins.in64_of_wf w6⟩⟩
end
section
variable {H:Type} {enc:TypeId×Value→H} {w:World} {base:Nat} {spare:Nat→Bool} {held:Bool}
theorem cellsOf_texts:Tryz.prog.cellsOf 38 =1:=by kernel_rfl
theorem cellsOf_wit:Tryz.prog.cellsOf 43 =3:=by kernel_rfl
theorem sv_of (s:ByteArray):sv s.data.toList= .string s:=by
 unfold sv
 rw [Array.toArray_toList]
theorem texts_cells {n:Nat} {cs:List Value} {x:DataW H×List MemPlace} (h:DataW.trod enc Tryz.prog w base spare held n 38 cs=some x):
  ∃(A:Option Addr) (c:Nat) (l:List (List UInt8)),cs=[.slice A l.length c]∧RdS w A l∧(A=none→c=0)∧l.length≤Rows.uptoBulk x.1∧∀s∈l,s.length≤Rows.uptoBulk x.1:=by
 rcases open_slice1 Tryz.underlying38 cellsOf_string h with ⟨h0,_⟩ |⟨a,len,cap,m,n',V,D,Pl,h0,hbb,hl,hm,hmm,hxe,hx⟩
 ·exact ⟨none,0,[],h0,fun h=>absurd h (Nat.not_lt_zero _),fun _=>rfl,by simp,fun s hs=>by cases hs⟩
 ·have hlm:len≤m:=by rw [hmm];split<;>omega
  have hcells:∀i,i<len→∃L:List UInt8,w.cell? (a.add i)=some (sv L)∧D i= .lit (.string L):=by
   intro i hi
   obtain ⟨hc,htr⟩:=hx i (by omega)
   obtain ⟨s,e1,e2,_⟩:=DataW.trod_string Tryz.underlying9 htr
   simp only [List.cons.injEq,and_true] at e1
   simp only [Prod.mk.injEq] at e2
   exact ⟨s.data.toList,by rw [hc,e1,sv_of],e2.1⟩
  obtain ⟨F,hF⟩:=choose_lt hcells
  refine ⟨some a,cap,(List.range len).map F,by simp [h0],fun hpos=> ?_,fun h=>(by cases h),?_,fun s hs=> ?_⟩
  ·simp only [List.length_map,List.length_range] at hpos
   have h00:=(hF 0 hpos).1
   obtain ⟨b,o,rfl⟩:=plain_of h00
   refine ⟨b,o,rfl,fun j hj=> ?_⟩
   simp only [List.length_map,List.length_range] at hj
   rw [get_rng hj]
   have :=(hF j hj).1
   rwa [add_pl] at this
  ·rw [hxe]
   simp only [Rows.uptoBulk]
   have :=bulks.length_le (H:=H) ((List.range len).map D)
   rw [List.length_map,List.length_range] at this⊢
   omega
  ·obtain ⟨i,hi,rfl⟩:=List.mem_map.1 hs
   have hi:=List.mem_range.1 hi
   rw [hxe]
   simp only [Rows.uptoBulk]
   have h1:=bulks.part_le (H:=H) (l:=(List.range len).map D) (List.mem_map.2 ⟨i,List.mem_range.2 hi,rfl⟩)
   rw [(hF i hi).2,bulks.string_eq] at h1
   omega
theorem wit_cells {n:Nat} {cs:List Value} {x:DataW H×List MemPlace} (h:DataW.trod enc Tryz.prog w base spare held n 43 cs=some x):
  ∃(b:Int) (st:List UInt8) (A:Option Addr) (c:Nat) (il:List (List UInt8)),cs=(wvs b st A il.length c).toList∧st.length≤Rows.uptoBulk x.1∧RdS w A il∧(A=none→c=0)∧il.length≤Rows.uptoBulk x.1∧∀s∈il,s.length≤Rows.uptoBulk x.1:=by
 obtain ⟨y0,y1,y2,n2,hx,hlen,g0,g1,g2⟩:=trod_struct3 Tryz.underlying43 h
 rw [cellsOf_wit] at hlen
 simp only [cellsOf_int,cellsOf_string,cellsOf_texts] at g0 g1 g2
 match cs,hlen with
 |[v0,v1,v2],_=>
  simp only [List.drop_zero,List.drop_succ_cons,List.take_succ_cons,List.take_zero] at g0 g1 g2
  obtain ⟨z0,e0,_,w0⟩:=DataW.trod_int Tryz.underlying3 g0
  obtain ⟨z1,e1,k1,w1⟩:=DataW.trod_string Tryz.underlying9 g1
  obtain ⟨A,c,l,e2,k2,k3,k4,k5⟩:=texts_cells g2
  cases e0
  cases e1
  cases e2
  have hy1:z1.data.toList.length+1≤Rows.uptoBulk x.1:=by
   rw [hx]
   simp only [Rows.uptoBulk,Rows.uptoBulkAll]
   rw [k1]
   simp only [Rows.uptoBulk]
   omega
  have hy2:Rows.uptoBulk y2.1≤Rows.uptoBulk x.1:=by
   rw [hx]
   simp only [Rows.uptoBulk,Rows.uptoBulkAll]
   omega
  exact ⟨z0,z1.data.toList,A,c,l,by unfold wvs;rw [sv_of],by omega,k2,k3,by omega,fun s hs=>by have :=k5 s hs;omega⟩
end
end Go.Proofs.YtjmmpfjcpdepjaaGreatDoor
namespace Go.Proofs.YtjmmpfjcpdepjaaGreatDoor.shrinkWitness
open Go Go.ChangeShapes Go.WideShapes Go.ChangeAt Go.RowKit Go.Deep
theorem own:ownKnob Tryz.prog.godebug=none:=by kernel_rfl
noncomputable def accCells:Array Value:=#[.int .u8 128, .int .u8 191, .int .u8 160, .int .u8 191, .int .u8 128, .int .u8 159, .int .u8 144, .int .u8 191, .int .u8 128, .int .u8 143, .int .u8 0, .int .u8 0, .int .u8 0, .int .u8 0, .int .u8 0, .int .u8 0, .int .u8 0, .int .u8 0, .int .u8 0, .int .u8 0, .int .u8 0, .int .u8 0, .int .u8 0, .int .u8 0, .int .u8 0, .int .u8 0, .int .u8 0, .int .u8 0, .int .u8 0, .int .u8 0, .int .u8 0, .int .u8 0]
noncomputable def fstCells:Array Value:=(Go.Pinned.utf8FirstZ.map fun n=>Value.int .u8 (Int.ofNat n)).toArray
def putB (cs:Array Value):Obj→Obj
 | .cells _ t frozen=> .cells cs t frozen
 |o=>o
noncomputable def laidWorld (os:Os):World:=
 { World.holding Tryz.prog os ⟨#[],#[],[]⟩ with heap:=((World.holding Tryz.prog os ⟨#[],#[],[]⟩).heap.modify 2 (putB accCells)).modify 1 (putB fstCells) }
noncomputable def wArgs:Array Value:=#[.agg #[.int .i64 0, .slice none 0 0, .slice none 0 0, .slice none 0 0, .slice none 0 0, .slice none 0 0, .slice none 0 0, .slice none 0 0, .slice none 0 0, .slice none 0 0, .slice none 0 0, .int .i64 0, .int .i64 0, .int .i64 0], .agg #[.int .i64 0, .string ⟨#[]⟩, .slice none 0 0]]
theorem laid_met (os:Os):laidMet Tryz.prog Rows.shrinkWitnessUptoRow.laid ((laidWorld os).forCall (fun _ _=>0) ⟨#[],wArgs,[]⟩).memory:=
 laidMet_of_run3 8 (by kernel_rfl) (by kernel_rfl) (by kernel_rfl)
theorem reads (os:Os) {H:Type} (enc:TypeId×Value→H):∃places,DataW.whole enc Tryz.prog ((laidWorld os).forCall (fun _ _=>0) ⟨#[],wArgs,[]⟩).memory Tryz.f4.params.toList Rows.shrinkWitnessSpec.vars false wArgs.toList 8=some ([.agg [.agg [.lit (.int .i64 0), .nil, .nil, .nil, .nil, .nil, .nil, .nil], .nil, .nil, .nil, .lit (.int .i64 0), .lit (.int .i64 0), .lit (.int .i64 0)], .agg [.lit (.int .i64 0), .lit (.string []), .nil]],[],places):=
 ⟨[],by kernel_rfl⟩
set_option maxHeartbeats 2000000 in
theorem contract (H:Type) (enc:TypeId×Value→H) (W:World) (base:Nat) (args:Array Value) (ds gs:List (DataW H)) (before:List MemPlace)
  (hval0:∀(j:Nat) t v,Tryz.f4.params[j]? =some t→args[j]? =some v→Value.okWide Tryz.prog W .any base t v)
  (hW:DataW.Whole enc Tryz.prog Tryz.f4.params.toList Rows.shrinkWitnessSpec.vars false W args.toList ds gs before) (hk:Rows.uptoSmall H (ds++gs)=true)
  (hsz0:(DataW.weightsEach Tryz.prog (Tryz.f4.params.toList++(Rows.OpenSpec.upto Rows.shrinkWitnessSpec).bare.plain.varTypes Tryz.prog) (ds++gs)).all (· ≤reachBytes)=true):
  Calls Tryz.prog 4 args W fun e W'=>∃v,e= .returned v∧Rows.shrinkWitnessSpec.post enc Tryz.prog Tryz.f4 false true false false W args v W':=by
 have hval:∀(j:Nat) t v,Tryz.f4.params[j]? =some t→args[j]? =some v→Value.okWide Tryz.prog W .any base t v:=hval0
 have hsz:(DataW.weightsEach Tryz.prog (Tryz.f4.params.toList++(Rows.OpenSpec.upto Rows.shrinkWitnessSpec).bare.plain.varTypes Tryz.prog) (ds++gs)).all (· ≤reachBytes)=true:=hsz0
 clear hsz0
 have hW':=hW
 obtain ⟨p,q,hA0,hV,rfl,hfz,hnd⟩:=hW
 have hA:DataW.TrodAll enc Tryz.prog W 0 (fun _=>true) true Tryz.f4.params.toList args.toList ds p:=hA0
 rw [Tryz.params4] at hA hval hsz
 obtain ⟨v0,vs0,d0,ds0,p0,q0,hargs,rfl,rfl,h0,r0⟩:=trodAll_cons hA
 obtain ⟨v1,vs1,d1,ds1,p1,q1,rfl,rfl,rfl,h1,r1⟩:=trodAll_cons r0
 obtain ⟨rfl,rfl,rfl⟩:=trodAll_nil r1
 obtain rfl :args=#[v0,v1]:=by cases args;simp_all
 obtain ⟨rfl,rfl⟩:=trodVars_none hV
 obtain ⟨cs,rfl,hcs⟩:=okWide_struct Tryz.underlying30 (hval 0 30 v0 rfl rfl)
 obtain ⟨cs1,rfl,hcs1⟩:=okWide_struct Tryz.underlying43 (hval 1 43 v1 rfl rfl)
 have hw0:∀n∈d0.weights Tryz.prog 30,n≤reachBytes:=fun n hn=>by
  have :=List.all_eq_true.1 hsz _ (DataW.weights_mem_each (j:=0) (t:=30) rfl rfl n hn)
  simpa using this
 have hbk:=bulks.bound hk
 simp only [List.append_nil,Rows.uptoBulkAll] at hbk
 have h0':=h0
 have h1':=h1
 obtain ⟨fuel0,hf0⟩:=h0
 obtain ⟨fuel1,hf1⟩:=h1
 obtain ⟨Hh,Q,hcv,hqi⟩:=quest_cells hf0 hw0
 obtain ⟨b,st,A,c,il,hwv,k1,k2,k3,k4,k5⟩:=wit_cells hf1
 simp only at k1 k4 k5
 have hcv2:cs=qvs Hh Q:=by
  have :cs.toList=(qvs Hh Q).toList:=by simpa [Value.cells] using hcv
  exact Array.ext' this
 have hwv2:cs1=wvs b st A il.length c:=by
  have :cs1.toList=(wvs b st A il.length c).toList:=by simpa [Value.cells] using hwv
  exact Array.ext' this
 subst hcv2
 subst hwv2
 clear hA0 hval0 hf0 hf1
 have hlt:∀x∈p0++(p1++[])++[],x.block<W.heap.size:=fun x hx=>by simpa using hW'.lt x (by simpa using hx)
 refine (swlaw_calls W Hh Q hqi b st (by omega) A c il k2 k3 (fun s hs=>by have :=k5 s hs;omega) (by omega)).mono fun e W' ⟨he,hg⟩=> ?_
 subst he
 exact ⟨_,rfl,post_below (pa:=p0++(p1++[])) (pv:=[]) hW' (fun _ _ _=>(trodAll_cons_mk (shut_bool Tryz.underlying4 _) trodAll_mk0))
  (fun sp hsp=>trodAll_cons_mk (kept_arg (by kernel_rfl) (of_decide_eq_true (by kernel_rfl)) h0' hg.below (fun x hx=>hlt x (by simp [hx])) (fun p hp=>hsp p (by simp [hp])))
   (trodAll_cons_mk (kept_arg (by kernel_rfl) (of_decide_eq_true (by kernel_rfl)) h1' hg.below (fun x hx=>hlt x (by simp [hx])) (fun p hp=>hsp p (by simp [hp]))) trodAll_mk0)) (fun _ _=>rfl) (by simp)
  hg.below (ok_one (by kernel_rfl) rfl (okWide_bool_mk Tryz.underlying4 _))⟩
set_option maxHeartbeats 2000000 in
theorem lifted (os:Os) (started:os.Started) (H:Type) (enc:TypeId×Value→H) (F:Stop.Interp):
  ReturnsInHanded {} Tryz.checked os 4 .any ((Rows.OpenSpec.upto Rows.shrinkWitnessSpec).preRow enc Tryz.prog Tryz.f4 Rows.shrinkWitnessUptoRow.domain false Rows.shrinkWitnessUptoRow.laid) (((Rows.OpenSpec.upto Rows.shrinkWitnessSpec).at F).post enc Tryz.prog Tryz.f4 false true false false):=by
 obtain ⟨places,hx⟩:=reads os enc
 refine returnsInHanded_of_row (C:=Tryz.checked) (s:=Rows.OpenSpec.upto Rows.shrinkWitnessSpec) own started (by kernel_rfl) Tryz.func4
  (witness_row_at (enc:=enc) (C:=Tryz.checked) false (laidWorld os) wArgs rfl (by kernel_rfl) (by kernel_rfl) (by kernel_rfl)
   (OpenSpec.preRow_of_cond 8 hx (by kernel_rfl) (fun k hk=>by cases hk;kernel_rfl) (by kernel_rfl) (laid_met os))) ?_
 intro W base args ds gs before hval hW _ hcond hsz hL _ _
 exact contract H enc W base args ds gs before hval hW (hcond _ rfl) hsz
theorem saidUpto:Rows.ShrinkWitnessUptoSaid:=
 OpenClaim.holds_of_cond 4 Tryz.f4 rfl rfl rfl rfl rfl rfl rfl ⟨rfl,rfl,rfl,rfl,rfl⟩ rfl rfl rfl rfl rfl (by kernel_rfl) Tryz.func4 (by kernel_rfl)
  (of_decide_eq_true (by kernel_rfl)) (by unfold Func.isWrapper;first | (rw [if_pos (by decide+kernel)];kernel_rfl) | (rw [if_neg (by decide+kernel)];exact ⟨rfl,rfl⟩))
  (fun os started H enc _ F=>by rw [OpenClaim.pre_eq_preRow];exact lifted os started H enc F)
theorem plain (f:FuncId) (fn:Func) (hf:Tryz.pinned.checked.prog.funcNamed "interlock/interlocklaw37.ShrinkWitness" =some f) (hfn:Tryz.pinned.checked.prog.funcs[f]? =some fn):
  true=Tryz.pinned.checked.prog.looks []∧∀(j:Nat) t,fn.params[j]? =some t→Tryz.pinned.checked.prog.wantsStandIn t=false:=by
 obtain rfl :f=4 :=Option.some.inj ((show Tryz.prog.funcNamed "interlock/interlocklaw37.ShrinkWitness" =some 4 by kernel_rfl).symm.trans hf) |>.symm
 obtain rfl :fn=Tryz.f4 :=(Option.some.inj (Tryz.func4.symm.trans hfn)).symm
 refine ⟨by kernel_rfl,fun j t ht=> ?_⟩
 rw [Tryz.params4] at ht
 have hm:=Array.mem_of_getElem? ht
 simp only [List.mem_toArray,List.mem_cons,List.not_mem_nil,or_false] at hm
 rcases hm with rfl |rfl
 ·exact (show Tryz.prog.wantsStandIn 30 =false by kernel_rfl)
 ·exact (show Tryz.prog.wantsStandIn 43 =false by kernel_rfl)
theorem proved:Rows.ShrinkWitnessUptoCardSaid:=
 Claim7.holds_tied_plain_at .later [] _ _ _ _ saidUpto (fun _ h=>by cases h) (by kernel_rfl) (fun _ h=>by cases h) shrinkWitnessUpto_row_tie rfl ⟨rfl,rfl⟩ (by kernel_rfl) rfl plain (by kernel_rfl)
end Go.Proofs.YtjmmpfjcpdepjaaGreatDoor.shrinkWitness
