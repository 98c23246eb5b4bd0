/- Parts of a proof. -/
import Derived.Test.YtjmmpfjcpdepjaaGreatDoorGAB
import Derived.Deep.LoopGhost
import Derived.BigQuiet
import Derived.Deep.DeepCutAuto
import Derived.WalkLawsBesides
set_option linter.unusedVariables false
set_option linter.unusedSimpArgs false
namespace Go.Proofs.YtjmmpfjcpdepjaaGreatDoor
open Go.RowKit
theorem infoCel:(Tryz.prog.info? 150).map (fun i=>(i.zero,i.size,i.bytes))=some (some (.agg #[.int .i64 0, .int .i64 0, .int .i64 0]),3,24):=by kernel_rfl
theorem TrAt.newCells {w w':World} {L:TrL} {T:Tr} (h:TrAt w L T) {g cap:Nat} {cs:List Cel} (hi:Cls w' (some ⟨g,0,none⟩) cap cs) (hf:Fr (blks L.A1) w w') (hg:g∈blks L.A1∨w.heap.size≤g):
  TrAt (w'.setCell ⟨L.a,0,none⟩ (.slice (some ⟨g,0,none⟩) cs.length cap)) { L with A1:=some ⟨g,0,none⟩,c1:=cap } { T with cells:=cs }∧
  L.ext { L with A1:=some ⟨g,0,none⟩,c1:=cap } w∧Fr L.fp w (w'.setCell ⟨L.a,0,none⟩ (.slice (some ⟨g,0,none⟩) cs.length cap)):=by
 obtain ⟨h1,h2,h3⟩:=tnodup3 h.nodup
 have nG:g≠L.a∧g∉blks L.A2∧g∉blks L.A3:=by
  rcases hg with q |q
  ·exact h1 g q
  ·refine ⟨?_,fun k=> ?_,fun k=> ?_⟩
   ·have :=h.obj.lt;omega
   ·have :=h.lits.lt _ k;omega
   ·have :=h.levels.lt _ k;omega
 have bG:blks (some ⟨g,0,none⟩)=[g]:=rfl
 refine ⟨⟨?_,?_,?_,?_,?_⟩,⟨rfl,?_⟩,?_⟩
 ·have :=(hf.at_ h.obj (fun k=>(h1 _ k).1 rfl)).set_ 0 (.slice (some ⟨g,0,none⟩) cs.length cap)
  simpa using this
 ·exact hi.far (by rw [bG];simpa using fun e=>nG.1 e.symm) _
 ·exact (h.lits.fr hf fun k hk hk'=>(h2 k hk).2.1 hk').far (fun k=>(h2 _ k).1 rfl) _
 ·exact (h.levels.fr hf fun k hk hk'=>(h3 k hk).2.1 hk').far (fun k=>(h3 _ k).1 rfl) _
 ·have hn:=h.nodup
  simp only [TrL.fp,List.nodup_cons,List.mem_append,List.nodup_append,bG,List.mem_singleton,List.not_mem_nil,not_false_eq_true,List.nodup_nil,true_and] at hn⊢
  obtain ⟨n1,n2,⟨n3,n4,n5⟩,n6⟩:=hn
  refine ⟨?_,⟨n3,n4,n5⟩,?_⟩
  ·rintro (hk |hk |hk)
   ·exact nG.1 hk.symm
   ·exact n1 (.inr (.inl hk))
   ·exact n1 (.inr (.inr hk))
  ·intro a ha b hb e
   subst ha
   subst e
   rcases hb with hb |hb
   ·exact nG.2.1 hb
   ·exact nG.2.2 hb
 ·intro k hk
  simp only [TrL.fp,bG,List.mem_cons,List.mem_append,List.not_mem_nil,or_false] at hk⊢
  rcases hk with hk |hk |hk |hk
  ·exact .inl (.inl hk)
  ·subst hk;exact hg.imp (fun q=> .inr (.inl q)) id
  ·exact .inl (.inr (.inr (.inl hk)))
  ·exact .inl (.inr (.inr (.inr hk)))
 ·exact (hf.mono (T:=L.fp) fun k hk=> .inl (by simp [TrL.fp,hk])).setCell (.inl (by simp [TrL.fp])) _
def Tr.growBy (T:Tr) (m:Nat):Tr:={ T with cells:=T.cells++List.replicate m Cel.free }
def Tr.room (T:Tr) (n:Int):Nat:=(min (max n 0) (262145-T.cells.length)).toNat
def Tr.growF (T:Tr) (n:Int):Tr:=T.growBy (T.room n)
theorem Tr.grow_one {T:Tr} {j:Nat}:(T.growBy j).cells++[Cel.free]=(T.growBy (j+1)).cells:=by simp [Tr.growBy,List.replicate_succ']
set_option maxRecDepth 100000 in
set_option maxHeartbeats 2000000 in
theorem trail_grow (w:World) (L:TrL) (T:Tr) (h:TrAt w L T) (hc:0<T.cells.length) (hm:T.cells.length≤262145) (n:Int):
  Calls Tryz.prog 117 #[.pointer (some ⟨L.a,0,none⟩), .int .i64 n] w fun e w'=>e= .returned (.tuple #[])∧∃L',TrAt w' L' (T.growF n)∧L.ext L' w∧Fr L.fp w w':=by
 have o0:=h.obj.cell 0
 simp at o0
 obtain ⟨was,hw⟩:∃was:Nat,T.cells.length=was+1:=⟨T.cells.length-1,by omega⟩
 have key:(n<0∧T.room n=0)∨(n=0∧T.room n=0)∨(0<n∧n≤262144-was∧(T.room n:Int)=n)∨(262144-was<n∧0<n∧(T.room n:Int)=262144-was):=by
  unfold Tr.room
  rw [hw]
  omega
 unfold Tr.growF
 obtain ⟨m,hme⟩:∃m,T.room n=m:=⟨_,rfl⟩
 rw [hme] at key⊢
 rw [hw] at o0
 have HH:=Lib.hid h
 have HW:=Lib.hid hw
 have hm':(was:Int)≤262144:=by omega
 have hm2:(was:Int)+m≤262144:=by omega
 have ez:((was:Int)+1==0)=false:=beq_eq_false_iff_ne.2 (by omega)
 have HK:=Lib.hid hm2
 clear h hme hw hm hc hm2
 rcases key with ⟨k1,k2⟩ |⟨k1,k2⟩ |⟨k1,k2,k3⟩ |⟨k1,k2,k3⟩
 ·subst k2
  have k5:(0:Int)≤262144-was:=by omega
  go_enter Tryz.func117,Tryz.ntmps117
  go_wp2_with fail
  clear o0
  go_loopg [26] 0 (fun gk i wr=>∃(j:Nat) (M:TrL),j+gk=0∧i= .int .i64 j∧TrAt wr M (T.growBy j)∧L.ext M w∧Fr L.fp w wr)
  case atStart=>exact ⟨0,L,by omega,rfl,by simpa [Tr.growBy] using HH.out,L.ext_refl w,Fr.refl _ _⟩
  case round=>
   obtain ⟨j,M,hj,rfl,hT,hE,hF⟩:=hrel
   have ha:M.a=L.a:=hE.1
   have lc:(T.growBy j).cells.length=was+1+j:=by simp [Tr.growBy,HW.out]
   have o0:=hT.obj.cell 0
   rw [ha] at o0
   simp [lc] at o0
   have HA:=Lib.hid ha
   have HL:=Lib.hid lc
   have HT:=Lib.hid hT
   have HE:=Lib.hid hE
   have HF:=Lib.hid hF
   have HJ:=Lib.hid hj
   have HN:Hid (M.a∉blks M.A1):=fun hk=>((tnodup3 hT.nodup).1 _ hk).1 rfl
   clear ha lc hT hE hF
   have hjm':(0:Int)≤j:=by skip;omega
   have e:j=0:=by skip;omega
   subst e
   clear hj
   go_wp2_with fail
   go_end0
   exact ⟨rfl,M,HT.out,HE.out,HF.out⟩
 ·subst k2
  subst k1
  have k5:(0:Int)≤262144-was:=by omega
  go_enter Tryz.func117,Tryz.ntmps117
  go_wp2_with fail
  clear o0
  go_loopg [26] 0 (fun gk i wr=>∃(j:Nat) (M:TrL),j+gk=0∧i= .int .i64 j∧TrAt wr M (T.growBy j)∧L.ext M w∧Fr L.fp w wr)
  case atStart=>exact ⟨0,L,by omega,rfl,by simpa [Tr.growBy] using HH.out,L.ext_refl w,Fr.refl _ _⟩
  case round=>
   obtain ⟨j,M,hj,rfl,hT,hE,hF⟩:=hrel
   have ha:M.a=L.a:=hE.1
   have lc:(T.growBy j).cells.length=was+1+j:=by simp [Tr.growBy,HW.out]
   have o0:=hT.obj.cell 0
   rw [ha] at o0
   simp [lc] at o0
   have HA:=Lib.hid ha
   have HL:=Lib.hid lc
   have HT:=Lib.hid hT
   have HE:=Lib.hid hE
   have HF:=Lib.hid hF
   have HJ:=Lib.hid hj
   have HN:Hid (M.a∉blks M.A1):=fun hk=>((tnodup3 hT.nodup).1 _ hk).1 rfl
   clear ha lc hT hE hF
   have hjm':(0:Int)≤j:=by skip;omega
   have e:j=0:=by skip;omega
   subst e
   clear hj
   go_wp2_with fail
   go_end0
   exact ⟨rfl,M,HT.out,HE.out,HF.out⟩
 ·subst k3
  have k4:((was:Nat):Int)<262144:=by omega
  have k5:0<m:=by omega
  go_enter Tryz.func117,Tryz.ntmps117
  go_wp2_with fail
  clear o0
  go_loopg [26] m (fun gk i wr=>∃(j:Nat) (M:TrL),j+gk=m∧i= .int .i64 j∧TrAt wr M (T.growBy j)∧L.ext M w∧Fr L.fp w wr)
  case atStart=>exact ⟨0,L,by omega,rfl,by simpa [Tr.growBy] using HH.out,L.ext_refl w,Fr.refl _ _⟩
  case round=>
   obtain ⟨j,M,hj,rfl,hT,hE,hF⟩:=hrel
   have ha:M.a=L.a:=hE.1
   have lc:(T.growBy j).cells.length=was+1+j:=by simp [Tr.growBy,HW.out]
   have o0:=hT.obj.cell 0
   rw [ha] at o0
   simp [lc] at o0
   have HA:=Lib.hid ha
   have HL:=Lib.hid lc
   have HT:=Lib.hid hT
   have HE:=Lib.hid hE
   have HF:=Lib.hid hF
   have HJ:=Lib.hid hj
   have HN:Hid (M.a∉blks M.A1):=fun hk=>((tnodup3 hT.nodup).1 _ hk).1 rfl
   clear ha lc hT hE hF
   by_cases hjm:j<m
   ·have hjm':(j:Int)<(m:Int):=by skip;omega
    clear hj
    go_wp2_with (at_builtin;(refine wpList_append_one _ rfl _ _ 151 rfl 150 (.agg #[.int .i64 0, .int .i64 0, .int .i64 0]) 3 24 Tryz.underlying151 infoCel rfl (by decide) M.A1 M.c1 (was+1+j) rfl (flat (T.growBy j).cells) ?hown ⟨wr.heap.size,0,none⟩ 1 rfl (flat [Cel.free]) rfl ?hnews (by simp [flat,Value.oneCell']) (by have :=HK.out;unfold maxLen;omega) (by have :=HK.out;omega) ?_;(case hown=>have :=HT.out.cells.alloc (.cells #[.int .i64 0, .int .i64 (-1), .int .i64 0] 150);unfold Cls at this;rwa [HL.out] at this);(case hnews=>intro jj u hu;match jj,hu with |0,hu=>(simp [flat,Cel.free] at hu;subst hu;simp [Addr.add]) |1,hu=>(simp [flat,Cel.free] at hu;subst hu;simp [Addr.add]) |2,hu=>(simp [flat,Cel.free] at hu;subst hu;simp [Addr.add]) | (_+3),hu=>(simp [flat] at hu));intro g2 cap w2 hi2 hf2 hg2 hs2;have q2:=hf2.at_ (HT.out.obj.alloc _) HN.out;rw [HA.out] at q2;have q3:=q2.cell 0;have q4:=q2.frozen 0;simp at q3;have HI:=Lib.hid hi2;have HF2:=Lib.hid hf2;have HG2:=Lib.hid hg2;clear q2 hi2 hf2 hg2 hs2))
    have hcl:Cls w2 (some ⟨g2,0,none⟩) cap (T.growBy (j+1)).cells:=by
     have :=HI.out
     rw [←flat_app,Tr.grow_one] at this
     unfold Cls
     rwa [show (T.growBy (j+1)).cells.length=was+1+j+1 by simp [Tr.growBy,HW.out];omega]
    obtain ⟨r1,r2,r3⟩:=(HT.out.alloc (.cells #[.int .i64 0, .int .i64 (-1), .int .i64 0] 150)).newCells hcl HF2.out (HG2.out.imp id (fun e=>by rw [e];exact Nat.le_refl _))
    rw [HA.out,show (T.growBy (j+1)).cells.length=was+1+j+1 by simp [Tr.growBy,HW.out];omega] at r1 r3
    have r4:L.ext { M with A1:=some ⟨g2,0,none⟩,c1:=cap } w:=TrL.ext_trans HE.out ⟨r2.1,fun k hk=>(r2.2 k hk).imp id (fun h=>by simp at h;omega)⟩ HF.out
    have r5:=(HF.out.alloc (.cells #[.int .i64 0, .int .i64 (-1), .int .i64 0] 150)).trans r3 HE.out.2
    rw [HA.out] at r4
    have R1:=Lib.hid r1
    have R4:=Lib.hid r4
    have R5:=Lib.hid r5
    clear r1 r2 r3 r4 r5 hcl
    go_roundg (gk-1)
    case measure=>have :=HJ.out;omega
    case rel=>exact ⟨j+1,_,by have :=HJ.out;omega,by have :=HK.out;go_num,R1.out,R4.out,R5.out⟩
   ·have hjm':((m:Int):Int)≤j:=by skip;omega
    have e:j=m:=by skip;omega
    subst e
    clear hj
    go_wp2_with fail
    go_end0
    exact ⟨rfl,M,HT.out,HE.out,HF.out⟩
 ·have k4:Hid ((262144-was:Int)=m):=k3.symm
  have k5:(0:Int)≤262144-was:=by omega
  clear k3
  go_enter Tryz.func117,Tryz.ntmps117
  go_wp2_with fail
  clear o0
  go_loopg [26] m (fun gk i wr=>∃(j:Nat) (M:TrL),j+gk=m∧i= .int .i64 j∧TrAt wr M (T.growBy j)∧L.ext M w∧Fr L.fp w wr)
  case atStart=>exact ⟨0,L,by omega,rfl,by simpa [Tr.growBy] using HH.out,L.ext_refl w,Fr.refl _ _⟩
  case round=>
   obtain ⟨j,M,hj,rfl,hT,hE,hF⟩:=hrel
   have ha:M.a=L.a:=hE.1
   have lc:(T.growBy j).cells.length=was+1+j:=by simp [Tr.growBy,HW.out]
   have o0:=hT.obj.cell 0
   rw [ha] at o0
   simp [lc] at o0
   have HA:=Lib.hid ha
   have HL:=Lib.hid lc
   have HT:=Lib.hid hT
   have HE:=Lib.hid hE
   have HF:=Lib.hid hF
   have HJ:=Lib.hid hj
   have HN:Hid (M.a∉blks M.A1):=fun hk=>((tnodup3 hT.nodup).1 _ hk).1 rfl
   clear ha lc hT hE hF
   by_cases hjm:j<m
   ·have hjm':(j:Int)<(262144-was):=by have :=k4.out;omega
    clear hj
    go_wp2_with (at_builtin;(refine wpList_append_one _ rfl _ _ 151 rfl 150 (.agg #[.int .i64 0, .int .i64 0, .int .i64 0]) 3 24 Tryz.underlying151 infoCel rfl (by decide) M.A1 M.c1 (was+1+j) rfl (flat (T.growBy j).cells) ?hown ⟨wr.heap.size,0,none⟩ 1 rfl (flat [Cel.free]) rfl ?hnews (by simp [flat,Value.oneCell']) (by have :=HK.out;unfold maxLen;omega) (by have :=HK.out;omega) ?_;(case hown=>have :=HT.out.cells.alloc (.cells #[.int .i64 0, .int .i64 (-1), .int .i64 0] 150);unfold Cls at this;rwa [HL.out] at this);(case hnews=>intro jj u hu;match jj,hu with |0,hu=>(simp [flat,Cel.free] at hu;subst hu;simp [Addr.add]) |1,hu=>(simp [flat,Cel.free] at hu;subst hu;simp [Addr.add]) |2,hu=>(simp [flat,Cel.free] at hu;subst hu;simp [Addr.add]) | (_+3),hu=>(simp [flat] at hu));intro g2 cap w2 hi2 hf2 hg2 hs2;have q2:=hf2.at_ (HT.out.obj.alloc _) HN.out;rw [HA.out] at q2;have q3:=q2.cell 0;have q4:=q2.frozen 0;simp at q3;have HI:=Lib.hid hi2;have HF2:=Lib.hid hf2;have HG2:=Lib.hid hg2;clear q2 hi2 hf2 hg2 hs2))
    have hcl:Cls w2 (some ⟨g2,0,none⟩) cap (T.growBy (j+1)).cells:=by
     have :=HI.out
     rw [←flat_app,Tr.grow_one] at this
     unfold Cls
     rwa [show (T.growBy (j+1)).cells.length=was+1+j+1 by simp [Tr.growBy,HW.out];omega]
    obtain ⟨r1,r2,r3⟩:=(HT.out.alloc (.cells #[.int .i64 0, .int .i64 (-1), .int .i64 0] 150)).newCells hcl HF2.out (HG2.out.imp id (fun e=>by rw [e];exact Nat.le_refl _))
    rw [HA.out,show (T.growBy (j+1)).cells.length=was+1+j+1 by simp [Tr.growBy,HW.out];omega] at r1 r3
    have r4:L.ext { M with A1:=some ⟨g2,0,none⟩,c1:=cap } w:=TrL.ext_trans HE.out ⟨r2.1,fun k hk=>(r2.2 k hk).imp id (fun h=>by simp at h;omega)⟩ HF.out
    have r5:=(HF.out.alloc (.cells #[.int .i64 0, .int .i64 (-1), .int .i64 0] 150)).trans r3 HE.out.2
    rw [HA.out] at r4
    have R1:=Lib.hid r1
    have R4:=Lib.hid r4
    have R5:=Lib.hid r5
    clear r1 r2 r3 r4 r5 hcl
    go_roundg (gk-1)
    case measure=>have :=HJ.out;omega
    case rel=>exact ⟨j+1,_,by have :=HJ.out;omega,by have :=HK.out;go_num,R1.out,R4.out,R5.out⟩
   ·have hjm':((262144-was):Int)≤j:=by have :=k4.out;omega
    have e:j=m:=by have :=k4.out;omega
    subst e
    clear hj
    go_wp2_with fail
    go_end0
    exact ⟨rfl,M,HT.out,HE.out,HF.out⟩
theorem addr_add (g o n:Nat):(Addr.mk g o none).add n=⟨g,o+n,none⟩:=by unfold Addr.add;split<;>simp_all
--New
def Tr.fresh:Tr:={ cells:=[⟨0,0,0⟩],lits:=[],levels:=[] }
theorem ret_ptr_t {a b:Nat} (h:a=b):Ending.returned (.pointer (some ⟨a,0,none⟩))= .returned (.pointer (some ⟨b,0,none⟩)):=by rw [h]
theorem TrAt.new (w:World):TrAt ((w.alloc (.cells #[.int .i64 0, .int .i64 0, .int .i64 0] 150)).alloc (.cells #[.slice (some ⟨w.heap.size,0,none⟩) 1 1, .slice none 0 0, .slice none 0 0] 153))
  { a:=w.heap.size+1,A1:=some ⟨w.heap.size,0,none⟩,c1:=1,A2:=none,c2:=0,A3:=none,c3:=0 } Tr.fresh:=by
 refine ⟨?_,?_,Ints.nil _,Ints.nil _,by simp [TrL.fp,blks]⟩
 ·have :=At.new (w.alloc (.cells #[.int .i64 0, .int .i64 0, .int .i64 0] 150)) 153 #[.slice (some ⟨w.heap.size,0,none⟩) 1 1, .slice none 0 0, .slice none 0 0]
  rwa [show (w.alloc (.cells #[.int .i64 0, .int .i64 0, .int .i64 0] 150)).heap.size=w.heap.size+1 from by simp] at this
 ·have :Cls (w.alloc (.cells #[.int .i64 0, .int .i64 0, .int .i64 0] 150)) (some ⟨w.heap.size,0,none⟩) 1 Tr.fresh.cells:=World.ownsRow_lit w #[.int .i64 0, .int .i64 0, .int .i64 0] 1 (Nat.zero_le _) (by simp [maxLen]) (by simp)
  exact this.alloc _
set_option maxRecDepth 100000 in
set_option maxHeartbeats 1000000 in
theorem trail_new (w:World) (n:Int):
  Calls Tryz.prog 77 #[.int .i64 n] w fun e w'=>∃L:TrL,e= .returned (.pointer (some ⟨L.a,0,none⟩))∧TrAt w' L (Tr.fresh.growF n)∧(∀k,k∈L.fp→w.heap.size≤k)∧Fr [] w w':=by
 have HN:=Lib.hid (TrAt.new w)
 go_enter Tryz.func77,Tryz.ntmps77
 go_wp2_with fail
 refine (trail_grow _ _ _ HN.out (by decide) (by decide) n).mono ?_
 rintro e w1 ⟨rfl,L',hL,hE,hF⟩
 have HL:=Lib.hid hL
 have HE:=Lib.hid hE
 have HF:=Lib.hid hF
 clear hL hE hF
 go_wp2_with fail
 go_ret
 have hk:∀k,k∈TrL.fp { a:=w.heap.size+1,A1:=some ⟨w.heap.size,0,none⟩,c1:=1,A2:=none,c2:=0,A3:=none,c3:=0 }→w.heap.size≤k:=by
  intro k hk
  simp only [TrL.fp,blks,Option.map_none,Option.map_some,Option.toList_none,Option.toList_some,List.append_nil,List.mem_cons,List.not_mem_nil,or_false] at hk
  omega
 refine ⟨L',ret_ptr_t HE.out.1.symm,HL.out,fun k h=> ?_,?_⟩
 ·rcases HE.out.2 k h with h |h
  ·exact hk k h
  ·exact Nat.le_trans (by simp;omega) h
 ·exact (((Fr.refl [] w).alloc _).alloc _).trans HF.out (fun k h=> .inr (hk k h))
--Clone,Lits
structure Tr.Inv (T:Tr):Prop where
 levels:∀m:Nat,m<T.levels.length→∃n:Nat,T.levels[m]! =n∧n≤T.lits.length
 lits:∀j:Nat,j<T.lits.length→T.isB (tv T.lits[j]!)=true
theorem trail_back (w:World) (L:TrL) (T:Tr) (h:TrAt w L T) (hi:T.Inv) (level:Int):
  Calls Tryz.prog 145 #[.pointer (some ⟨L.a,0,none⟩), .int .i64 level] w fun e w'=>e= .returned (.tuple #[])∧TrAt w' L (T.backF level.toNat)∧Fr L.fp w w':=by
 by_cases hl:level<0
 ·have e0:level.toNat=0:=by omega
  rw [e0]
  by_cases hm:0<T.levels.length
  ·obtain ⟨n,hn,hnl⟩:=hi.levels 0 hm
   have e1:T.backF 0=T.cutF 0 n:=by unfold Tr.backF;rw [if_pos hm,hn];rfl
   rw [e1]
   exact trail_back_n_go w L T h level hl hm n hn hnl hi.lits
  ·have e1:T.backF 0=T:=by unfold Tr.backF;rw [if_neg hm]
   rw [e1]
   exact (trail_back_n_out w L T h level hl (by omega)).mono fun e w' ⟨he,hw⟩=>⟨he,hw▸h,hw▸Fr.refl _ _⟩
 ·obtain ⟨m,rfl⟩:∃m:Nat,level=m:=⟨level.toNat,by omega⟩
  rw [Int.toNat_natCast]
  by_cases hm:m<T.levels.length
  ·obtain ⟨n,hn,hnl⟩:=hi.levels m hm
   have e1:T.backF m=T.cutF m n:=by unfold Tr.backF;rw [if_pos hm,hn];rfl
   rw [e1]
   exact trail_back_p_go w L T h m hm n hn hnl hi.lits
  ·have e1:T.backF m=T:=by unfold Tr.backF;rw [if_neg hm]
   rw [e1]
   exact (trail_back_p_out w L T h m (by omega)).mono fun e w' ⟨he,hw⟩=>⟨he,hw▸h,hw▸Fr.refl _ _⟩
end Go.Proofs.YtjmmpfjcpdepjaaGreatDoor
namespace Go.Proofs.YtjmmpfjcpdepjaaGreatDoor
structure St where
 x:Int
 l:Int
 r:Int
instance:Inhabited St:=⟨⟨0,0,0⟩⟩
def look (S:List St) (v:Int):Option St:=S.find? (fun e=>tv e.x==v)
def stCel (e:St):Cel:=⟨if e.x<0 then -1 else 1,e.l,e.r⟩
def celOf:Option St→Cel
 |none=>Cel.free
 |some e=>stCel e
theorem look_some {S:List St} {v:Int} {e:St} (h:look S v=some e):e∈S∧tv e.x=v:=by
 refine ⟨List.mem_of_find?_eq_some h,?_⟩
 have :=List.find?_some h
 simpa using this
theorem look_none {S:List St} {v:Int} (h:look S v=none):∀e,e∈S→tv e.x≠v:=by
 intro e he
 have :=List.find?_eq_none.1 h e he
 simpa using this
theorem look_none_of {S:List St} {v:Int} (h:∀e,e∈S→tv e.x≠v):look S v=none:=List.find?_eq_none.2 fun e he=>by simpa using h e he
theorem look_app (S:List St) (e:St) (v:Int):look (S++[e]) v=if tv e.x=v then (look S v).or (some e) else look S v:=by
 unfold look
 rw [List.find?_append]
 by_cases h:tv e.x=v
 ·simp [h]
 ·simp [h]
theorem look_mem {S:List St} (hn:(S.map fun e:St=>tv e.x).Nodup) {e:St} (he:e∈S):look S (tv e.x)=some e:=by
 induction S with
 |nil=>simp at he
 |cons d S ih=>
  simp only [List.map_cons,List.nodup_cons,List.mem_map,not_exists,not_and] at hn
  unfold look
  rw [List.find?_cons]
  rcases List.mem_cons.1 he with rfl |he
  ·simp
  ·have :(tv d.x==tv e.x)=false:=beq_eq_false_iff_ne.2 fun h=>hn.1 e he h.symm
   rw [this]
   exact ih hn.2 he
theorem cel_set (cs:List Cel) (i:Nat) (x:Cel) (j:Nat) (hi:i<cs.length):(cs.set i x)[j]! =if j=i then x else cs[j]! :=by
 simp only [List.getElem!_eq_getElem?_getD,List.getElem?_set]
 by_cases h:i=j
 ·subst h;simp [hi]
 ·rw [if_neg h,if_neg (fun e=>h e.symm)]
theorem clearL_get:∀(ls:List Int) (cs:List Cel) (j:Nat),(∀l,l∈ls→(tv l).toNat<cs.length)→(clearL cs ls)[j]! =if j∈ls.map (fun l=>(tv l).toNat) then Cel.free else cs[j]! :=by
 intro ls
 induction ls with
 |nil=>intro cs j _;simp [clearL]
 |cons l ls ih=>
  intro cs j h
  have h1:(tv l).toNat<cs.length:=h l (by simp)
  have e:clearL cs (l::ls)=clearL (cs.set (tv l).toNat Cel.free) ls:=rfl
  rw [e,ih _ j (fun l' hl'=>by rw [List.length_set];exact h l' (by simp [hl'])),cel_set _ _ _ _ h1]
  by_cases h2:j∈ls.map (fun l=>(tv l).toNat)
  ·simp [h2]
  ·by_cases h3:j=(tv l).toNat
   ·simp [h3]
   ·simp [h3]
theorem nodup_lt_len:∀(n:Nat) (l:List Nat),l.Nodup→(∀x,x∈l→x<n)→l.length≤n:=by
 intro n
 induction n with
 |zero=>
  intro l _ h
  cases l with
  |nil=>exact Nat.le_refl _
  |cons a l=>exact absurd (h a (by simp)) (Nat.not_lt_zero _)
 |succ n ih=>
  intro l hn h
  by_cases hm:n∈l
  ·have :=ih (l.erase n) (hn.erase n) (fun x hx=>by
    obtain ⟨h1,h2⟩:=(hn.mem_erase_iff).1 hx
    have :=h x h2
    omega)
   rw [List.length_erase_of_mem hm] at this
   omega
  ·have :=ih l hn (fun x hx=>by
    have :=h x hx
    by_cases e:x=n
    ·subst e;exact absurd hx hm
    ·omega)
   omega
structure TRep (T:Tr) (vars:Nat) (S:List St) (depth:Nat):Prop where
 size:T.cells.length=vars+1
 lits:T.lits=S.map (·.x)
 dep:T.levels.length=depth
 lev:∀m:Nat,m<depth→T.levels[m]! =((S.filter (fun e:St=>decide (e.l≤(m:Int)))).length:Int)
 sorted:S.Pairwise (fun a b:St=>a.l≤b.l)
 bound:∀e,e∈S→0≤e.l∧e.l≤depth∧1≤tv e.x∧tv e.x≤vars
 nd:(S.map fun e:St=>tv e.x).Nodup
 cell:∀v:Int,1≤v→v≤vars→T.cel v=celOf (look S v)
namespace TRep
variable {T:Tr} {vars:Nat} {S:List St} {depth:Nat}
theorem isB (h:TRep T vars S depth) (v:Int):T.isB v=(decide (1≤v)&&decide (v≤vars)):=by
 unfold Tr.isB
 rw [h.size]
 by_cases h1:1≤v<;>by_cases h2:v≤vars<;>simp [h1,h2]<;>omega
theorem fresh:TRep Tr.fresh 0 [] 0:=by
 refine ⟨rfl,rfl,rfl,fun m hm=>absurd hm (Nat.not_lt_zero _),List.Pairwise.nil,fun e he=>by simp at he,by simp,fun v h0 h1=> ?_⟩
 have :v≤0:=by simpa using h1
 omega
theorem growBy (h:TRep T vars S depth) (k:Nat):TRep (T.growBy k) (vars+k) S depth:=by
 refine ⟨by simp [Tr.growBy,h.size];omega,h.lits,h.dep,h.lev,h.sorted,fun e he=> ?_,h.nd,fun v h0 h1=> ?_⟩
 ·obtain ⟨a,b,c,d⟩:=h.bound e he
  exact ⟨a,b,c,by omega⟩
 ·by_cases hv:v≤vars
  ·rw [←h.cell v h0 hv]
   unfold Tr.cel Tr.growBy
   simp only [List.getElem!_eq_getElem?_getD]
   rw [List.getElem?_append_left (by rw [h.size];omega)]
  ·have hl:look S v=none:=look_none_of fun e he=>by have :=(h.bound e he).2.2.2;omega
   rw [hl]
   unfold Tr.cel Tr.growBy
   simp only [List.getElem!_eq_getElem?_getD]
   rw [List.getElem?_append_right (by rw [h.size];omega),List.getElem?_replicate,if_pos (by rw [h.size];omega)]
   rfl
theorem room (h:TRep T vars S depth) (k:Nat) (hk:vars+k≤262144):T.room k=k:=by
 unfold Tr.room
 rw [h.size]
 omega
theorem grow (h:TRep T vars S depth) (k:Nat) (hk:vars+k≤262144):TRep (T.growF k) (vars+k) S depth:=by
 unfold Tr.growF
 rw [h.room k hk]
 exact h.growBy k
theorem putB (h:TRep T vars S depth) (l:Int):T.putB l=(decide (1≤tv l)&&decide (tv l≤vars)&&(look S (tv l)).isNone):=by
 unfold Tr.putB
 rw [h.isB]
 by_cases h1:1≤tv l
 ·by_cases h2:tv l≤vars
  ·rw [h.cell _ h1 h2]
   cases hl:look S (tv l) with
   |none=>simp [h1,h2,celOf,Cel.free]
   |some e=>
    simp only [h1,h2,celOf,stCel]
    by_cases h3:e.x<0<;>simp [h3]
  ·simp [h2]
 ·simp [h1]
theorem put (h:TRep T vars S depth) (l r:Int) (hb:T.putB l=true):TRep (T.putF l r) vars (S++[⟨l,depth,r⟩]) depth:=by
 rw [h.putB] at hb
 simp only [Bool.and_eq_true,decide_eq_true_eq,Option.isNone_iff_eq_none] at hb
 obtain ⟨⟨h1,h2⟩,h3⟩:=hb
 have hne:=look_none h3
 have hi:(tv l).toNat<T.cells.length:=by rw [h.size];omega
 refine ⟨by simp [Tr.putF,h.size],by simp [Tr.putF,h.lits],h.dep,fun m hm=> ?_,?_,fun e he=> ?_,?_,fun v h0 hv=> ?_⟩
 ·have :=h.lev m hm
  show T.levels[m]! =_
  rw [this,List.filter_append]
  have :¬((depth:Int)≤m):=by omega
  simp [this]
 ·rw [List.pairwise_append]
  refine ⟨h.sorted,List.pairwise_singleton _ _,fun a ha b hb=> ?_⟩
  simp only [List.mem_singleton] at hb
  subst hb
  exact (h.bound a ha).2.1
 ·rcases List.mem_append.1 he with he |he
  ·exact h.bound e he
  ·simp only [List.mem_singleton] at he
   subst he
   exact ⟨by show (0:Int)≤depth;omega,by show (depth:Int)≤depth;omega,h1,h2⟩
 ·rw [List.map_append,List.nodup_append]
  refine ⟨h.nd,by simp,fun a ha b hb e=> ?_⟩
  simp only [List.map_cons,List.map_nil,List.mem_singleton] at hb
  subst hb
  subst e
  obtain ⟨e',he',h4⟩:=List.mem_map.1 ha
  exact hne e' he' h4
 ·rw [look_app]
  have e1:(T.putF l r).cel v=if v.toNat=(tv l).toNat then ⟨if l<0 then -1 else 1,T.levels.length,r⟩ else T.cel v:=cel_set _ _ _ _ hi
  rw [e1]
  by_cases hvl:tv l=v
  ·subst hvl
   rw [if_pos rfl,if_pos rfl,h3,h.dep]
   rfl
  ·rw [if_neg (by omega),if_neg hvl]
   exact h.cell v h0 hv
theorem deep (h:TRep T vars S depth):TRep T.deepF vars S (depth+1):=by
 refine ⟨h.size,h.lits,by simp [Tr.deepF,h.dep],fun m hm=> ?_,h.sorted,fun e he=> ?_,h.nd,h.cell⟩
 ·show (T.levels++[(T.lits.length:Int)])[m]! =_
  simp only [List.getElem!_eq_getElem?_getD]
  by_cases hm2:m<depth
  ·rw [List.getElem?_append_left (by rw [h.dep];exact hm2),←h.lev m hm2,List.getElem!_eq_getElem?_getD]
  ·have e:m=depth:=by omega
   subst e
   rw [List.getElem?_append_right (by rw [h.dep];exact Nat.le_refl _),h.dep,Nat.sub_self,h.lits]
   have :S.filter (fun e:St=>decide (e.l≤(m:Int)))=S:=List.filter_eq_self.2 fun e he=>by simpa using (h.bound e he).2.1
   rw [this]
   simp
 ·obtain ⟨a,b,c,d⟩:=h.bound e he
  exact ⟨a,by omega,c,d⟩
theorem split (hs:S.Pairwise (fun a b:St=>a.l≤b.l)) (m:Int):S.filter (fun e:St=>decide (e.l≤(m:Int)))=S.take (S.filter (fun e:St=>decide (e.l≤(m:Int)))).length∧S.filter (fun e:St=> !decide (e.l≤(m:Int)))=S.drop (S.filter (fun e:St=>decide (e.l≤(m:Int)))).length:=by
 induction S with
 |nil=>simp
 |cons d S ih=>
  obtain ⟨h1,h2⟩:=List.pairwise_cons.1 hs
  by_cases hd:d.l≤m
  ·obtain ⟨i1,i2⟩:=ih h2
   simp only [hd,decide_true,List.filter_cons_of_pos,List.length_cons,List.take_succ_cons,List.drop_succ_cons,Bool.not_true,Bool.false_eq_true,not_false_eq_true,List.filter_cons_of_neg]
   exact ⟨by rw [←i1],i2⟩
  ·have e1:S.filter (fun e:St=>decide (e.l≤(m:Int)))=[]:=List.filter_eq_nil_iff.2 fun e he=>by have :=h1 e he;simp;omega
   have e2:S.filter (fun e:St=> !decide (e.l≤(m:Int)))=S:=List.filter_eq_self.2 fun e he=>by have :=h1 e he;simp;omega
   simp [hd,e1,e2]
theorem back (h:TRep T vars S depth) (m:Nat) (hm:m<depth):TRep (T.backF m) vars (S.filter (fun e:St=>decide (e.l≤(m:Int)))) m:=by
 obtain ⟨s1,s2⟩:=split h.sorted (m:Int)
 have hn:=h.lev m hm
 have hnn:(T.levels[m]!).toNat=(S.filter (fun e:St=>decide (e.l≤(m:Int)))).length:=by rw [hn];rfl
 unfold Tr.backF
 rw [if_pos (by rw [h.dep];exact hm),hnn]
 unfold Tr.cutF
 have hd:T.lits.drop (S.filter (fun e:St=>decide (e.l≤(m:Int)))).length=(S.filter (fun e:St=> !decide (e.l≤(m:Int)))).map (·.x):=by
  rw [h.lits,←List.map_drop,←s2]
 rw [hd]
 refine ⟨by simp [clearL_len,h.size],?_,?_,fun k hk=> ?_,h.sorted.filter _,fun e he=> ?_,?_,fun v h0 hv=> ?_⟩
 ·show T.lits.take _=_
  rw [h.lits,←List.map_take,←s1]
 ·show (T.levels.take m).length=m
  rw [List.length_take,h.dep];omega
 ·show (T.levels.take m)[k]! =_
  have :=h.lev k (by omega)
  simp only [List.getElem!_eq_getElem?_getD] at this⊢
  rw [List.getElem?_take,if_pos hk,this,List.filter_filter]
  congr 2
  refine List.filter_congr fun e _=> ?_
  by_cases h1:e.l≤k
  ·have :e.l≤m:=by omega
   simp [h1,this]
  ·simp [h1]
 ·obtain ⟨he,hl⟩:=List.mem_filter.1 he
  obtain ⟨a,b,c,d⟩:=h.bound e he
  exact ⟨a,by simpa using hl,c,d⟩
 ·exact (List.Sublist.map _ (List.filter_sublist)).nodup h.nd
 ·show (clearL T.cells _)[v.toNat]! =_
  rw [clearL_get _ _ _ (fun l hl=>by
   obtain ⟨e,he,rfl⟩:=List.mem_map.1 hl
   have :=h.bound e (List.mem_filter.1 he).1
   rw [h.size];omega)]
  have hc:=h.cell v h0 hv
  cases hlk:look S v with
  |none=>
   have h1:=look_none hlk
   have h2:look (S.filter (fun e:St=>decide (e.l≤(m:Int)))) v=none:=look_none_of fun e he=>h1 e (List.mem_filter.1 he).1
   rw [h2]
   rw [hlk] at hc
   split
   ·rfl
   ·exact hc
  |some e=>
   obtain ⟨he,hev⟩:=look_some hlk
   rw [hlk] at hc
   by_cases hem:e.l≤m
   ·have hin:e∈S.filter (fun e:St=>decide (e.l≤(m:Int))):=List.mem_filter.2 ⟨he,by simpa using hem⟩
    have hnd':((S.filter (fun e:St=>decide (e.l≤(m:Int)))).map fun e=>tv e.x).Nodup:=(List.Sublist.map _ (List.filter_sublist)).nodup h.nd
    have h2:=look_mem hnd' hin
    rw [hev] at h2
    rw [h2,if_neg,←hc]
    ·rfl
    ·intro hmem
     obtain ⟨l,hl,hlv⟩:=List.mem_map.1 hmem
     obtain ⟨e',he',rfl⟩:=List.mem_map.1 hl
     obtain ⟨he1,he2⟩:=List.mem_filter.1 he'
     have hb:=h.bound e' he1
     have h4:tv e'.x=v:=by omega
     have h5:=look_mem h.nd he1
     rw [h4,hlk] at h5
     obtain rfl :=Option.some.inj h5
     simp at he2
     omega
   ·have h2:look (S.filter (fun e:St=>decide (e.l≤(m:Int)))) v=none:=look_none_of fun e' he' h4=>by
     obtain ⟨he1,he2⟩:=List.mem_filter.1 he'
     have h5:=look_mem h.nd he1
     rw [h4,hlk] at h5
     obtain rfl :=Option.some.inj h5
     simp at he2
     omega
    rw [h2,if_pos]
    ·rfl
    ·exact List.mem_map.2 ⟨e.x,List.mem_map.2 ⟨e,List.mem_filter.2 ⟨he,by simp;omega⟩,rfl⟩,by rw [hev]⟩
theorem inv (h:TRep T vars S depth):T.Inv:=by
 constructor
 ·intro m hm
  refine ⟨_,h.lev m (by rw [←h.dep];exact hm),?_⟩
  rw [h.lits,List.length_map]
  exact List.length_filter_le _ _
 ·intro j hj
  rw [h.lits] at hj⊢
  rw [List.length_map] at hj
  have e:(S.map (·.x))[j]! =S[j].x:=by simp [hj]
  rw [e,h.isB]
  obtain ⟨_,_,a,b⟩:=h.bound S[j] (List.getElem_mem hj)
  simp [a,b]
theorem small (h:TRep T vars S depth):∀v:Int,1≤v→v<T.cells.length→ -1≤(T.cel v).v∧(T.cel v).v≤1:=by
 intro v h0 h1
 rw [h.size] at h1
 rw [h.cell v h0 (by omega)]
 cases look S v with
 |none=>simp [celOf,Cel.free]
 |some e=>
  simp only [celOf,stCel]
  by_cases hx:e.x<0<;>simp [hx]
theorem levB (h:TRep T vars S depth) (v:Int):T.levB v=match look S v with |none=> -1 |some e=>e.l:=by
 unfold Tr.levB
 rw [h.isB]
 cases hl:look S v with
 |none=>
  by_cases hb:1≤v∧v≤vars
  ·rw [if_pos (by simp [hb]),h.cell _ hb.1 hb.2,hl]
   simp [celOf,Cel.free]
  ·rw [if_neg (by simpa using hb)]
 |some e=>
  obtain ⟨he,hev⟩:=look_some hl
  obtain ⟨_,_,a,b⟩:=h.bound e he
  rw [hev] at a b
  rw [if_pos (by simp [a,b]),h.cell _ a b,hl]
  rfl
theorem reaB (h:TRep T vars S depth) (v:Int):T.reaB v=match look S v with |none=>0 |some e=>e.r:=by
 unfold Tr.reaB
 rw [h.isB]
 cases hl:look S v with
 |none=>
  by_cases hb:1≤v∧v≤vars
  ·rw [if_pos (by simp [hb]),h.cell _ hb.1 hb.2,hl]
   simp [celOf,Cel.free]
  ·rw [if_neg (by simpa using hb)]
 |some e=>
  obtain ⟨he,hev⟩:=look_some hl
  obtain ⟨_,_,a,b⟩:=h.bound e he
  rw [hev] at a b
  rw [if_pos (by simp [a,b]),h.cell _ a b,hl]
  rfl
theorem len_le (h:TRep T vars S depth):S.length≤vars:=by
 have hsub:∀x,x∈S.map (fun e=>(tv e.x).toNat-1)→x∈List.range vars:=by
  intro x hx
  obtain ⟨e,he,rfl⟩:=List.mem_map.1 hx
  obtain ⟨_,_,a,b⟩:=h.bound e he
  rw [List.mem_range];omega
 have hnd:(S.map (fun e=>(tv e.x).toNat-1)).Nodup:=by
  have h1:=h.nd
  rw [List.nodup_iff_pairwise_ne,List.pairwise_map] at h1⊢
  refine List.Pairwise.imp_of_mem (fun {a b} ha hb hab=> ?_) h1
  obtain ⟨_,_,a1,_⟩:=h.bound a ha
  obtain ⟨_,_,b1,_⟩:=h.bound b hb
  omega
 have :=nodup_lt_len vars _ hnd (fun x hx=>List.mem_range.1 (hsub x hx))
 simpa using this
end TRep
end Go.Proofs.YtjmmpfjcpdepjaaGreatDoor
namespace Go.Proofs.YtjmmpfjcpdepjaaGreatDoor
open Go.RowKit
def Rd (w:World) (A:Option Addr) (xs:List Int):Prop:=0<xs.length→∃b o,A=some ⟨b,o,none⟩∧∀j:Nat,j<xs.length→w.cell? ⟨b,o+j,none⟩=some (.int .i64 xs[j]!)
theorem Ints.rd {w:World} {A:Option Addr} {c:Nat} {xs:List Int} (h:Ints w A c xs):Rd w A xs:=by
 intro h0
 obtain ⟨g,hg,_⟩:=h.pos (i:=0) h0
 subst hg
 exact ⟨g,0,rfl,fun j hj=>by rw [Nat.zero_add];exact h.cell hj⟩
structure Ext (w:World) where
 v:World
 fr:Fr [] w v
instance (w:World):Nonempty (Ext w):=⟨⟨w,Fr.refl [] w⟩⟩
instance (w:World):Inhabited (Ext w):=⟨⟨w,Fr.refl [] w⟩⟩
theorem lt_of_cell {w:World} {p:Addr} {v:Value} (h:w.cell? p=some v):p.block<w.heap.size:=by
 rcases Nat.lt_or_ge p.block w.heap.size with hl |hl
 ·exact hl
 ·unfold World.cell? at h
  rw [Array.getElem?_eq_none hl] at h
  cases h
theorem Fr.cell {w w':World} (h:Fr [] w w') {p:Addr} (hp:p.block<w.heap.size):w'.cell? p=w.cell? p:=World.cell?_of_block (h.block p.block hp (by simp))
theorem Fr.cellS {w w':World} {p:Addr} {v:Value} (h:Fr [] w w') (hc:w.cell? p=some v):w'.cell? p=some v:=by rw [h.cell (lt_of_cell hc)];exact hc
theorem Ext.cell {w:World} {p:Addr} {v:Value} (hc:w.cell? p=some v) (u:Ext w):u.v.cell? p=some v:=u.fr.cellS hc
theorem At.keep {w w':World} {g:Nat} {t:TypeId} {cs:Array Value} (h:At w g t cs) (hf:Fr [] w w'):At w' g t cs:=hf.at_ h (by simp)
theorem Rd.keep {w w':World} {A:Option Addr} {xs:List Int} (h:Rd w A xs) (hf:Fr [] w w'):Rd w' A xs:=by
 intro h0
 obtain ⟨b,o,hA,hx⟩:=h h0
 exact ⟨b,o,hA,fun j hj=>hf.cellS (hx j hj)⟩
theorem wp_region_ext {P:Program} {id:Nat} {Q:Exit→Act→World→Prop} {a:Act} {w:World} {l:List Oper} (hm:P.follows .mixedOrders=true) (hB:Region.lexB .any l.toArray=true)
  (h:wpQuiet P l.toArray (fun w'=>∃u:Ext w,w'=u.v) (fun a'=>∀w',(∃u:Ext w,w'=u.v)→Q .normal a' w') l a):(Code.region id l.toArray true).wp P Q a w:=
 wp_region_quiet (C:=fun w'=>∃u:Ext w,w'=u.v) hm hB ⟨⟨_,(Fr.refl [] w).drew⟩,rfl⟩ (by simpa using h)
theorem call_ext {P:Program} {f:FuncId} {args:Array Value} {w:World} {u:Ext w} {v:Value}
  (h:Calls P f args u.v fun e w'=>e= .returned v∧Fr [] u.v w'):Calls P f args u.v fun e w''=>e= .returned v∧∃x:Ext w,w''=x.v:=
 h.mono fun _ w' ⟨he,hf⟩=>⟨he,⟨w',u.fr.then_ hf⟩,rfl⟩
theorem call_same {P:Program} {f:FuncId} {args:Array Value} {w:World} {u:Ext w} {v:Value}
  (h:Calls P f args u.v fun e w'=>e= .returned v∧u.v=w'):Calls P f args u.v fun e w''=>e= .returned v∧∃x:Ext w,w''=x.v:=
 h.mono fun _ w' ⟨he,hf⟩=>⟨he,u,hf.symm⟩
theorem set_get (l:List Int) (i j:Nat) (x:Int):(l.set i x)[j]! =if i=j∧i<l.length then x else l[j]! :=by
 simp only [List.getElem!_eq_getElem?_getD,List.getElem?_set]
 by_cases h:i=j
 ·subst h
  by_cases hl:i<l.length
  ·simp [hl]
  ·simp [hl]
 ·simp [h]
theorem set_same {l:List Int} {i:Nat} (x:Int) (h:i<l.length):(l.set i x)[i]! =x:=by rw [set_get];simp [h]
theorem set_ne {l:List Int} {i j:Nat} (x:Int) (h:i≠j):(l.set i x)[j]! =l[j]! :=by rw [set_get];simp [h]
structure PC (V:Hp):Prop where
 rng:V.InR
 pos:∀j:Nat,j<V.items.length→V.at_[(V.items[j]!).toNat]! =j
 inv:∀x:Nat,x<V.at_.length→0≤V.at_[x]! →(V.at_[x]!).toNat<V.items.length∧V.items[(V.at_[x]!).toNat]! =x
theorem PC.inj {V:Hp} (h:PC V) {i j:Nat} (hi:i<V.items.length) (hj:j<V.items.length) (e:V.items[i]! =V.items[j]!):i=j:=by
 have h1:=h.pos i hi
 have h2:=h.pos j hj
 rw [e] at h1
 omega
def Hp.swp (V:Hp) (i p:Nat):Hp:=(V.put (i:Int) V.items[p]!).put (p:Int) V.items[i]!
theorem swp_len (V:Hp) (i p:Nat):(V.swp i p).items.length=V.items.length∧(V.swp i p).at_.length=V.at_.length∧(V.swp i p).score=V.score:=by simp [Hp.swp,Hp.put]
theorem swp_items (V:Hp) {i p:Nat} (hi:i<V.items.length) (hp:p<V.items.length) (j:Nat):
  (V.swp i p).items[j]! =if j=p then V.items[i]! else if j=i then V.items[p]! else V.items[j]! :=by
 simp only [Hp.swp,Hp.put,Int.toNat_natCast]
 by_cases h1:j=p
 ·subst h1
  rw [if_pos rfl,set_same _ (by simpa using hp)]
 ·rw [if_neg h1,set_ne _ (fun e=>h1 e.symm)]
  by_cases h2:j=i
  ·subst h2;rw [if_pos rfl,set_same _ hi]
  ·rw [if_neg h2,set_ne _ (fun e=>h2 e.symm)]
theorem PC.swp {V:Hp} (h:PC V) {i p:Nat} (hi:i<V.items.length) (hp:p<V.items.length) (hne:i≠p):PC (V.swp i p):=by
 obtain ⟨l1,l2,_⟩:=swp_len V i p
 have ri:=h.rng i hi
 have rp:=h.rng p hp
 have hab:V.items[i]! ≠V.items[p]! :=fun e=>hne (h.inj hi hp e)
 have hat:∀x:Nat,(V.swp i p).at_[x]! =if x=(V.items[i]!).toNat then (p:Int) else if x=(V.items[p]!).toNat then (i:Int) else V.at_[x]! :=by
  intro x
  simp only [Hp.swp,Hp.put]
  by_cases h1:x=(V.items[i]!).toNat
  ·subst h1;rw [if_pos rfl,set_same _ (by simp only [List.length_set];omega)]
  ·rw [if_neg h1,set_ne _ (fun e=>h1 e.symm)]
   by_cases h2:x=(V.items[p]!).toNat
   ·subst h2;rw [if_pos rfl,set_same _ (by omega)]
   ·rw [if_neg h2,set_ne _ (fun e=>h2 e.symm)]
 refine ⟨fun j hj=> ?_,fun j hj=> ?_,fun x hx h0=> ?_⟩
 ·rw [l1] at hj
  rw [swp_items V hi hp,l2]
  split
  ·exact ri
  ·split
   ·exact rp
   ·exact h.rng j hj
 ·rw [l1] at hj
  rw [swp_items V hi hp,hat]
  by_cases h1:j=p
  ·subst h1;simp
  ·by_cases h2:j=i
   ·subst h2
    rw [if_neg h1,if_pos rfl,if_neg (by omega),if_pos rfl]
   ·have rj:=h.rng j hj
    have e1:V.items[j]! ≠V.items[i]! :=fun e=>h2 (h.inj hj hi e)
    have e2:V.items[j]! ≠V.items[p]! :=fun e=>h1 (h.inj hj hp e)
    rw [if_neg h1,if_neg h2,if_neg (by omega),if_neg (by omega)]
    exact h.pos j hj
 ·rw [l2] at hx
  rw [hat] at h0⊢
  by_cases h1:x=(V.items[i]!).toNat
  ·rw [if_pos h1,swp_items V hi hp,l1]
   simp only [Int.toNat_natCast,if_true]
   exact ⟨hp,by omega⟩
  ·by_cases h2:x=(V.items[p]!).toNat
   ·rw [if_neg h1,if_pos h2,swp_items V hi hp,l1]
    simp only [Int.toNat_natCast,if_true]
    rw [if_neg hne]
    exact ⟨hi,by omega⟩
   ·rw [if_neg h1,if_neg h2] at h0⊢
    obtain ⟨k1,k2⟩:=h.inv x hx h0
    rw [swp_items V hi hp,l1]
    refine ⟨k1,?_⟩
    rw [if_neg,if_neg,k2]
    ·intro e;rw [e] at k2;omega
    ·intro e;rw [e] at k2;omega
theorem put_self {V:Hp} (h:PC V) {i:Nat} (hi:i<V.items.length):V.put (i:Int) V.items[i]! =V:=by
 have e1:V.items.set i V.items[i]! =V.items:=by
  apply List.ext_getElem?
  intro j
  rw [List.getElem?_set]
  by_cases hj:i=j
  ·subst hj;simp [hi]
  ·simp [hj]
 have e2:V.at_.set (V.items[i]!).toNat (i:Int)=V.at_:=by
  have hp:=h.pos i hi
  have r:=h.rng i hi
  apply List.ext_getElem?
  intro j
  rw [List.getElem?_set]
  by_cases hj:(V.items[i]!).toNat=j
  ·rw [if_pos hj,if_pos (by omega),←hj,←hp]
   rw [List.getElem!_eq_getElem?_getD,List.getElem?_eq_getElem (by omega:(V.items[i]!).toNat<V.at_.length)]
   rfl
  ·rw [if_neg hj]
 show Hp.mk (V.items.set (i:Int).toNat V.items[i]!) (V.at_.set (V.items[i]!).toNat (i:Int)) V.score=V
 rw [Int.toNat_natCast,e1,e2]
theorem put_put {K:Hp} {i p:Nat} {x y:Int} (hxy:x.toNat≠y.toNat):((K.put (i:Int) x).put (i:Int) y).put (p:Int) x=(K.put (i:Int) y).put (p:Int) x:=by
 simp only [Hp.put,Int.toNat_natCast,List.set_set,Hp.mk.injEq,and_true,true_and]
 rw [List.set_comm _ _ hxy,List.set_set]
theorem ahead_def {V:Hp} {x y:Int}:V.aheadB x y=true↔(V.sc y<V.sc x∨(V.sc x=V.sc y∧x<y)):=by simp [Hp.aheadB]
theorem ahead_irr {V:Hp} {x y:Int} (h:V.aheadB x y=true):V.aheadB y x=false:=by
 cases hh:V.aheadB y x with
 |false=>rfl
 |true=>rw [ahead_def] at h hh;omega
theorem ahead_trans {V:Hp} {x y z:Int} (h:V.aheadB x y=true) (k:V.aheadB y z=true):V.aheadB x z=true:=by rw [ahead_def] at *;omega
theorem not_ahead_trans {V:Hp} {x y z:Int} (h:V.aheadB x y=false) (k:V.aheadB y z=false):V.aheadB x z=false:=by
 cases hh:V.aheadB x z with
 |false=>rfl
 |true=>
  rw [ahead_def] at hh
  have h1:¬(V.sc y<V.sc x∨(V.sc x=V.sc y∧x<y)):=fun e=>by rw [←ahead_def,h] at e;cases e
  have h2:¬(V.sc z<V.sc y∨(V.sc y=V.sc z∧y<z)):=fun e=>by rw [←ahead_def,k] at e;cases e
  omega
theorem ahead_self {V:Hp} {x:Int}:V.aheadB x x=false:=by
 cases hh:V.aheadB x x with
 |false=>rfl
 |true=>rw [ahead_def] at hh;omega
theorem ahead_score {V W:Hp} (h:V.score=W.score) (x y:Int):V.aheadB x y=W.aheadB x y:=by simp [Hp.aheadB,Hp.sc,h]
structure OrdU (V:Hp) (i:Nat):Prop where
 all:∀j:Nat,0<j→j<V.items.length→j≠i→V.aheadB V.items[j]! V.items[(j-1)/2]! =false
 over:∀j:Nat,0<j→j<V.items.length→(j-1)/2=i→0<i→V.aheadB V.items[j]! V.items[(i-1)/2]! =false
def Ord (V:Hp):Prop:=∀j:Nat,0<j→j<V.items.length→V.aheadB V.items[j]! V.items[(j-1)/2]! =false
theorem OrdU.step {V:Hp} {i:Nat} (h:OrdU V i) (hi0:0<i) (hi:i<V.items.length) (ha:V.aheadB V.items[i]! V.items[(i-1)/2]! =true):OrdU (V.swp i ((i-1)/2)) ((i-1)/2):=by
 have hp:(i-1)/2<V.items.length:=by omega
 have hne:i≠(i-1)/2:=by omega
 obtain ⟨l1,_,l3⟩:=swp_len V i ((i-1)/2)
 refine ⟨fun j h0 hj hjp=> ?_,fun j h0 hj hjp hp0=> ?_⟩
 ·rw [l1] at hj
  rw [ahead_score l3,swp_items V hi hp,swp_items V hi hp,if_neg hjp]
  by_cases e1:j=i
  ·subst e1
   rw [if_pos rfl,if_pos rfl]
   exact ahead_irr ha
  ·rw [if_neg e1]
   by_cases e2:(j-1)/2=(i-1)/2
   ·rw [if_pos e2]
    have h1:=h.all j h0 hj e1
    rw [e2] at h1
    cases hh:V.aheadB V.items[j]! V.items[i]! with
    |false=>rfl
    |true=>rw [ahead_trans hh ha] at h1;cases h1
   ·rw [if_neg e2]
    by_cases e3:(j-1)/2=i
    ·rw [if_pos e3];exact h.over j h0 hj e3 hi0
    ·rw [if_neg e3];exact h.all j h0 hj e1
 ·rw [l1] at hj
  rw [ahead_score l3,swp_items V hi hp,swp_items V hi hp]
  have hq:=h.all ((i-1)/2) hp0 hp (fun e=>hne e.symm)
  rw [if_neg (by omega:¬j=(i-1)/2),if_neg (by omega:¬((i-1)/2-1)/2=(i-1)/2),if_neg (by omega:¬((i-1)/2-1)/2=i)]
  by_cases e1:j=i
  ·rw [if_pos e1];exact hq
  ·rw [if_neg e1]
   have h1:=h.all j h0 hj e1
   rw [hjp] at h1
   exact not_ahead_trans h1 hq
def Hp.upS:Nat→Hp→Nat→Hp
 |0,V,_=>V
 |f+1,V,i=>if 0<i∧V.aheadB V.items[i]! V.items[(i-1)/2]! =true then Hp.upS f (V.swp i ((i-1)/2)) ((i-1)/2) else V
theorem it_nat (V:Hp) (j:Nat):V.it (j:Int)=V.items[j]! :=by simp [Hp.it]
theorem upF_upS (x:Int):∀(f:Nat) (K:Hp) (i:Nat),i<K.items.length→i<f→PC (K.put (i:Int) x)→Hp.upF x f K i=Hp.upS f (K.put (i:Int) x) i:=by
 intro f
 induction f with
 |zero=>intro K i _ h _;omega
 |succ f ih=>
  intro K i hi hf hP
  simp only [Hp.upF,Hp.upS]
  have e0:(K.put (i:Int) x).items[i]! =x:=by simp only [Hp.put,Int.toNat_natCast];exact set_same x hi
  have es:∀a b,(K.put (i:Int) x).aheadB a b=K.aheadB a b:=fun a b=>ahead_score rfl a b
  by_cases h0:0<i
  ·have hne:i≠(i-1)/2:=by omega
   have e1:(K.put (i:Int) x).items[(i-1)/2]! =K.items[(i-1)/2]! :=by simp only [Hp.put,Int.toNat_natCast];exact set_ne x hne
   rw [it_nat,e0,e1,es]
   by_cases ha:K.aheadB x K.items[(i-1)/2]! =true
   ·rw [if_pos ⟨h0,ha⟩,if_pos ⟨h0,ha⟩]
    have hl:(i-1)/2<(K.put (i:Int) x).items.length:=by rw [Hp.put_items];omega
    have hl':i<(K.put (i:Int) x).items.length:=by rw [Hp.put_items];omega
    have rx:=hP.rng i hl'
    have ry:=hP.rng ((i-1)/2) hl
    have hxy:(K.put (i:Int) x).items[i]! ≠(K.put (i:Int) x).items[(i-1)/2]! :=fun e=>hne (hP.inj hl' hl e)
    rw [e0] at rx hxy
    rw [e1] at ry hxy
    have e2:(K.put (i:Int) x).swp i ((i-1)/2)=(K.put (i:Int) K.items[(i-1)/2]!).put (((i-1)/2:Nat):Int) x:=by
     unfold Hp.swp
     rw [e0,e1]
     exact put_put (by omega)
    rw [e2]
    refine ih _ _ (by rw [Hp.put_items];omega) (by omega) ?_
    rw [←e2]
    exact hP.swp hl' hl hne
   ·rw [if_neg (fun h=>ha h.2),if_neg (fun h=>ha h.2)]
  ·rw [if_neg (fun h=>h0 h.1),if_neg (fun h=>h0 h.1)]
theorem upS_ok:∀(f:Nat) (V:Hp) (i:Nat),i<V.items.length→i<f→PC V→OrdU V i→
  PC (Hp.upS f V i)∧Ord (Hp.upS f V i)∧(Hp.upS f V i).score=V.score∧(Hp.upS f V i).items.length=V.items.length∧(Hp.upS f V i).at_.length=V.at_.length∧(∀y:Int,y∈(Hp.upS f V i).items↔y∈V.items):=by
 intro f
 induction f with
 |zero=>intro V i _ h;omega
 |succ f ih=>
  intro V i hi hf hP hO
  simp only [Hp.upS]
  by_cases hc:0<i∧V.aheadB V.items[i]! V.items[(i-1)/2]! =true
  ·rw [if_pos hc]
   obtain ⟨l1,l2,l3⟩:=swp_len V i ((i-1)/2)
   have hl:(i-1)/2<V.items.length:=by omega
   have :=ih (V.swp i ((i-1)/2)) ((i-1)/2) (by rw [l1];omega) (by omega) (hP.swp hi hl (by omega)) (hO.step hc.1 hi hc.2)
   obtain ⟨r1,r2,r3,r4,r5,r6⟩:=this
   refine ⟨r1,r2,by rw [r3,l3],by rw [r4,l1],by rw [r5,l2],fun y=>(r6 y).trans ?_⟩
   constructor
   ·intro hy
    obtain ⟨j,hj,rfl⟩:=List.mem_iff_getElem.1 hy
    rw [l1] at hj
    have e:=swp_items V hi hl j
    rw [List.getElem!_eq_getElem?_getD,List.getElem?_eq_getElem (by rw [l1];exact hj)] at e
    simp only [Option.getD_some] at e
    rw [e]
    split
    ·exact mem_get hi
    ·split
     ·exact mem_get hl
     ·exact mem_get hj
   ·intro hy
    obtain ⟨j,hj,rfl⟩:=List.mem_iff_getElem.1 hy
    have e0:V.items[j]=V.items[j]! :=by simp [hj]
    rw [e0]
    by_cases e1:j=i
    ·subst e1
     have :=swp_items V hi hl ((j-1)/2)
     rw [if_pos rfl] at this
     rw [←this];exact mem_get (by rw [l1];exact hl)
    ·by_cases e2:j=(i-1)/2
     ·have :=swp_items V hi hl i
      rw [if_neg (by omega),if_pos rfl] at this
      rw [e2,←this];exact mem_get (by rw [l1];exact hi)
     ·have :=swp_items V hi hl j
      rw [if_neg e2,if_neg e1] at this
      rw [←this];exact mem_get (by rw [l1];exact hj)
  ·rw [if_neg hc]
   refine ⟨hP,fun j h0 hj=> ?_,rfl,rfl,rfl,fun _=>Iff.rfl⟩
   by_cases e:j=i
   ·subst e
    cases hh:V.aheadB V.items[j]! V.items[(j-1)/2]! with
    |false=>rfl
    |true=>exact absurd ⟨h0,hh⟩ hc
   ·exact hO.all j h0 hj e
where
 mem_get {l:List Int} {j:Nat} (h:j<l.length):l[j]! ∈l:=by
  rw [List.getElem!_eq_getElem?_getD,List.getElem?_eq_getElem h];exact List.getElem_mem h
theorem swp_mem {V:Hp} {i p:Nat} (hi:i<V.items.length) (hp:p<V.items.length) (y:Int):y∈(V.swp i p).items↔y∈V.items:=by
 obtain ⟨l1,_,_⟩:=swp_len V i p
 constructor
 ·intro hy
  obtain ⟨j,hj,rfl⟩:=List.mem_iff_getElem.1 hy
  rw [l1] at hj
  have e:=swp_items V hi hp j
  rw [List.getElem!_eq_getElem?_getD,List.getElem?_eq_getElem (by rw [l1];exact hj)] at e
  simp only [Option.getD_some] at e
  rw [e]
  split
  ·exact upS_ok.mem_get hi
  ·split
   ·exact upS_ok.mem_get hp
   ·exact upS_ok.mem_get hj
 ·intro hy
  obtain ⟨j,hj,rfl⟩:=List.mem_iff_getElem.1 hy
  have e0:V.items[j]=V.items[j]! :=by simp [hj]
  rw [e0]
  by_cases e1:j=i
  ·subst e1
   have :=swp_items V hi hp p
   rw [if_pos rfl] at this
   rw [←this];exact upS_ok.mem_get (by rw [l1];exact hp)
  ·by_cases e2:j=p
   ·subst e2
    have :=swp_items V hi hp i
    rw [if_neg (fun e=>e1 e.symm),if_pos rfl] at this
    rw [←this];exact upS_ok.mem_get (by rw [l1];exact hi)
   ·have :=swp_items V hi hp j
    rw [if_neg e2,if_neg e1] at this
    rw [←this];exact upS_ok.mem_get (by rw [l1];exact hj)
structure OrdD (V:Hp) (i:Nat):Prop where
 all:∀j:Nat,0<j→j<V.items.length→(j-1)/2≠i→V.aheadB V.items[j]! V.items[(j-1)/2]! =false
 over:∀j:Nat,0<j→j<V.items.length→(j-1)/2=i→0<i→V.aheadB V.items[j]! V.items[(i-1)/2]! =false
theorem best_ok (V:Hp) {i:Nat} (hi:2*i+1<V.items.length):
  V.bestBelow i<V.items.length∧(V.bestBelow i-1)/2=i∧0<V.bestBelow i∧∀j:Nat,0<j→j<V.items.length→(j-1)/2=i→V.aheadB V.items[j]! V.items[V.bestBelow i]! =false:=by
 unfold Hp.bestBelow
 rw [it_nat,it_nat]
 by_cases h:2*i+2<V.items.length∧V.aheadB V.items[2*i+2]! V.items[2*i+1]! =true
 ·rw [if_pos h]
  refine ⟨h.1,by omega,by omega,fun j h0 hj hp=> ?_⟩
  rcases (by omega:j=2*i+1∨j=2*i+2) with rfl |rfl
  ·exact ahead_irr h.2
  ·exact ahead_self
 ·rw [if_neg h]
  refine ⟨hi,by omega,by omega,fun j h0 hj hp=> ?_⟩
  rcases (by omega:j=2*i+1∨j=2*i+2) with rfl |rfl
  ·exact ahead_self
  ·cases hh:V.aheadB V.items[2*i+2]! V.items[2*i+1]! with
   |false=>rfl
   |true=>exact absurd ⟨hj,hh⟩ h
theorem OrdD.step {V:Hp} {i:Nat} (h:OrdD V i) (hi:2*i+1<V.items.length) (ha:V.aheadB V.items[V.bestBelow i]! V.items[i]! =true):OrdD (V.swp i (V.bestBelow i)) (V.bestBelow i):=by
 obtain ⟨hb,hbi,hb0,hbest⟩:=best_ok V hi
 generalize V.bestBelow i=b at hb hbi hb0 hbest ha
 have hii:i<V.items.length:=by omega
 obtain ⟨l1,_,l3⟩:=swp_len V i b
 refine ⟨fun j h0 hj hjp=> ?_,fun j h0 hj hjp hp0=> ?_⟩
 ·rw [l1] at hj
  rw [ahead_score l3,swp_items V hii hb,swp_items V hii hb,if_neg hjp]
  by_cases e1:j=b
  ·subst e1
   rw [if_pos rfl,if_pos hbi]
   exact ahead_irr ha
  ·rw [if_neg e1]
   by_cases e2:(j-1)/2=i
   ·rw [if_pos e2,if_neg (by omega)]
    exact hbest j h0 hj e2
   ·rw [if_neg e2]
    by_cases e3:j=i
    ·subst e3
     rw [if_pos rfl]
     exact h.over b hb0 hb hbi h0
    ·rw [if_neg e3];exact h.all j h0 hj e2
 ·rw [l1] at hj
  rw [ahead_score l3,swp_items V hii hb,swp_items V hii hb,hbi]
  rw [if_neg (by omega:¬j=b),if_neg (by omega:¬j=i),if_neg (by omega:¬i=b),if_pos rfl]
  have :=h.all j h0 hj (by omega)
  rw [hjp] at this
  exact this
def Hp.downS:Nat→Hp→Nat→Hp
 |0,V,_=>V
 |f+1,V,i=>if 2*i+1<V.items.length∧V.aheadB V.items[V.bestBelow i]! V.items[i]! =true then Hp.downS f (V.swp i (V.bestBelow i)) (V.bestBelow i) else V
theorem best_put (K:Hp) (i:Nat) (x:Int):(K.put (i:Int) x).bestBelow i=K.bestBelow i:=by
 unfold Hp.bestBelow
 rw [it_nat,it_nat,it_nat,it_nat,Hp.put_items]
 have e1:(K.put (i:Int) x).items[2*i+2]! =K.items[2*i+2]! :=by simp only [Hp.put,Int.toNat_natCast];exact set_ne x (by omega)
 have e2:(K.put (i:Int) x).items[2*i+1]! =K.items[2*i+1]! :=by simp only [Hp.put,Int.toNat_natCast];exact set_ne x (by omega)
 have es:=ahead_score (V:=K.put (i:Int) x) (W:=K) rfl K.items[2*i+2]! K.items[2*i+1]!
 rw [e1,e2,es]
theorem downF_downS (x:Int):∀(f:Nat) (K:Hp) (i:Nat),i<K.items.length→PC (K.put (i:Int) x)→Hp.downF x f K i=Hp.downS f (K.put (i:Int) x) i:=by
 intro f
 induction f with
 |zero=>intro K i _ _;rfl
 |succ f ih=>
  intro K i hi hP
  simp only [Hp.downF,Hp.downS]
  rw [best_put,Hp.put_items]
  have e0:(K.put (i:Int) x).items[i]! =x:=by simp only [Hp.put,Int.toNat_natCast];exact set_same x hi
  have es:∀a b,(K.put (i:Int) x).aheadB a b=K.aheadB a b:=fun a b=>ahead_score rfl a b
  by_cases h0:2*i+1<K.items.length
  ·obtain ⟨hb,hbi,hb0,_⟩:=best_ok K h0
   generalize K.bestBelow i=b at hb hbi hb0
   have hne:i≠b:=by omega
   have e1:(K.put (i:Int) x).items[b]! =K.items[b]! :=by simp only [Hp.put,Int.toNat_natCast];exact set_ne x hne
   rw [it_nat,e0,e1,es]
   by_cases ha:K.aheadB K.items[b]! x=true
   ·rw [if_pos ⟨h0,ha⟩,if_pos ⟨h0,ha⟩]
    have hl:b<(K.put (i:Int) x).items.length:=by rw [Hp.put_items];omega
    have hl':i<(K.put (i:Int) x).items.length:=by rw [Hp.put_items];omega
    have rx:=hP.rng i hl'
    have ry:=hP.rng b hl
    have hxy:(K.put (i:Int) x).items[i]! ≠(K.put (i:Int) x).items[b]! :=fun e=>hne (hP.inj hl' hl e)
    rw [e0] at rx hxy
    rw [e1] at ry hxy
    have e2:(K.put (i:Int) x).swp i b=(K.put (i:Int) K.items[b]!).put (b:Int) x:=by
     unfold Hp.swp
     rw [e0,e1]
     exact put_put (by omega)
    rw [e2]
    refine ih _ _ (by rw [Hp.put_items];omega) ?_
    rw [←e2]
    exact hP.swp hl' hl hne
   ·rw [if_neg (fun h=>ha h.2),if_neg (fun h=>ha h.2)]
  ·rw [if_neg (fun h=>h0 h.1),if_neg (fun h=>h0 h.1)]
theorem downS_ok:∀(f:Nat) (V:Hp) (i:Nat),i<V.items.length→V.items.length≤i+f→PC V→OrdD V i→
  PC (Hp.downS f V i)∧Ord (Hp.downS f V i)∧(Hp.downS f V i).score=V.score∧(Hp.downS f V i).items.length=V.items.length∧(Hp.downS f V i).at_.length=V.at_.length∧(∀y:Int,y∈(Hp.downS f V i).items↔y∈V.items):=by
 intro f
 induction f with
 |zero=>intro V i _ h;omega
 |succ f ih=>
  intro V i hi hf hP hO
  simp only [Hp.downS]
  by_cases hc:2*i+1<V.items.length∧V.aheadB V.items[V.bestBelow i]! V.items[i]! =true
  ·rw [if_pos hc]
   obtain ⟨hb,hbi,hb0,_⟩:=best_ok V hc.1
   obtain ⟨l1,l2,l3⟩:=swp_len V i (V.bestBelow i)
   have :=ih (V.swp i (V.bestBelow i)) (V.bestBelow i) (by rw [l1];omega) (by rw [l1];omega) (hP.swp hi hb (by omega)) (hO.step hc.1 hc.2)
   obtain ⟨r1,r2,r3,r4,r5,r6⟩:=this
   exact ⟨r1,r2,by rw [r3,l3],by rw [r4,l1],by rw [r5,l2],fun y=>(r6 y).trans (swp_mem hi hb y)⟩
  ·rw [if_neg hc]
   refine ⟨hP,fun j h0 hj=> ?_,rfl,rfl,rfl,fun _=>Iff.rfl⟩
   by_cases e:(j-1)/2=i
   ·have hi2:2*i+1<V.items.length:=by omega
    obtain ⟨_,_,_,hbest⟩:=best_ok V hi2
    have h2:V.aheadB V.items[V.bestBelow i]! V.items[i]! =false:=by
     cases hh:V.aheadB V.items[V.bestBelow i]! V.items[i]! with
     |false=>rfl
     |true=>exact absurd ⟨hi2,hh⟩ hc
    rw [e]
    exact not_ahead_trans (hbest j h0 hj e) h2
   ·exact hO.all j h0 hj e
structure HI (H:Hp):Prop where
 pc:PC H
 ord:Ord H
 same:H.at_.length=H.score.length
 sc0:∀x:Nat,x<H.score.length→0≤H.score[x]!
theorem HI.push {H:Hp} (h:HI H) {x:Int} (hb:H.isB x=true) (hp:H.pl x<0):
  HI (H.pushF x)∧(H.pushF x).score=H.score∧(H.pushF x).items.length=H.items.length+1∧(H.pushF x).at_.length=H.at_.length∧∀y:Int,y∈(H.pushF x).items↔y∈H.items∨y=x:=by
 obtain ⟨h0,h1⟩:=Hp.isB_true hb
 have hx:x.toNat<H.at_.length:=by omega
 have hni:∀j:Nat,j<H.items.length→H.items[j]! ≠x:=by
  intro j hj e
  have :=h.pc.pos j hj
  rw [e] at this
  unfold Hp.pl at hp
  omega
 have gl:∀j:Nat,j<H.items.length→(H.items++[x])[j]! =H.items[j]! :=fun j hj=>by simp [List.getElem!_eq_getElem?_getD,List.getElem?_append_left hj]
 have gn:(H.items++[x])[H.items.length]! =x:=by simp
 have hK:PC { H with items:=H.items++[x],at_:=H.at_.set x.toNat H.items.length }:=by
  refine ⟨fun j hj=> ?_,fun j hj=> ?_,fun y hy hy0=> ?_⟩
  ·simp only [List.length_append,List.length_cons,List.length_nil] at hj
   simp only [List.length_set]
   by_cases e:j<H.items.length
   ·rw [gl j e];exact h.pc.rng j e
   ·obtain rfl :j=H.items.length:=by omega
    rw [gn];exact ⟨h0,h1⟩
  ·simp only [List.length_append,List.length_cons,List.length_nil] at hj
   by_cases e:j<H.items.length
   ·show (H.at_.set x.toNat (H.items.length:Int))[((H.items++[x])[j]!).toNat]! =j
    rw [gl j e]
    have r:=h.pc.rng j e
    have :=hni j e
    rw [set_ne _ (by omega)]
    exact h.pc.pos j e
   ·obtain rfl :j=H.items.length:=by omega
    show (H.at_.set x.toNat (H.items.length:Int))[((H.items++[x])[H.items.length]!).toNat]! =_
    rw [gn,set_same _ hx]
  ·simp only [List.length_set] at hy
   show ((H.at_.set x.toNat (H.items.length:Int))[y]!).toNat<(H.items++[x]).length∧(H.items++[x])[((H.at_.set x.toNat (H.items.length:Int))[y]!).toNat]! =y
   by_cases e:x.toNat=y
   ·subst e
    rw [set_same _ hx,Int.toNat_natCast,gn]
    exact ⟨by simp,by omega⟩
   ·have hy0':0≤H.at_[y]! :=by
     have :0≤(H.at_.set x.toNat (H.items.length:Int))[y]! :=hy0
     rwa [set_ne _ e] at this
    rw [set_ne _ e]
    obtain ⟨k1,k2⟩:=h.pc.inv y hy hy0'
    rw [gl _ k1]
    exact ⟨by rw [List.length_append];exact Nat.lt_of_lt_of_le k1 (Nat.le_add_right _ _),k2⟩
 have hput:Hp.put { H with items:=H.items++[x],at_:=H.at_.set x.toNat H.items.length } (H.items.length:Int) x={ H with items:=H.items++[x],at_:=H.at_.set x.toNat H.items.length }:=by
  have :=put_self hK (i:=H.items.length) (by simp)
  rwa [show ({ H with items:=H.items++[x],at_:=H.at_.set x.toNat H.items.length }:Hp).items[H.items.length]! =x from gn] at this
 have hO:OrdU { H with items:=H.items++[x],at_:=H.at_.set x.toNat H.items.length } H.items.length:=by
  refine ⟨fun j hj0 hj hne=> ?_,fun j hj0 hj hpj hi0=> ?_⟩
  ·simp only [List.length_append,List.length_cons,List.length_nil] at hj
   show H.aheadB (H.items++[x])[j]! (H.items++[x])[(j-1)/2]! =false
   rw [gl j (by omega),gl _ (by omega)]
   exact h.ord j hj0 (by omega)
  ·simp only [List.length_append,List.length_cons,List.length_nil] at hj
   omega
 have e:H.pushF x=Hp.upS (H.items.length+1) { H with items:=H.items++[x],at_:=H.at_.set x.toNat H.items.length } H.items.length:=by
  unfold Hp.pushF
  rw [upF_upS x _ _ _ (by simp) (by omega) (by rw [hput];exact hK),hput]
 obtain ⟨r1,r2,r3,r4,r5,r6⟩:=upS_ok (H.items.length+1) _ H.items.length (by simp) (by omega) hK hO
 rw [←e] at r1 r2 r3 r4 r5 r6
 refine ⟨⟨r1,r2,?_,?_⟩,r3,by rw [r4];simp,by rw [r5];simp,fun y=>(r6 y).trans (by simp)⟩
 ·rw [r5,r3];simp [h.same]
 ·rw [r3];exact h.sc0
theorem take_get (l:List Int) {n j:Nat} (h:j<n):(l.take n)[j]! =l[j]! :=by
 simp only [List.getElem!_eq_getElem?_getD,List.getElem?_take]
 rw [if_pos h]
theorem HI.pop {H:Hp} (h:HI H) (h0:0<H.items.length):
  HI H.popF∧H.popF.score=H.score∧H.popF.items.length=H.items.length-1∧H.popF.at_.length=H.at_.length∧∀y:Int,y∈H.popF.items↔y∈H.items∧y≠H.it 0:=by
 obtain ⟨n,hn⟩:∃n,H.items.length=n+1:=⟨H.items.length-1,by omega⟩
 have er:H.it 0=H.items[0]! :=it_nat H 0
 have el:H.it (n:Int)=H.items[n]! :=it_nat H n
 have r0:=h.pc.rng 0 h0
 have rn:=h.pc.rng n (by omega)
 have tl:(H.items.take n).length=n:=by simp;omega
 by_cases hz:n=0
 ·subst hz
  have e:H.popF={ H with items:=H.items.take 0,at_:=H.at_.set (H.items[0]!).toNat (-1) }:=by
   unfold Hp.popF
   rw [hn,er]
   simp
  rw [e]
  refine ⟨⟨⟨fun j hj=> ?_,fun j hj=> ?_,fun y hy hy0=> ?_⟩,fun j _ hj=> ?_,by simpa using h.same,h.sc0⟩,rfl,by simp [hn],by simp,fun y=> ?_⟩
  ·simp at hj
  ·simp at hj
  ·exfalso
   simp only [List.length_set] at hy
   have hy1:0≤(H.at_.set (H.items[0]!).toNat (-1))[y]! :=hy0
   by_cases e1:(H.items[0]!).toNat=y
   ·subst e1;rw [set_same _ (by omega)] at hy1;omega
   ·rw [set_ne _ e1] at hy1
    obtain ⟨k1,k2⟩:=h.pc.inv y hy hy1
    have e2:(H.at_[y]!).toNat=0:=by omega
    rw [e2] at k2
    omega
  ·simp at hj
  ·constructor
   ·intro hy;simp at hy
   ·rintro ⟨hy,hne⟩
    exfalso
    obtain ⟨j,hj,rfl⟩:=List.mem_iff_getElem.1 hy
    obtain rfl :j=0:=by omega
    apply hne
    rw [er];simp [hj]
 ·have ne0n:H.items[0]! ≠H.items[n]! :=fun e=>hz (h.pc.inj h0 (by omega) e).symm
  --the heap with its last one at the root
  obtain ⟨V,hV⟩:∃V:Hp,V=Hp.put { H with items:=H.items.take n,at_:=H.at_.set (H.items[0]!).toNat (-1) } ((0:Nat):Int) H.items[n]! :=⟨_,rfl⟩
  have vi:V.items=(H.items.take n).set 0 H.items[n]! :=by rw [hV];rfl
  have va:V.at_=(H.at_.set (H.items[0]!).toNat (-1)).set (H.items[n]!).toNat 0:=by rw [hV];rfl
  have vs:V.score=H.score:=by rw [hV];rfl
  have vl:V.items.length=n:=by rw [vi,List.length_set,tl]
  have val:V.at_.length=H.at_.length:=by rw [va];simp
  have v0:V.items[0]! =H.items[n]! :=by rw [vi];exact set_same _ (by omega)
  have vj:∀j:Nat,0<j→j<n→V.items[j]! =H.items[j]! :=fun j hj0 hj=>by rw [vi,set_ne _ (by omega),take_get _ hj]
  have vat:∀y:Nat,V.at_[y]! =if y=(H.items[n]!).toNat then 0 else if y=(H.items[0]!).toNat then -1 else H.at_[y]! :=by
   intro y
   rw [va]
   by_cases e1:y=(H.items[n]!).toNat
   ·subst e1;rw [if_pos rfl,set_same _ (by simp only [List.length_set];omega)]
   ·rw [if_neg e1,set_ne _ (fun e=>e1 e.symm)]
    by_cases e2:y=(H.items[0]!).toNat
    ·subst e2;rw [if_pos rfl,set_same _ (by omega)]
    ·rw [if_neg e2,set_ne _ (fun e=>e2 e.symm)]
  have hP:PC V:=by
   refine ⟨fun j hj=> ?_,fun j hj=> ?_,fun y hy hy0=> ?_⟩
   ·rw [vl] at hj
    rw [val]
    by_cases e:j=0
    ·subst e;rw [v0];exact rn
    ·rw [vj j (by omega) hj];exact h.pc.rng j (by omega)
   ·rw [vl] at hj
    by_cases e:j=0
    ·subst e;rw [v0,vat,if_pos rfl];rfl
    ·rw [vj j (by omega) hj,vat]
     have rj:=h.pc.rng j (by omega)
     have n1:H.items[j]! ≠H.items[n]! :=fun e'=>by have :=h.pc.inj (by omega) (by omega) e';omega
     have n2:H.items[j]! ≠H.items[0]! :=fun e'=>e (h.pc.inj (by omega) h0 e')
     rw [if_neg (by omega),if_neg (by omega)]
     exact h.pc.pos j (by omega)
   ·rw [val] at hy
    rw [vat] at hy0⊢
    rw [vl]
    by_cases e1:y=(H.items[n]!).toNat
    ·rw [if_pos e1]
     show (0:Nat)<n∧V.items[0]! =y
     rw [v0];omega
    ·by_cases e2:y=(H.items[0]!).toNat
     ·rw [if_neg e1,if_pos e2] at hy0;omega
     ·rw [if_neg e1,if_neg e2] at hy0⊢
      obtain ⟨k1,k2⟩:=h.pc.inv y hy hy0
      have k3:(H.at_[y]!).toNat≠n:=fun e=>by rw [e] at k2;omega
      have k4:(H.at_[y]!).toNat≠0:=fun e=>by rw [e] at k2;omega
      rw [vj _ (by omega) (by omega)]
      exact ⟨by omega,k2⟩
  have hO:OrdD V 0:=by
   refine ⟨fun j hj0 hj hp=> ?_,fun j hj0 hj hp hi=>by omega⟩
   rw [vl] at hj
   rw [ahead_score vs,vj j hj0 hj,vj _ (by omega) (by omega)]
   exact h.ord j hj0 (by omega)
  have e:H.popF=Hp.downS n V 0:=by
   have hi:(H.it (n:Int))=H.items[n]! :=el
   unfold Hp.popF
   rw [hn,er]
   simp only [Nat.add_sub_cancel]
   rw [if_neg hz,hi]
   have hp:=downF_downS H.items[n]! n (Hp.put { H with items:=H.items.take n,at_:=H.at_.set (H.items[0]!).toNat (-1) } 0 H.items[n]!) 0 (by rw [Hp.put_items,tl];omega)
   have pp:((Hp.put { H with items:=H.items.take n,at_:=H.at_.set (H.items[0]!).toNat (-1) } 0 H.items[n]!).put ((0:Nat):Int) H.items[n]!)=V:=by
    rw [hV]
    simp only [Hp.put,Int.toNat_natCast,Int.toNat_zero,List.set_set]
   rw [pp] at hp
   exact hp hP
  obtain ⟨s1,s2,s3,s4,s5,s6⟩:=downS_ok n V 0 (by omega) (by omega) hP hO
  rw [←e] at s1 s2 s3 s4 s5 s6
  refine ⟨⟨s1,s2,by rw [s5,val,s3,vs];exact h.same,by rw [s3,vs];exact h.sc0⟩,by rw [s3,vs],by rw [s4,vl,hn];omega,by rw [s5,val],fun y=>(s6 y).trans ?_⟩
  rw [er]
  constructor
  ·intro hy
   obtain ⟨j,hj,rfl⟩:=List.mem_iff_getElem.1 hy
   have e0:V.items[j]=V.items[j]! :=by simp [hj]
   rw [e0]
   rw [vl] at hj
   by_cases e:j=0
   ·subst e;rw [v0];exact ⟨upS_ok.mem_get (by omega),fun e=>ne0n e.symm⟩
   ·rw [vj j (by omega) hj];exact ⟨upS_ok.mem_get (by omega),fun e'=>e (h.pc.inj (by omega) h0 e')⟩
  ·rintro ⟨hy,hne⟩
   obtain ⟨j,hj,rfl⟩:=List.mem_iff_getElem.1 hy
   have e0:H.items[j]=H.items[j]! :=by simp [hj]
   rw [e0] at hne⊢
   by_cases e1:j=0
   ·subst e1;exact absurd rfl hne
   ·by_cases e2:j=n
    ·subst e2;rw [←v0];exact upS_ok.mem_get (by omega)
    ·rw [←vj j (by omega) (by omega)];exact upS_ok.mem_get (by omega)
theorem HI.raise {H:Hp} (h:HI H) {x b:Int} (hb:H.isB x=true) (hb0:0≤b) (hb1:b≤1099511627776) (hb2:H.sc x≤1125899906842624-b):
  HI (H.raiseF x b)∧(H.raiseF x b).score=H.score.set x.toNat (H.sc x+b)∧(H.raiseF x b).items.length=H.items.length∧(H.raiseF x b).at_.length=H.at_.length∧∀y:Int,y∈(H.raiseF x b).items↔y∈H.items:=by
 obtain ⟨h0,h1⟩:=Hp.isB_true hb
 have hs:=h.same
 have hx:x.toNat<H.score.length:=by omega
 obtain ⟨K,hK⟩:∃K:Hp,K={ H with score:=H.score.set x.toNat (H.sc x+b) }:=⟨_,rfl⟩
 have ki:K.items=H.items:=by rw [hK]
 have ka:K.at_=H.at_:=by rw [hK]
 have ks:K.score=H.score.set x.toNat (H.sc x+b):=by rw [hK]
 have kx:K.sc x=H.sc x+b:=by unfold Hp.sc;rw [ks];exact set_same _ hx
 have ky:∀y:Int,0≤y→y≠x→K.sc y=H.sc y:=fun y hy hne=>by unfold Hp.sc;rw [ks];exact set_ne _ (by omega)
 have kP:PC K:=⟨fun j hj=>by rw [ki,ka];rw [ki] at hj;exact h.pc.rng j hj,fun j hj=>by rw [ki,ka];rw [ki] at hj;exact h.pc.pos j hj,fun y hy hy0=>by rw [ki,ka];rw [ka] at hy hy0;exact h.pc.inv y hy hy0⟩
 have k0:∀y:Nat,y<K.score.length→0≤K.score[y]! :=by
  intro y hy
  rw [ks] at hy⊢
  rw [List.length_set] at hy
  by_cases e:x.toNat=y
  ·subst e
   rw [set_same _ hx]
   have :0≤H.sc x:=h.sc0 _ hx
   omega
  ·rw [set_ne _ e];exact h.sc0 y hy
 have kl:K.at_.length=K.score.length:=by rw [ka,ks,List.length_set];exact hs
 --of two that are not x nothing has changed;nobody is ahead of x who was not
 have far:∀y z:Int,0≤y→0≤z→y≠x→z≠x→H.aheadB y z=false→K.aheadB y z=false:=by
  intro y z hy hz hyx hzx hh
  cases hc:K.aheadB y z with
  |false=>rfl
  |true=>
   rw [ahead_def,ky y hy hyx,ky z hz hzx] at hc
   have :H.aheadB y z=true:=ahead_def.2 hc
   rw [this] at hh;cases hh
 have below:∀y:Int,0≤y→y≠x→H.aheadB y x=false→K.aheadB y x=false:=by
  intro y hy hyx hh
  cases hc:K.aheadB y x with
  |false=>rfl
  |true=>
   rw [ahead_def,ky y hy hyx,kx] at hc
   have :H.aheadB y x=true:=ahead_def.2 (by omega)
   rw [this] at hh;cases hh
 have e0:H.raiseF x b=if 0≤H.pl x then Hp.upF (K.it (H.pl x)) ((H.pl x).toNat+1) K (H.pl x).toNat else K:=by
  unfold Hp.raiseF
  rw [if_pos ⟨hb,hb0,hb1,hb2⟩,hK]
 by_cases hp:0≤H.pl x
 ·rw [if_pos hp] at e0
  obtain ⟨q1,q2⟩:=h.pc.inv x.toNat (by omega) hp
  have ex:((x.toNat:Nat):Int)=x:=by omega
  rw [ex] at q2
  have q1':(H.pl x).toNat<K.items.length:=by rw [ki];exact q1
  have q2':H.items[(H.pl x).toNat]! =x:=q2
  have e1:K.it (H.pl x)=K.items[(H.pl x).toNat]! :=rfl
  have e2:H.raiseF x b=Hp.upS ((H.pl x).toNat+1) K (H.pl x).toNat:=by
   rw [e0,e1,upF_upS _ _ _ _ q1' (by omega) (by rw [put_self kP q1'];exact kP),put_self kP q1']
  have hne:∀j:Nat,j<H.items.length→j≠(H.pl x).toNat→H.items[j]! ≠x:=fun j hj hji e=>hji (h.pc.inj hj q1 (by rw [e,q2']))
  have hO:OrdU K (H.pl x).toNat:=by
   refine ⟨fun j hj0 hj hji=> ?_,fun j hj0 hj hpj hi0=> ?_⟩
   ·rw [ki] at hj⊢
    have r:=h.pc.rng j hj
    have rp:=h.pc.rng ((j-1)/2) (by omega)
    have ho:=h.ord j hj0 hj
    by_cases e:(j-1)/2=(H.pl x).toNat
    ·rw [e,q2'] at ho⊢
     exact below _ r.1 (hne j hj hji) ho
    ·exact far _ _ r.1 rp.1 (hne j hj hji) (hne _ (by omega) e) ho
   ·rw [ki] at hj⊢
    have r:=h.pc.rng j hj
    have rp:=h.pc.rng (((H.pl x).toNat-1)/2) (by omega)
    have ho:=h.ord j hj0 hj
    rw [hpj] at ho
    have ho2:=h.ord (H.pl x).toNat hi0 q1
    exact far _ _ r.1 rp.1 (hne j hj (by omega)) (hne _ (by omega) (by omega)) (not_ahead_trans ho ho2)
  obtain ⟨s1,s2,s3,s4,s5,s6⟩:=upS_ok ((H.pl x).toNat+1) K (H.pl x).toNat q1' (by omega) kP hO
  rw [←e2] at s1 s2 s3 s4 s5 s6
  exact ⟨⟨s1,s2,by rw [s5,s3];exact kl,by rw [s3];exact k0⟩,by rw [s3,ks],by rw [s4,ki],by rw [s5,ka],fun y=>by rw [s6 y,ki]⟩
 ·rw [if_neg hp] at e0
  rw [e0]
  have hne:∀j:Nat,j<H.items.length→H.items[j]! ≠x:=by
   intro j hj e
   have :=h.pc.pos j hj
   rw [e] at this
   apply hp
   unfold Hp.pl
   rw [this];omega
  refine ⟨⟨kP,fun j hj0 hj=> ?_,kl,k0⟩,ks,by rw [ki],by rw [ka],fun y=>by rw [ki]⟩
  rw [ki] at hj⊢
  exact far _ _ (h.pc.rng j hj).1 (h.pc.rng ((j-1)/2) (by omega)).1 (hne j hj) (hne _ (by omega)) (h.ord j hj0 hj)
theorem app_get {l r:List Int} {j:Nat} (h:j<l.length):(l++r)[j]! =l[j]! :=by simp [List.getElem!_eq_getElem?_getD,List.getElem?_append_left h]
theorem app_rep {l:List Int} {m j:Nat} {x:Int} (h:l.length≤j) (h2:j<l.length+m):(l++List.replicate m x)[j]! =x:=by
 rw [List.getElem!_eq_getElem?_getD,List.getElem?_append_right h,List.getElem?_replicate,if_pos (by omega)];rfl
theorem HI.grow {H:Hp} (h:HI H) (m:Nat):HI (H.growBy m):=by
 have hs:=h.same
 have hsc:∀y:Int,0≤y→y<H.at_.length→(H.growBy m).sc y=H.sc y:=fun y h0 h1=>app_get (by omega)
 refine ⟨⟨fun j hj=> ?_,fun j hj=> ?_,fun y hy hy0=> ?_⟩,fun j hj0 hj=> ?_,?_,fun y hy=> ?_⟩
 ·have :=h.pc.rng j hj
  show 0≤H.items[j]! ∧H.items[j]! <((H.at_++List.replicate m (-1)).length:Int)
  rw [List.length_append];omega
 ·have r:=h.pc.rng j hj
  show (H.at_++List.replicate m (-1))[(H.items[j]!).toNat]! =j
  rw [app_get (by omega)]
  exact h.pc.pos j hj
 ·have hy1:0≤(H.at_++List.replicate m (-1))[y]! :=hy0
  have hy2:y<(H.at_++List.replicate m (-1)).length:=hy
  rw [List.length_append,List.length_replicate] at hy2
  show ((H.at_++List.replicate m (-1))[y]!).toNat<H.items.length∧H.items[((H.at_++List.replicate m (-1))[y]!).toNat]! =y
  by_cases e:y<H.at_.length
  ·rw [app_get e] at hy1⊢;exact h.pc.inv y e hy1
  ·rw [app_rep (by omega) hy2] at hy1;omega
 ·have r:=h.pc.rng j hj
  have hj':j<H.items.length:=hj
  have rp:=h.pc.rng ((j-1)/2) (by omega)
  have ho:=h.ord j hj0 hj
  show (H.growBy m).aheadB H.items[j]! H.items[(j-1)/2]! =false
  cases hc:(H.growBy m).aheadB H.items[j]! H.items[(j-1)/2]! with
  |false=>rfl
  |true=>
   rw [ahead_def,hsc _ r.1 r.2,hsc _ rp.1 rp.2] at hc
   have :=ahead_def.2 hc
   rw [this] at ho;cases ho
 ·show (H.at_++List.replicate m (-1)).length=(H.score++List.replicate m 0).length
  simp [hs]
 ·have hy2:y<(H.score++List.replicate m 0).length:=hy
  rw [List.length_append,List.length_replicate] at hy2
  show 0≤(H.score++List.replicate m 0)[y]!
  by_cases e:y<H.score.length
  ·rw [app_get e];exact h.sc0 y e
  ·rw [app_rep (by omega) hy2];omega
theorem HI.none_:HI { items:=[],at_:=[],score:=[] }:=
 ⟨⟨fun j hj=>by simp at hj,fun j hj=>by simp at hj,fun j hj=>by simp at hj⟩,fun j _ hj=>by simp at hj,rfl,fun j hj=>by simp at hj⟩
structure Rc where
 lits:List Int
 lrn:Bool
 act:Int
instance:Inhabited Rc:=⟨⟨[],false,0⟩⟩
structure Sv where
 T:Tr
 H:Hp
 vars:Nat
 list:List Rc
 watch:List (List Nat)
 phase:List Bool
 model:List Bool
 core:List Int
 head:Nat
 used:Nat
 bump:Nat
 many:Int
 limit:Nat
 bad:Bool
 has:Bool
def lcode (l:Int):Nat:=if l<0 then (-2*l+1).toNat else (2*l).toNat
def swp2 (l:List Int) (i j:Nat):List Int:=(l.set i l[j]!).set j l[i]!
namespace Sv
def val (S:Sv) (l:Int):Int:=S.T.valF l
def rc (S:Sv) (n:Nat):Rc:=S.list[n]!
def wat (S:Sv) (c:Nat):List Nat:=S.watch[c]!
def wset (S:Sv) (c:Nat) (l:List Nat):Sv:={ S with watch:=S.watch.set c l }
def wput (S:Sv) (c n:Nat):Sv:=S.wset c (S.wat c++[n])
def lset (S:Sv) (n:Nat) (l:List Int):Sv:={ S with list:=S.list.set n { S.rc n with lits:=l } }
def put (S:Sv) (l r:Int):Sv:={ S with T:=if S.T.putB l=true then S.T.putF l r else S.T }
def deep (S:Sv):Sv:={ S with T:=S.T.deepF }
def attach (S:Sv) (l:List Int) (b:Bool):Sv:=
 (({ S with list:=S.list++[⟨l,b,S.used⟩] }:Sv).wput (lcode l[0]!) S.list.length).wput (lcode l[1]!) S.list.length
def findK (S:Sv) (l:List Int):Nat→Nat→Option Nat
 |0,_=>none
 |f+1,k=>if k<l.length then (if 0≤S.val l[k]! then some k else findK S l f (k+1)) else none
def movedTo (S:Sv) (n:Nat) (l:List Int):Option Nat→Sv×Bool
 |some k=>((S.lset n (swp2 l 1 k)).wput (lcode l[k]!) n,true)
 |none=>(S,false)
def movedF (S:Sv) (n:Nat):Sv×Bool:=S.movedTo n (S.rc n).lits (S.findK (S.rc n).lits (S.rc n).lits.length 2)
def turned (S:Sv) (n:Nat) (off:Int):Sv:=if (S.rc n).lits[0]! =off then S.lset n (swp2 (S.rc n).lits 0 1) else S
def visitT (S:Sv) (n:Nat):Sv×Bool×Bool:=
 let x:=(S.rc n).lits[0]!
 if 0<S.val x then (S,true,true)
 else if (S.movedF n).2=true then ((S.movedF n).1,false,true)
 else if S.val x<0 then (S,true,false)
 else (S.put x (n+1),true,true)
def visitF (S:Sv) (n:Nat) (off:Int):Sv×Bool×Bool:=
 if (S.rc n).lits.length=0 then (S,false,true) else (S.turned n off).visitT n
def visitsF (off:Int):List Nat→List Nat→Sv→Sv×Option Nat
 |[],keep,S=>(S.wset (lcode off) (keep++S.wat (lcode off)),none)
 |n::r,keep,S=>
  let q:=S.visitF n off
  let keep1:=if q.2.1=true then keep++[n] else keep
  if q.2.2=true then visitsF off r keep1 q.1 else (q.1.wset (lcode off) (keep1++r),some n)
def followF:Nat→Sv→Sv×Option Nat
 |0,S=>(S,none)
 |f+1,S=>
  if S.head<S.T.lits.length then
   let off:= -(S.T.lits[S.head]!)
   let q:=visitsF off (S.wat (lcode off)) [] (S.wset (lcode off) [])
   match q.2 with
   |some n=>(q.1,some n)
   |none=>followF f { q.1 with head:=q.1.head+1 }
  else (S,none)
def follow (S:Sv):Sv×Option Nat:=followF (S.vars+1) S
def pushC (H:Hp) (x:Int):Hp:=if H.isB x=true∧H.pl x<0 then H.pushF x else H
def raiseC (H:Hp) (x b:Int):Hp:=if H.isB x=true∧0≤b∧b≤1099511627776∧H.sc x≤1125899906842624-b then H.raiseF x b else H
def backL (level:Int):List Int→Sv→Sv
 |[],S=>S
 |l::r,S=>if S.T.levB (tv l)≤level then S else backL level r { S with phase:=S.phase.set (tv l).toNat (decide (0<l)),H:=pushC S.H (tv l) }
def back (S:Sv) (level:Nat):Sv:=
 if S.T.levels.length≤level then S
 else
  let q:=backL level S.T.lits.reverse S
  { q with T:=q.T.backF level,head:=min q.head (q.T.backF level).lits.length }
structure Gr where
 S:Sv
 seen:List Int
 opn:Int
 learn:List Int
def meet (G:Gr) (l:Int):Gr:=
 let v:=tv l
 if v∈G.seen∨G.S.T.levB v≤0 then G
 else
  let S1:Sv:={ G.S with H:=raiseC G.S.H v G.S.bump }
  if S1.T.levB v=S1.T.levels.length then { G with S:=S1,seen:=v::G.seen,opn:=G.opn+1 }
  else { G with S:=S1,seen:=v::G.seen,learn:=G.learn++[l] }
def meets (skip:Int):List Int→Gr→Gr
 |[],G=>G
 |l::r,G=>meets skip r (if l≠skip then meet G l else G)
def acted (S:Sv) (n:Nat):Sv:={ S with list:=S.list.set n { S.rc n with act:=S.used } }
def learnL:Nat→Gr→Int→Int→List Int→Option (Gr×Int)
 |0,_,_,_,_=>none
 |f+1,G,n,skip,rest=>
  let G1:=if 0≤n then meets skip (G.S.rc n.toNat).lits { G with S:=G.S.acted n.toNat } else G
  match rest.dropWhile (fun x=>decide (tv x∉G1.seen)) with
  |[]=>none
  |x::r=>
   let G2:={ G1 with opn:=G1.opn-1 }
   if G2.opn=0 then some (G2,x) else learnL f G2 (G2.S.T.reaB (tv x)-1) x r
def second (T:Tr):Nat→Nat→List Int→Int→List Int×Int
 |0,_,l,lev=>(l,lev)
 |f+1,k,l,lev=>if k<l.length then (if lev<T.levB (tv l[k]!) then second T f (k+1) (swp2 l 1 k) (T.levB (tv l[k]!)) else second T f (k+1) l lev) else (l,lev)
def learned (S:Sv) (n:Nat):Option (Sv×List Int×Int):=
 match learnL (S.T.lits.length+1) ⟨S,[],0,[0]⟩ n 0 S.T.lits.reverse with
 |none=>none
 |some (G,x)=>
  let l:=G.learn.set 0 (-x)
  let q:=second G.S.T l.length 1 l 0
  some (G.S,q.1,q.2)
def bumped (S:Sv):Sv:={ S with bump:=min (S.bump+S.bump/16+1) 1073741824 }
def learnt (S:Sv) (l:List Int):Sv:=
 if l.length=1 then S.put l[0]! 0
 else { ((S.attach l true).put l[0]! (S.list.length+1)) with many:=S.many+1 }
def conflict (S:Sv) (n:Nat):Option (Sv×Bool):=
 if S.T.levels.length=0 then some ({ S with bad:=true },false)
 else
  match S.learned n with
  |none=>none
  |some (S1,l,level)=>some (((S1.back level.toNat).learnt l).bumped,true)
def locked (S:Sv) (n:Nat):Bool:=decide (0<S.val (S.rc n).lits[0]!)&&decide (S.T.reaB (tv (S.rc n).lits[0]!)=n+1)
def worn (S:Sv):List Nat:=(List.range S.list.length).filter fun n=>(S.rc n).lrn&&decide (2<(S.rc n).lits.length)&& !S.locked n
def drop1 (S:Sv) (n:Nat):Sv:={ S with list:=S.list.set n ⟨[],false,(S.rc n).act⟩,many:=S.many-1 }
def blameL (S:Sv):List Int→List Int→List Int→List Int
 |[],_,met=>met
 |l::r,g,met=>
  if tv l∉g∨S.T.levB (tv l)=0 then blameL S r g met
  else if S.T.reaB (tv l)-1<0 then blameL S r g (l::met)
  else blameL S r ((S.rc (S.T.reaB (tv l)-1).toNat).lits.map tv++g) met
def coreL (met:List Int):List Int→List Int→List Int
 |[],core=>core
 |x::r,core=>coreL met r (if x∈met∧x∉core then core++[x] else core)
def blame (S:Sv) (a:Int) (assume:List Int):Sv:={ S with core:=coreL (blameL S S.T.lits.reverse [tv a] [a]) assume S.core }
def pickF:Nat→Sv→Sv×Int
 |0,S=>(S,0)
 |f+1,S=>
  if S.H.items.length=0 then (S,0)
  else
   let v:=S.H.it 0
   let S1:Sv:={ S with H:=S.H.popF }
   if S1.val v≠0 then pickF f S1 else (S1,if S1.phase[v.toNat]! =true then v else -v)
def pick (S:Sv):Sv×Int:=pickF (S.H.items.length+1) S
def keep (S:Sv):Sv:={ S with model:=(List.range (S.vars+1)).map fun v:Nat=>decide (0<S.val (v:Int)),has:=true }
def choose (S:Sv):Sv×Int:=if S.pick.2=0 then (S.pick.1.keep,1) else (S.pick.1.deep.put S.pick.2 0,0)
def decideF (assume:List Int):Nat→Sv→Sv×Int
 |0,S=>S.choose
 |f+1,S=>
  if S.T.levels.length<assume.length then
   let a:=assume[S.T.levels.length]!
   if S.val a= -1 then (S.blame a assume,2)
   else if S.val a=0 then (S.deep.put a 0,0)
   else decideF assume f S.deep
  else S.choose
def decide_ (S:Sv) (assume:List Int):Sv×Int:=decideF assume (assume.length+1) S
def rested (S:Sv) (n next :Nat):Sv:=if next ≤n then S.back 0 else S
def pushes:Nat→Int→Hp→Hp
 |0,_,H=>H
 |n+1,v,H=>pushes n (v+1) (pushC H v)
def grow (S:Sv) (n:Nat):Sv:=
 { S with T:=S.T.growF n,H:=pushes n (S.vars+1) (S.H.growF n),phase:=S.phase++List.replicate n false,watch:=S.watch++List.replicate (2*n) [],vars:=S.vars+n }
def bare:Sv:={ T:=Tr.fresh.growF 0,H:=Hp.none_.growF 1,vars:=0,list:=[],watch:=[[],[]],phase:=[false],model:=[],core:=[],head:=0,used:=0,bump:=1,many:=0,limit:=400,bad:=false,has:=false }
def new (vars:Int):Sv:=bare.grow (min (max vars 0) 262143).toNat
end Sv
end Go.Proofs.YtjmmpfjcpdepjaaGreatDoor
