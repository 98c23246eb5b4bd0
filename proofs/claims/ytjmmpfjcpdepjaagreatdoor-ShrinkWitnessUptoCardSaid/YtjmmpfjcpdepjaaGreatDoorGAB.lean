/- Parts of a proof. -/
import Derived.Test.YtjmmpfjcpdepjaaGreatDoorGAA
import Derived.Deep.LoopGhost
import Derived.BigRegion
import Derived.Deep.RegionHeld3
set_option linter.unusedVariables false
set_option linter.unusedSimpArgs false
set_option maxHeartbeats 4000000
set_option maxRecDepth 100000
namespace Go.Proofs.YtjmmpfjcpdepjaaGreatDoor
open Go.RowKit
theorem HpAt.newBoth {w wA wB:World} {L:HpL} {H:Hp} (h:HpAt w L H) {gA cA gB cB:Nat} {xs ys:List Int} (hl:xs.length=ys.length)
  (hA:Ints wA (some ⟨gA,0,none⟩) cA xs) (fA:Fr (blks L.A2) w wA) (qA:gA∈blks L.A2∨w.heap.size≤gA)
  (hB:Ints wB (some ⟨gB,0,none⟩) cB ys) (fB:Fr (blks L.A3) wA wB) (qB:gB∈blks L.A3∨wA.heap.size≤gB):
  HpAt ((wB.setCell ⟨L.a,1,none⟩ (.slice (some ⟨gA,0,none⟩) xs.length cA)).setCell ⟨L.a,2,none⟩ (.slice (some ⟨gB,0,none⟩) ys.length cB))
   { L with A2:=some ⟨gA,0,none⟩,c2:=cA,A3:=some ⟨gB,0,none⟩,c3:=cB } { H with at_:=xs,score:=ys }∧
  Fr L.fp w ((wB.setCell ⟨L.a,1,none⟩ (.slice (some ⟨gA,0,none⟩) xs.length cA)).setCell ⟨L.a,2,none⟩ (.slice (some ⟨gB,0,none⟩) ys.length cB))∧
  L.ext { L with A2:=some ⟨gA,0,none⟩,c2:=cA,A3:=some ⟨gB,0,none⟩,c3:=cB } w:=by
 obtain ⟨h1,h2,h3⟩:=nodup3 h.nodup
 have lA:gA<wA.heap.size:=hA.lt gA (by simp [blks])
 have hs:=fA.size
 have nA:gA≠L.a∧gA∉blks L.A1∧gA∉blks L.A3:=by
  rcases qA with q |q
  ·exact h2 gA q
  ·refine ⟨?_,fun k=> ?_,fun k=> ?_⟩
   ·have :=h.obj.lt;omega
   ·have :=h.items.lt _ k;omega
   ·have :=h.score.lt _ k;omega
 have nB:gB≠L.a∧gB∉blks L.A1∧gB≠gA:=by
  rcases qB with q |q
  ·exact ⟨(h3 gB q).1,(h3 gB q).2.1,fun e=>nA.2.2 (e▸q)⟩
  ·refine ⟨?_,fun k=> ?_,?_⟩
   ·have :=h.obj.lt;omega
   ·have :=h.items.lt _ k;omega
   ·omega
 have bA:blks (some ⟨gA,0,none⟩)=[gA]:=rfl
 have bB:blks (some ⟨gB,0,none⟩)=[gB]:=rfl
 have oB:=fB.at_ (fA.at_ h.obj (fun k=>(h2 _ k).1 rfl)) (fun k=>(h3 _ k).1 rfl)
 have iB:=(h.items.fr fA (fun k hk hk'=>(h1 k hk).2.1 hk')).fr fB (fun k hk hk'=>(h1 k hk).2.2 hk')
 have aB:=hA.fr fB (fun k hk hk'=>nA.2.2 (by rw [bA,List.mem_singleton] at hk;exact hk▸hk'))
 refine ⟨⟨?_,?_,?_,?_,?_,hl⟩,?_,rfl,?_,fun _=>rfl⟩
 ·have :=(oB.set_ 1 (.slice (some ⟨gA,0,none⟩) xs.length cA)).set_ 2 (.slice (some ⟨gB,0,none⟩) ys.length cB)
  simpa using this
 ·exact (iB.far (fun k=>(h1 _ k).1 rfl) _).far (fun k=>(h1 _ k).1 rfl) _
 ·exact (aB.far (by rw [bA];simpa using fun e=>nA.1 e.symm) _).far (by rw [bA];simpa using fun e=>nA.1 e.symm) _
 ·exact (hB.far (by rw [bB];simpa using fun e=>nB.1 e.symm) _).far (by rw [bB];simpa using fun e=>nB.1 e.symm) _
 ·have hn:=h.nodup
  simp only [HpL.fp,List.nodup_cons,List.mem_append,List.nodup_append,bA,bB,List.mem_singleton,List.not_mem_nil,not_false_eq_true,List.nodup_nil,true_and] at hn⊢
  obtain ⟨n1,n2,n3,n4⟩:=hn
  refine ⟨?_,n2,?_,?_⟩
  ·rintro (hk |rfl |rfl)
   ·exact n1 (.inl hk)
   ·exact nA.1 rfl
   ·exact nB.1 rfl
  ·rintro _ rfl _ rfl e
   exact nB.2.2 e.symm
  ·rintro k hk _ (rfl |rfl) rfl
   ·exact nA.2.1 hk
   ·exact nB.2.1 hk
 ·exact ((((fA.mono (T:=L.fp) fun k hk=> .inl (by simp [HpL.fp,hk])).trans fB fun k hk=> .inl (by simp [HpL.fp,hk]))).setCell (.inl (by simp [HpL.fp])) _).setCell (.inl (by simp [HpL.fp])) _
 ·intro k hk
  simp only [HpL.fp,bA,bB,List.mem_cons,List.mem_append,List.not_mem_nil,or_false] at hk⊢
  rcases hk with hk |hk |hk |hk
  ·exact .inl (.inl hk)
  ·exact .inl (.inr (.inl hk))
  ·subst hk
   exact qA.elim (fun q=> .inl (.inr (.inr (.inl q)))) .inr
  ·subst hk
   exact qB.elim (fun q=> .inl (.inr (.inr (.inr q)))) (fun q=> .inr (by omega))
def Hp.growBy (H:Hp) (m:Nat):Hp:={ H with at_:=H.at_++List.replicate m (-1),score:=H.score++List.replicate m 0 }
def Hp.growF (H:Hp) (n:Int):Hp:=H.growBy (growTo H.at_.length n-H.at_.length).toNat
theorem HpL.ext_trans {L M N:HpL} {w w':World} {S:List Nat} (h:L.ext M w) (k:M.ext N w') (hf:Fr S w w'):L.ext N w:=
 ⟨k.1.trans h.1,fun x hx=>(k.2.1 x hx).elim (fun hm=>h.2.1 x hm) (fun hm=> .inr (Nat.le_trans hf.size hm)),fun m=>k.2.2 (h.2.2 m)⟩
theorem grow_one {H:Hp} {j:Nat}:((H.growBy j).at_++[-1]=(H.growBy (j+1)).at_)∧((H.growBy j).score++[0]=(H.growBy (j+1)).score):=by
 constructor<;>simp [Hp.growBy,List.replicate_succ']
theorem heap_grow (w:World) (L:HpL) (H:Hp) (h:HpAt w L H) (hmade:L.A2.isSome=true) (n:Int) (hm:H.at_.length≤262144):
  Calls Tryz.prog 118 #[.pointer (some ⟨L.a,0,none⟩), .int .i64 n] w fun e w'=>e= .returned (.tuple #[])∧∃L',HpAt w' L' (H.growF n)∧L.ext L' w∧Fr L.fp w w':=by
 have o1:=h.obj.cell 1
 simp at o1
 obtain ⟨g2,hg2⟩:∃a,L.A2=some a:=Option.isSome_iff_exists.1 hmade
 rw [hg2] at o1
 have he:∀w:World,(binOp .eql 22 (.slice (some g2) H.at_.length L.c2) (.slice none 0 0)).run Tryz.prog w= .ok (.bool false) w:=fun w=>Lib.run_eql_slice_nil w _ _ _ _ _ _ _ Tryz.underlying22
 obtain ⟨m,hme⟩:∃m:Nat,growTo H.at_.length n=(H.at_.length+m:Nat):=⟨(growTo H.at_.length n-H.at_.length).toNat,by unfold growTo;omega⟩
 have hm2:H.at_.length+m≤262144:=by have :=hme;unfold growTo at this;omega
 have hgf:H.growF n=H.growBy m:=by unfold Hp.growF;rw [hme];congr 1;omega
 rw [hgf]
 have HM:=Lib.hid hme
 have HH:=Lib.hid h
 have HS:=Lib.hid h.same
 have hm3:((H.at_.length+m:Nat):Int)≤262144:=by omega
 clear hme h hg2 hgf
 go_enter Tryz.func118,Tryz.ntmps118
 go_wp2_with fail
 refine (heap_size _ _ n (by omega) (by omega)).mono ?_
 rintro e w1 ⟨rfl,rfl⟩
 rw [HM.out]
 clear o1 he
 go_wp2_with fail
 go_loopg [] m (fun gk wr=>∃(j:Nat) (M:HpL),j+gk=m∧HpAt wr M (H.growBy j)∧L.ext M w∧Fr L.fp w wr)
 case atStart=>exact ⟨0,L,Nat.zero_add _,by simpa [Hp.growBy] using HH.out,⟨rfl,fun k hk=> .inl hk,id⟩,Fr.refl _ _⟩
 case round=>
  obtain ⟨j,M,hj,hK,hE,hfr⟩:=hrel
  have ha:M.a=L.a:=hE.1
  have c1:=hK.obj.cell 1
  have c2:=hK.obj.cell 2
  have l1:(H.growBy j).at_.length=H.at_.length+j:=by simp [Hp.growBy]
  have l2:(H.growBy j).score.length=H.at_.length+j:=by rw [←hK.same,l1]
  rw [ha] at c1 c2
  simp [l1] at c1
  simp [l2] at c2
  have HK:=Lib.hid hK
  have HE:=Lib.hid hE
  have HA:=Lib.hid ha
  have HL1:=Lib.hid l1
  have HL2:=Lib.hid l2
  have HJ:=Lib.hid hj
  clear hK hE ha l1 l2
  by_cases hjm:j<m
  ·have t1:((H.at_.length+j:Nat):Int)<((H.at_.length+m:Nat):Int):=by omega
   have t2:(H.at_.length:Int)+j<(H.at_.length:Int)+m:=by omega
   have ho:At wr L.a 155 #[.slice M.A1 (H.growBy j).items.length M.c1, .slice M.A2 (H.at_.length+j) M.c2, .slice M.A3 (H.at_.length+j) M.c3]:=by
    have :=HK.out.obj
    rw [HA.out,HL1.out,HL2.out] at this
    exact this
   have HO:=Lib.hid ho
   have HN2:Hid (L.a∉blks M.A2):=fun hk=>((nodup3 HK.out.nodup).2.1 _ hk).1 HA.out.symm
   have HN3:Hid (L.a∉blks M.A3):=fun hk=>((nodup3 HK.out.nodup).2.2 _ hk).1 HA.out.symm
   have HD:Hid (∀k,k∈blks M.A3→k∉blks M.A2):=fun k hk hk'=>((nodup3 HK.out.nodup).2.2 k hk).2.2 hk'
   have HT2:Hid (∀k,k∈blks M.A2→k<wr.heap.size):=HK.out.at_.lt
   have HL3:Hid ((H.growBy (j+1)).at_.length=H.at_.length+j+1):=by show _=_;simp [Hp.growBy];omega
   have HL4:Hid ((H.growBy (j+1)).score.length=H.at_.length+j+1):=by show _=_;have :=HS.out;simp [Hp.growBy];omega
   have HC1:Hid (At ((wr.drew.alloc (.cells #[.int .i64 (-1)] 3)).alloc (.cells #[.int .i64 0] 3)) (wr.heap.size+1) 3 #[.int .i64 0]):=by
    have :=At.new (wr.drew.alloc (.cells #[.int .i64 (-1)] 3)) 3 #[.int .i64 0]
    rwa [show (wr.drew.alloc (.cells #[.int .i64 (-1)] 3)).heap.size=wr.heap.size+1 from by simp] at this
   have HC2:Hid (At ((wr.drew.alloc (.cells #[.int .i64 0] 3)).alloc (.cells #[.int .i64 (-1)] 3)) wr.heap.size 3 #[.int .i64 0]):=(At.new wr.drew _ _).alloc _
   clear hj ho
   go_wp2_with fail
   refine wp_region_noPanic ?_
   refine wp_region_C (fun w':World=>At w' L.a 155 #[.slice M.A1 (H.growBy j).items.length M.c1, .slice M.A2 (H.at_.length+j) M.c2, .slice M.A3 (H.at_.length+j) M.c3]) 16 (by kernel_rfl) (HO.out.drew) (fun hT0=> ?_)
   apply TB 10 [(0,[]),(1,[]),(2,[]),(3,[]),(4,[]),(5,[5,16]),(8,[]),(9,[]),(10,[]),(11,[11,16])];kernel_rfl;rfl;· (repeat (apply TBc;rfl;rfl;(· intro w hSw;(try (have hSw:=hSw.resolve_left (List.cons_ne_nil _ _);(have s1:=hSw.cell 1;have s2:=hSw.cell 2;simp at s1 s2)));go_simp<;>with_reducible rfl);try simp only [Act.put,q5,q6,q7]));exact TBn
   exact hT0;intro hT0
   have hSx:=hT0.resolve_left (by decide)
   refine wpAnyC_ready (rs:=[6,12]) (by kernel_rfl) (by simp) ?_
   refine ReadyC.cons (o:= ?or3u11) ?hor3u11 ?hstepr3u11 ?_
   case hor3u11=>rfl
   case hstepr3u11=>
    intro K hK
    go_simp
    refine hK.out _ _ (.inr ?_) (fun hT11=> ?_)
    ·first |exact hSx.alloc _ |exact hfA.at_ hSx HN2.out |exact hfB.at_ hSx HN3.out
    clear hK K
    try simp only [Act.put,q5,q6,q7]
    have hSx:=hT11.resolve_left (by decide)
    refine wpAnyC_ready (rs:=[7,12]) (by kernel_rfl) (by simp) ?_
    refine ReadyC.cons (o:= ?or3u12) ?hor3u12 ?hstepr3u12 ?_
    case hor3u12=>rfl
    case hstepr3u12=>
     intro K hK
     (refine step_append_int rfl _ _ rfl M.A2 M.c2 (H.growBy j).at_ _ rfl HL1.out.symm ?hownr3u12 _ 1 (-1) rfl ?hcellr3u12 (by rw [HL1.out];omega) ?_;(case hownr3u12=>first |exact HK.out.at_.drew.alloc _ |exact (HK.out.at_.drew.alloc _).alloc _);(case hcellr3u12=>simp);intro gA cA wA hiA hfA hgA hsA)
     refine hK.out _ _ (.inr ?_) (fun hT12=> ?_)
     ·first |exact hSx.alloc _ |exact hfA.at_ hSx HN2.out |exact hfB.at_ hSx HN3.out
     clear hK K
     try simp only [Act.put,q5,q6,q7]
     refine R2 12 (by kernel_rfl) (by rfl) hT12 fun K hK hSx=> ?_
     go_simp
     refine hK.out _ _ (.inr ?_) (fun hT13=> ?_)
     ·first |exact hSx.alloc _ |exact hfA.at_ hSx HN2.out |exact hfB.at_ hSx HN3.out
     clear hK K
     try simp only [Act.put,q5,q6,q7]
     refine R2 13 (by kernel_rfl) (by rfl) hT13 fun K hK hSx=> ?_
     (refine step_append_int rfl _ _ rfl M.A3 M.c3 (H.growBy j).score _ rfl HL2.out.symm ?hownr3u14 _ 1 0 rfl ?hcellr3u14 (by rw [HL2.out];omega) ?_;(case hownr3u14=>first |exact ((HK.out.score.drew.alloc _).fr hfA HD.out).alloc _ |exact ((HK.out.score.drew.alloc _).alloc _).fr hfA HD.out);(case hcellr3u14=>first | (simp;done) |exact (hfA.at_ HC1.out (fun hk=>absurd (HT2.out _ hk) (by omega))).cell 0 |exact (hfA.at_ HC2.out (fun hk=>absurd (HT2.out _ hk) (by omega))).cell 0);intro gB cB wB hiB hfB hgB hsB)
     refine hK.out _ _ (.inr ?_) (fun hT14=> ?_)
     ·first |exact hSx.alloc _ |exact hfA.at_ hSx HN2.out |exact hfB.at_ hSx HN3.out
     clear hK K
     try simp only [Act.put,q5,q6,q7]
     apply TB 2 [(14,[]),(15,[])];kernel_rfl;rfl;· (repeat (apply TBc;rfl;rfl;(· intro w hSw;go_simp<;>with_reducible rfl);try simp only [Act.put,q5,q6,q7]));exact TBn
     exact hT14;intro hT14
     refine R2 16 (by kernel_rfl) (by rfl) hT14 fun K hK hSx=> ?_
     (have b1:=hSx.cell 1;have b3:=hSx.frozen 1;simp at b1;go_simp)
     refine hK.out _ _ (.inl rfl) (fun hT17=> ?_)
     clear hK K
     try simp only [Act.put,q5,q6,q7]
     apply TB 2 [(17,[]),(18,[])];kernel_rfl;rfl;· (repeat (apply TBc;rfl;rfl;(· intro w hSw;go_simp<;>with_reducible rfl);try simp only [Act.put,q5,q6,q7]));exact TBn
     exact hT17;intro hT17
     refine R1 (i:=19) (o:= ?or3u20) (by kernel_rfl) (by rfl) ?_
     intro K hK
     (have b2:=hSx.cell 2;have b4:=hSx.frozen 2;simp at b2;go_simp)
     refine hK.out _ _ (.inl rfl) (fun hT20=> ?_)
     clear hK K
     try simp only [Act.put,q5,q6,q7]
     refine wpAnyC_done (by kernel_rfl) ?_ _
     refine NoPanic.normal ?_
     have fA:Fr (blks M.A2) wr wA:=by first |exact ((Fr.refl _ wr).drew.alloc _).then_ hfA |exact (((Fr.refl _ wr).drew.alloc _).alloc _).then_ hfA
     have fB:Fr (blks M.A3) wA wB:=by first |exact hfB |exact ((Fr.refl _ wA).alloc _).then_ hfB
     have qA:gA∈blks M.A2∨wr.heap.size≤gA:=hgA.imp id (fun e=>by rw [e];simp <;>omega)
     have qB:gB∈blks M.A3∨wA.heap.size≤gB:=hgB.imp id (fun e=>by rw [e];simp <;>omega)
     obtain ⟨r1,r2,r3⟩:=HpAt.newBoth HK.out (by simp [HL1.out,HL2.out]) hiA fA qA hiB fB qB
     rw [HA.out] at r1 r2 r3
     rw [grow_one.1,grow_one.2,HL3.out,HL4.out] at r1 r2
     have R1:=Lib.hid r1
     have R2:=Lib.hid r2
     have R3:=Lib.hid r3
     clear r1 r2 r3
     go_wp2_with fail
     go_roundg (gk-1)
     case measure=>have :=HJ.out;omega
     case rel=>exact ⟨j+1,_,by have :=HJ.out;omega,R1.out,HpL.ext_trans HE.out R3.out hfr,hfr.trans R2.out HE.out.2.1⟩
    refine ReadyC.cons (o:= ?or3u21) ?hor3u21 ?hstepr3u21 ?_
    case hor3u21=>rfl
    case hstepr3u21=>
     intro K hK
     go_simp
     refine hK.out _ _ (.inr ?_) (fun hT12=> ?_)
     ·first |exact hSx.alloc _ |exact hfA.at_ hSx HN2.out |exact hfB.at_ hSx HN3.out
     clear hK K
     try simp only [Act.put,q5,q6,q7]
     refine R2 7 (by kernel_rfl) (by rfl) hT12 fun K hK hSx=> ?_
     (refine step_append_int rfl _ _ rfl M.A2 M.c2 (H.growBy j).at_ _ rfl HL1.out.symm ?hownr3u22 _ 1 (-1) rfl ?hcellr3u22 (by rw [HL1.out];omega) ?_;(case hownr3u22=>first |exact HK.out.at_.drew.alloc _ |exact (HK.out.at_.drew.alloc _).alloc _);(case hcellr3u22=>simp);intro gA cA wA hiA hfA hgA hsA)
     refine hK.out _ _ (.inr ?_) (fun hT13=> ?_)
     ·first |exact hSx.alloc _ |exact hfA.at_ hSx HN2.out |exact hfB.at_ hSx HN3.out
     clear hK K
     try simp only [Act.put,q5,q6,q7]
     refine R2 13 (by kernel_rfl) (by rfl) hT13 fun K hK hSx=> ?_
     (refine step_append_int rfl _ _ rfl M.A3 M.c3 (H.growBy j).score _ rfl HL2.out.symm ?hownr3u23 _ 1 0 rfl ?hcellr3u23 (by rw [HL2.out];omega) ?_;(case hownr3u23=>first |exact ((HK.out.score.drew.alloc _).fr hfA HD.out).alloc _ |exact ((HK.out.score.drew.alloc _).alloc _).fr hfA HD.out);(case hcellr3u23=>first | (simp;done) |exact (hfA.at_ HC1.out (fun hk=>absurd (HT2.out _ hk) (by omega))).cell 0 |exact (hfA.at_ HC2.out (fun hk=>absurd (HT2.out _ hk) (by omega))).cell 0);intro gB cB wB hiB hfB hgB hsB)
     refine hK.out _ _ (.inr ?_) (fun hT14=> ?_)
     ·first |exact hSx.alloc _ |exact hfA.at_ hSx HN2.out |exact hfB.at_ hSx HN3.out
     clear hK K
     try simp only [Act.put,q5,q6,q7]
     apply TB 2 [(14,[]),(15,[])];kernel_rfl;rfl;· (repeat (apply TBc;rfl;rfl;(· intro w hSw;go_simp<;>with_reducible rfl);try simp only [Act.put,q5,q6,q7]));exact TBn
     exact hT14;intro hT14
     refine R2 16 (by kernel_rfl) (by rfl) hT14 fun K hK hSx=> ?_
     (have b1:=hSx.cell 1;have b3:=hSx.frozen 1;simp at b1;go_simp)
     refine hK.out _ _ (.inl rfl) (fun hT17=> ?_)
     clear hK K
     try simp only [Act.put,q5,q6,q7]
     apply TB 2 [(17,[]),(18,[])];kernel_rfl;rfl;· (repeat (apply TBc;rfl;rfl;(· intro w hSw;go_simp<;>with_reducible rfl);try simp only [Act.put,q5,q6,q7]));exact TBn
     exact hT17;intro hT17
     refine R1 (i:=19) (o:= ?or3u29) (by kernel_rfl) (by rfl) ?_
     intro K hK
     (have b2:=hSx.cell 2;have b4:=hSx.frozen 2;simp at b2;go_simp)
     refine hK.out _ _ (.inl rfl) (fun hT20=> ?_)
     clear hK K
     try simp only [Act.put,q5,q6,q7]
     refine wpAnyC_done (by kernel_rfl) ?_ _
     refine NoPanic.normal ?_
     have fA:Fr (blks M.A2) wr wA:=by first |exact ((Fr.refl _ wr).drew.alloc _).then_ hfA |exact (((Fr.refl _ wr).drew.alloc _).alloc _).then_ hfA
     have fB:Fr (blks M.A3) wA wB:=by first |exact hfB |exact ((Fr.refl _ wA).alloc _).then_ hfB
     have qA:gA∈blks M.A2∨wr.heap.size≤gA:=hgA.imp id (fun e=>by rw [e];simp <;>omega)
     have qB:gB∈blks M.A3∨wA.heap.size≤gB:=hgB.imp id (fun e=>by rw [e];simp <;>omega)
     obtain ⟨r1,r2,r3⟩:=HpAt.newBoth HK.out (by simp [HL1.out,HL2.out]) hiA fA qA hiB fB qB
     rw [HA.out] at r1 r2 r3
     rw [grow_one.1,grow_one.2,HL3.out,HL4.out] at r1 r2
     have R1:=Lib.hid r1
     have R2:=Lib.hid r2
     have R3:=Lib.hid r3
     clear r1 r2 r3
     go_wp2_with fail
     go_roundg (gk-1)
     case measure=>have :=HJ.out;omega
     case rel=>exact ⟨j+1,_,by have :=HJ.out;omega,R1.out,HpL.ext_trans HE.out R3.out hfr,hfr.trans R2.out HE.out.2.1⟩
    exact ReadyC.nil
   refine ReadyC.cons (o:= ?or3u30) ?hor3u30 ?hstepr3u30 ?_
   case hor3u30=>rfl
   case hstepr3u30=>
    intro K hK
    go_simp
    refine hK.out _ _ (.inr ?_) (fun hT11=> ?_)
    ·first |exact hSx.alloc _ |exact hfA.at_ hSx HN2.out |exact hfB.at_ hSx HN3.out
    clear hK K
    try simp only [Act.put,q5,q6,q7]
    refine R2 6 (by kernel_rfl) (by rfl) hT11 fun K hK hSx=> ?_
    go_simp
    refine hK.out _ _ (.inr ?_) (fun hT12=> ?_)
    ·first |exact hSx.alloc _ |exact hfA.at_ hSx HN2.out |exact hfB.at_ hSx HN3.out
    clear hK K
    try simp only [Act.put,q5,q6,q7]
    refine R2 7 (by kernel_rfl) (by rfl) hT12 fun K hK hSx=> ?_
    (refine step_append_int rfl _ _ rfl M.A2 M.c2 (H.growBy j).at_ _ rfl HL1.out.symm ?hownr3u32 _ 1 (-1) rfl ?hcellr3u32 (by rw [HL1.out];omega) ?_;(case hownr3u32=>first |exact HK.out.at_.drew.alloc _ |exact (HK.out.at_.drew.alloc _).alloc _);(case hcellr3u32=>simp);intro gA cA wA hiA hfA hgA hsA)
    refine hK.out _ _ (.inr ?_) (fun hT13=> ?_)
    ·first |exact hSx.alloc _ |exact hfA.at_ hSx HN2.out |exact hfB.at_ hSx HN3.out
    clear hK K
    try simp only [Act.put,q5,q6,q7]
    refine R2 13 (by kernel_rfl) (by rfl) hT13 fun K hK hSx=> ?_
    (refine step_append_int rfl _ _ rfl M.A3 M.c3 (H.growBy j).score _ rfl HL2.out.symm ?hownr3u33 _ 1 0 rfl ?hcellr3u33 (by rw [HL2.out];omega) ?_;(case hownr3u33=>first |exact ((HK.out.score.drew.alloc _).fr hfA HD.out).alloc _ |exact ((HK.out.score.drew.alloc _).alloc _).fr hfA HD.out);(case hcellr3u33=>first | (simp;done) |exact (hfA.at_ HC1.out (fun hk=>absurd (HT2.out _ hk) (by omega))).cell 0 |exact (hfA.at_ HC2.out (fun hk=>absurd (HT2.out _ hk) (by omega))).cell 0);intro gB cB wB hiB hfB hgB hsB)
    refine hK.out _ _ (.inr ?_) (fun hT14=> ?_)
    ·first |exact hSx.alloc _ |exact hfA.at_ hSx HN2.out |exact hfB.at_ hSx HN3.out
    clear hK K
    try simp only [Act.put,q5,q6,q7]
    apply TB 2 [(14,[]),(15,[])];kernel_rfl;rfl;· (repeat (apply TBc;rfl;rfl;(· intro w hSw;go_simp<;>with_reducible rfl);try simp only [Act.put,q5,q6,q7]));exact TBn
    exact hT14;intro hT14
    refine R2 16 (by kernel_rfl) (by rfl) hT14 fun K hK hSx=> ?_
    (have b1:=hSx.cell 1;have b3:=hSx.frozen 1;simp at b1;go_simp)
    refine hK.out _ _ (.inl rfl) (fun hT17=> ?_)
    clear hK K
    try simp only [Act.put,q5,q6,q7]
    apply TB 2 [(17,[]),(18,[])];kernel_rfl;rfl;· (repeat (apply TBc;rfl;rfl;(· intro w hSw;go_simp<;>with_reducible rfl);try simp only [Act.put,q5,q6,q7]));exact TBn
    exact hT17;intro hT17
    refine R1 (i:=19) (o:= ?or3u39) (by kernel_rfl) (by rfl) ?_
    intro K hK
    (have b2:=hSx.cell 2;have b4:=hSx.frozen 2;simp at b2;go_simp)
    refine hK.out _ _ (.inl rfl) (fun hT20=> ?_)
    clear hK K
    try simp only [Act.put,q5,q6,q7]
    refine wpAnyC_done (by kernel_rfl) ?_ _
    refine NoPanic.normal ?_
    have fA:Fr (blks M.A2) wr wA:=by first |exact ((Fr.refl _ wr).drew.alloc _).then_ hfA |exact (((Fr.refl _ wr).drew.alloc _).alloc _).then_ hfA
    have fB:Fr (blks M.A3) wA wB:=by first |exact hfB |exact ((Fr.refl _ wA).alloc _).then_ hfB
    have qA:gA∈blks M.A2∨wr.heap.size≤gA:=hgA.imp id (fun e=>by rw [e];simp <;>omega)
    have qB:gB∈blks M.A3∨wA.heap.size≤gB:=hgB.imp id (fun e=>by rw [e];simp <;>omega)
    obtain ⟨r1,r2,r3⟩:=HpAt.newBoth HK.out (by simp [HL1.out,HL2.out]) hiA fA qA hiB fB qB
    rw [HA.out] at r1 r2 r3
    rw [grow_one.1,grow_one.2,HL3.out,HL4.out] at r1 r2
    have R1:=Lib.hid r1
    have R2:=Lib.hid r2
    have R3:=Lib.hid r3
    clear r1 r2 r3
    go_wp2_with fail
    go_roundg (gk-1)
    case measure=>have :=HJ.out;omega
    case rel=>exact ⟨j+1,_,by have :=HJ.out;omega,R1.out,HpL.ext_trans HE.out R3.out hfr,hfr.trans R2.out HE.out.2.1⟩
   exact ReadyC.nil
  ·have t2:(H.at_.length:Int)+m≤(H.at_.length:Int)+j:=by omega
   obtain rfl :j=m:=by omega
   go_wp2_with fail
   go_end0
   exact ⟨rfl,M,HK.out,HE.out,hfr⟩
theorem ret_ptr {a b:Nat} (h:a=b):Ending.returned (.pointer (some ⟨a,0,none⟩))= .returned (.pointer (some ⟨b,0,none⟩)):=by rw [h]
def Hp.none_:Hp:={ items:=[],at_:=[],score:=[] }
theorem HpAt.new (w:World):HpAt ((w.alloc (.cells #[] 3)).alloc (.cells #[.slice none 0 0, .slice (some ⟨w.heap.size,0,none⟩) 0 0, .slice none 0 0] 155))
  { a:=w.heap.size+1,A1:=none,c1:=0,A2:=some ⟨w.heap.size,0,none⟩,c2:=0,A3:=none,c3:=0 } Hp.none_:=by
 refine ⟨?_,Ints.nil _,?_,Ints.nil _,by simp [HpL.fp,blks],rfl⟩
 ·have :=At.new (w.alloc (.cells #[] 3)) 155 #[.slice none 0 0, .slice (some ⟨w.heap.size,0,none⟩) 0 0, .slice none 0 0]
  rwa [show (w.alloc (.cells #[] 3)).heap.size=w.heap.size+1 from by simp] at this
 ·have :Ints (w.alloc (.cells #[] 3)) (some ⟨w.heap.size,0,none⟩) 0 []:=World.ownsRow_lit w #[] 0 (Nat.zero_le _) (by simp [maxLen]) (by simp)
  exact this.alloc _
theorem heap_new (w:World) (n:Int):
  Calls Tryz.prog 78 #[.int .i64 n] w fun e w'=>∃L:HpL,e= .returned (.pointer (some ⟨L.a,0,none⟩))∧HpAt w' L (Hp.none_.growF n)∧L.A2.isSome=true∧(∀k,k∈L.fp→w.heap.size≤k)∧Fr [] w w':=by
 have HN:=Lib.hid (HpAt.new w)
 go_enter Tryz.func78,Tryz.ntmps78
 go_wp2_with fail
 refine (heap_grow _ _ _ HN.out rfl n (by simp [Hp.none_])).mono ?_
 rintro e w1 ⟨rfl,L',hL,hE,hF⟩
 have HL:=Lib.hid hL
 have HE:=Lib.hid hE
 have HF:=Lib.hid hF
 clear hL hE hF
 go_wp2_with fail
 go_ret
 have hk:∀k,k∈HpL.fp { a:=w.heap.size+1,A1:=none,c1:=0,A2:=some ⟨w.heap.size,0,none⟩,c2:=0,A3:=none,c3:=0 }→w.heap.size≤k:=by
  intro k hk
  simp only [HpL.fp,blks,Option.map_none,Option.map_some,Option.toList_none,Option.toList_some,List.nil_append,List.append_nil,List.mem_cons,List.not_mem_nil,or_false] at hk
  omega
 refine ⟨L',ret_ptr HE.out.1.symm,HL.out,HE.out.2.2 rfl,fun k h=> ?_,?_⟩
 ·rcases HE.out.2.1 k h with h |h
  ·exact hk k h
  ·exact Nat.le_trans (by simp;omega) h
 ·exact (((Fr.refl [] w).alloc _).alloc _).trans HF.out (fun k h=> .inr (hk k h))
--a nil heap
structure Cel where
 v:Int
 l:Int
 r:Int
instance:Inhabited Cel:=⟨⟨0,0,0⟩⟩
def Cel.free:Cel:=⟨0,-1,0⟩
def flat:List Cel→List Value
 |[]=>[]
 |c::cs=> .int .i64 c.v:: .int .i64 c.l:: .int .i64 c.r::flat cs
theorem flat_app (a b:List Cel):flat (a++b)=flat a++flat b:=by
 induction a with
 |nil=>rfl
 |cons c cs ih=>simp [flat,ih]
theorem flat_get:∀(cs:List Cel) (i:Nat),i<cs.length→(flat cs)[i*3]? =some (.int .i64 (cs[i]!).v)∧(flat cs)[i*3+1]? =some (.int .i64 (cs[i]!).l)∧(flat cs)[i*3+2]? =some (.int .i64 (cs[i]!).r):=by
 intro cs
 induction cs with
 |nil=>intro i h;simp at h
 |cons c cs ih=>
  intro i h
  cases i with
  |zero=>simp [flat]
  |succ i=>
   have :=ih i (by simpa using h)
   have e:(i+1)*3=i*3+1+1+1:=by omega
   rw [e]
   simpa [flat] using this
theorem flat_set:∀(cs:List Cel) (i:Nat) (c:Cel),i<cs.length→(((flat cs).set (i*3) (.int .i64 c.v)).set (i*3+1) (.int .i64 c.l)).set (i*3+2) (.int .i64 c.r)=flat (cs.set i c):=by
 intro cs
 induction cs with
 |nil=>intro i _ h;simp at h
 |cons d cs ih=>
  intro i c h
  cases i with
  |zero=>simp [flat]
  |succ i=>
   have :=ih i c (by simpa using h)
   have e:(i+1)*3=i*3+1+1+1:=by omega
   rw [e]
   simp only [flat,List.set_cons_succ]
   rw [this]
def Cls (w:World) (A:Option Addr) (c:Nat) (cs:List Cel):Prop:=w.ownsRow 0 150 3 (.slice A cs.length c) cs.length (flat cs)
namespace Cls
variable {w w':World} {A:Option Addr} {c:Nat} {cs:List Cel}
theorem form (h:Cls w A c cs):(A=none∧c=0∧cs=[])∨∃g,A=some ⟨g,0,none⟩∧g<w.heap.size∧cs.length≤c∧c≤maxLen:=by
 rcases h.2 with ⟨h1,h2⟩ |⟨g,cap,cur,hv,_,hg,hn,hm,_⟩
 ·simp only [Value.slice.injEq] at h1
  exact .inl ⟨h1.1,h1.2.2,List.eq_nil_of_length_eq_zero h2⟩
 ·simp only [Value.slice.injEq,true_and] at hv
  obtain ⟨rfl,rfl⟩:=hv
  exact .inr ⟨g,rfl,At.lt (t:=150) hg,hn,hm⟩
theorem pos {i:Nat} (h:Cls w A c cs) (hi:i<cs.length):∃g,A=some ⟨g,0,none⟩∧g<w.heap.size:=by
 rcases h.form with ⟨_,_,rfl⟩ |⟨g,h1,h2,_⟩
 ·simp at hi
 ·exact ⟨g,h1,h2⟩
theorem cell {g:Nat} (h:Cls w (some ⟨g,0,none⟩) c cs) {i:Nat} (hi:i<cs.length):
  w.cell? ⟨g,i*3,none⟩=some (.int .i64 (cs[i]!).v)∧w.cell? ⟨g,i*3+1,none⟩=some (.int .i64 (cs[i]!).l)∧w.cell? ⟨g,i*3+2,none⟩=some (.int .i64 (cs[i]!).r):=by
 obtain ⟨h1,h2,h3⟩:=flat_get cs i hi
 refine ⟨?_,?_,?_⟩
 ·rw [World.ownsRow.cellAt h _ (by omega)];exact h1
 ·rw [World.ownsRow.cellAt h _ (by omega)];exact h2
 ·rw [World.ownsRow.cellAt h _ (by omega)];exact h3
theorem frozen {g:Nat} (h:Cls w (some ⟨g,0,none⟩) c cs) (i:Nat):w.frozen? ⟨g,i,none⟩=false:=World.ownsRow.frozenAt h i
theorem set_ {g:Nat} (h:Cls w (some ⟨g,0,none⟩) c cs) {i:Nat} (hi:i<cs.length) (x:Cel):
  Cls (((w.setCell ⟨g,i*3,none⟩ (.int .i64 x.v)).setCell ⟨g,i*3+1,none⟩ (.int .i64 x.l)).setCell ⟨g,i*3+2,none⟩ (.int .i64 x.r)) (some ⟨g,0,none⟩) c (cs.set i x):=by
 have h1:=(World.ownsRow.stored h (i*3) (.int .i64 x.v)).1
 have h2:=(World.ownsRow.stored h1 (i*3+1) (.int .i64 x.l)).1
 have h3:=(World.ownsRow.stored h2 (i*3+2) (.int .i64 x.r)).1
 unfold Cls
 rw [flat_set cs i x hi] at h3
 rw [List.length_set]
 exact h3
theorem own_blk:∀k,(Value.slice A cs.length c).ownBlock=some k→k∈blks A:=fun k hk=>(blks_own k).1 hk
theorem far (h:Cls w A c cs) {p:Addr} (hp:p.block∉blks A) (u:Value):Cls (w.setCell p u) A c cs:=
 Fr.own (S:=[p.block]) ((Fr.refl [p.block] w).setCell (.inl (by simp)) u) h (fun k hk=>by
  have :=own_blk k hk
  simp only [List.mem_singleton]
  rintro rfl;exact hp this)
theorem fr {S:List Nat} (h:Cls w A c cs) (hf:Fr S w w') (hd:∀k,k∈blks A→k∉S):Cls w' A c cs:=hf.own h (fun k hk=>hd k (own_blk k hk))
theorem alloc (h:Cls w A c cs) (o:Obj):Cls (w.alloc o) A c cs:=World.ownsRow.alloc h o
theorem lt (h:Cls w A c cs):∀k,k∈blks A→k<w.heap.size:=by
 rcases h.form with ⟨rfl,_⟩ |⟨g,rfl,h1,_⟩
 ·simp [blks]
 ·simpa [blks] using h1
theorem len (h:Cls w A c cs):cs.length≤maxLen:=by
 rcases h.form with ⟨_,_,rfl⟩ |⟨g,_,_,h1,h2⟩
 ·simp [maxLen]
 ·omega
end Cls
structure Tr where
 cells:List Cel
 lits:List Int
 levels:List Int
structure TrL where
 a:Nat
 A1:Option Addr
 c1:Nat
 A2:Option Addr
 c2:Nat
 A3:Option Addr
 c3:Nat
def TrL.fp (L:TrL):List Nat:=L.a::(blks L.A1++(blks L.A2++blks L.A3))
structure TrAt (w:World) (L:TrL) (T:Tr):Prop where
 obj:At w L.a 153 #[.slice L.A1 T.cells.length L.c1, .slice L.A2 T.lits.length L.c2, .slice L.A3 T.levels.length L.c3]
 cells:Cls w L.A1 L.c1 T.cells
 lits:Ints w L.A2 L.c2 T.lits
 levels:Ints w L.A3 L.c3 T.levels
 nodup:L.fp.Nodup
def Tr.isB (T:Tr) (v:Int):Bool:=decide (1≤v)&&decide (v<T.cells.length)
theorem Tr.isB_true {T:Tr} {v:Int} (h:T.isB v=true):1≤v∧v<T.cells.length:=by simpa [Tr.isB] using h
def Tr.cel (T:Tr) (v:Int):Cel:=T.cells[v.toNat]!
theorem tr_ret_bool {a b:Bool} (h:a=b):Ending.returned (.bool a)= .returned (.bool b):=by rw [h]
theorem tr_ret_int {k:IntKind} {a b:Int} (h:a=b):Ending.returned (.int k a)= .returned (.int k b):=by rw [h]
theorem trail_is (w:World) (L:TrL) (T:Tr) (h:TrAt w L T) (v:Int) (b:Bool) (hb:T.isB v=b):
  Calls Tryz.prog 124 #[.pointer (some ⟨L.a,0,none⟩), .int .i64 v] w fun e w'=>e= .returned (.bool b)∧w=w':=by
 subst hb
 have c1:=h.obj.cell 0
 simp at c1
 unfold Tr.isB
 by_cases h0:1≤v
 ·by_cases h1:v<T.cells.length
  ·go_enter Tryz.func124,Tryz.ntmps124
   go_wp2
   go_ret
   exact ⟨tr_ret_bool (by simp [h0,h1]),rfl⟩
  ·go_enter Tryz.func124,Tryz.ntmps124
   go_wp2
   go_ret
   exact ⟨tr_ret_bool (by simp [h1]),rfl⟩
 ·go_enter Tryz.func124,Tryz.ntmps124
  go_wp2
  go_ret
  exact ⟨tr_ret_bool (by simp;omega),rfl⟩
theorem TrAt.cell_at {w:World} {L:TrL} {T:Tr} (h:TrAt w L T) {v:Int} (h0:0≤v) (h1:v<T.cells.length):
  ∃g,L.A1=some ⟨g,0,none⟩∧w.cell? ⟨g,v.toNat*3,none⟩=some (.int .i64 (T.cel v).v)∧w.cell? ⟨g,v.toNat*3+1,none⟩=some (.int .i64 (T.cel v).l)∧w.cell? ⟨g,v.toNat*3+2,none⟩=some (.int .i64 (T.cel v).r)∧∀j,w.frozen? ⟨g,j,none⟩=false:=by
 obtain ⟨g,hg,_⟩:=h.cells.pos (i:=v.toNat) (by omega)
 refine ⟨g,hg,?_⟩
 have :=h.cells
 rw [hg] at this
 obtain ⟨a,b,c⟩:=this.cell (i:=v.toNat) (by omega)
 exact ⟨a,b,c,this.frozen⟩
def Tr.levB (T:Tr) (v:Int):Int:=if T.isB v=true then (T.cel v).l else -1
def Tr.reaB (T:Tr) (v:Int):Int:=if T.isB v=true then (T.cel v).r else 0
theorem trail_level (w:World) (L:TrL) (T:Tr) (h:TrAt w L T) (v:Int):
  Calls Tryz.prog 144 #[.pointer (some ⟨L.a,0,none⟩), .int .i64 v] w fun e w'=>e= .returned (.int .i64 (T.levB v))∧w=w':=by
 have o1:=h.obj.cell 0
 simp at o1
 unfold Tr.levB
 cases hb:T.isB v with
 |true=>
  obtain ⟨h0,h1⟩:=Tr.isB_true hb
  obtain ⟨g,hg,c0,c1,c2,_⟩:=h.cell_at (v:=v) (by omega) h1
  rw [hg] at o1
  have HB:=Lib.hid hb
  have HH:=Lib.hid h
  clear hb h hg
  go_enter Tryz.func144,Tryz.ntmps144
  go_wp2_with fail
  refine (trail_is _ L T HH.out v true HB.out).mono ?_
  rintro e w1 ⟨rfl,rfl⟩
  go_wp2_with fail
  go_ret
  exact ⟨tr_ret_int (by simp),rfl⟩
 |false=>
  have HB:=Lib.hid hb
  have HH:=Lib.hid h
  clear hb h
  go_enter Tryz.func144,Tryz.ntmps144
  go_wp2_with fail
  refine (trail_is _ L T HH.out v false HB.out).mono ?_
  rintro e w1 ⟨rfl,rfl⟩
  go_wp2_with fail
  go_ret
  exact ⟨tr_ret_int (by simp),rfl⟩
theorem trail_reason (w:World) (L:TrL) (T:Tr) (h:TrAt w L T) (v:Int):
  Calls Tryz.prog 200 #[.pointer (some ⟨L.a,0,none⟩), .int .i64 v] w fun e w'=>e= .returned (.int .i64 (T.reaB v))∧w=w':=by
 have o1:=h.obj.cell 0
 simp at o1
 unfold Tr.reaB
 cases hb:T.isB v with
 |true=>
  obtain ⟨h0,h1⟩:=Tr.isB_true hb
  obtain ⟨g,hg,c0,c1,c2,_⟩:=h.cell_at (v:=v) (by omega) h1
  rw [hg] at o1
  have HB:=Lib.hid hb
  have HH:=Lib.hid h
  clear hb h hg
  go_enter Tryz.func200,Tryz.ntmps200
  go_wp2_with fail
  refine (trail_is _ L T HH.out v true HB.out).mono ?_
  rintro e w1 ⟨rfl,rfl⟩
  go_wp2_with fail
  go_ret
  exact ⟨tr_ret_int (by simp),rfl⟩
 |false=>
  have HB:=Lib.hid hb
  have HH:=Lib.hid h
  clear hb h
  go_enter Tryz.func200,Tryz.ntmps200
  go_wp2_with fail
  refine (trail_is _ L T HH.out v false HB.out).mono ?_
  rintro e w1 ⟨rfl,rfl⟩
  go_wp2_with fail
  go_ret
  exact ⟨tr_ret_int (by simp),rfl⟩
theorem trail_depth (w:World) (L:TrL) (T:Tr) (h:TrAt w L T):
  Calls Tryz.prog 141 #[.pointer (some ⟨L.a,0,none⟩)] w fun e w'=>e= .returned (.int .i64 T.levels.length)∧w=w':=by
 have o1:=h.obj.cell 2
 simp at o1
 clear h
 go_enter Tryz.func141,Tryz.ntmps141
 go_wp2
 go_ret
 exact ⟨rfl,rfl⟩
theorem trail_len (w:World) (L:TrL) (T:Tr) (h:TrAt w L T):
  Calls Tryz.prog 142 #[.pointer (some ⟨L.a,0,none⟩)] w fun e w'=>e= .returned (.int .i64 T.lits.length)∧w=w':=by
 have o1:=h.obj.cell 1
 simp at o1
 clear h
 go_enter Tryz.func142,Tryz.ntmps142
 go_wp2
 go_ret
 exact ⟨rfl,rfl⟩
def Tr.atB (T:Tr) (i:Int):Int:=if 0≤i∧i<T.lits.length then T.lits[i.toNat]! else 0
theorem trail_at (w:World) (L:TrL) (T:Tr) (h:TrAt w L T) (i:Int):
  Calls Tryz.prog 143 #[.pointer (some ⟨L.a,0,none⟩), .int .i64 i] w fun e w'=>e= .returned (.int .i64 (T.atB i))∧w=w':=by
 have o1:=h.obj.cell 1
 simp at o1
 unfold Tr.atB
 by_cases h0:0≤i
 ·by_cases h1:i<T.lits.length
  ·obtain ⟨g,hg,_⟩:=h.lits.pos (i:=i.toNat) (by omega)
   have hc:=h.lits
   rw [hg] at hc o1
   have c1:=hc.cell (i:=i.toNat) (by omega)
   rw [if_pos ⟨h0,h1⟩]
   obtain ⟨y,hy⟩:∃y,T.lits[i.toNat]! =y:=⟨_,rfl⟩
   rw [hy] at c1⊢
   clear h hg hc hy
   go_enter Tryz.func143,Tryz.ntmps143
   go_wp2
   go_ret
   exact ⟨rfl,rfl⟩
  ·rw [if_neg (by omega)]
   clear h
   go_enter Tryz.func143,Tryz.ntmps143
   go_wp2
   go_ret
   exact ⟨rfl,rfl⟩
 ·rw [if_neg (by omega)]
  clear h
  go_enter Tryz.func143,Tryz.ntmps143
  go_wp2
  go_ret
  exact ⟨rfl,rfl⟩
def tv (l:Int):Int:=if l= -9223372036854775808 then l else if l<0 then -l else l
theorem tv_nat {l:Int} (h:0≤l):tv l=l:=by unfold tv;rw [if_neg (by omega),if_neg (by omega)]
theorem tv_neg {l:Int} (h:l<0) (h2: -9223372036854775808<l):tv l= -l:=by unfold tv;rw [if_neg (by omega),if_pos h]
theorem tv_least {l:Int} (h:l= -9223372036854775808):tv l=l:=by unfold tv;rw [if_pos h]
theorem neg_least {l:Int} (h:l= -9223372036854775808):wrap64 (-l)=l:=by subst h;unfold wrap64;omega
theorem lit_cases (l:Int) (h: -9223372036854775808≤l):(0≤l∧tv l=l)∨(l<0∧ -9223372036854775807≤l∧tv l= -l)∨(l<0∧tv l=l∧wrap64 (-l)=l):=by
 by_cases h0:0≤l
 ·exact .inl ⟨h0,tv_nat h0⟩
 ·by_cases h1:l= -9223372036854775808
  ·exact .inr (.inr ⟨by omega,tv_least h1,neg_least h1⟩)
  ·exact .inr (.inl ⟨by omega,by omega,tv_neg (by omega) (by omega)⟩)
def Tr.valF (T:Tr) (l:Int):Int:=if T.isB (tv l)=true then (if l<0 then -(T.cel (tv l)).v else (T.cel (tv l)).v) else 0
theorem trail_value (w:World) (L:TrL) (T:Tr) (h:TrAt w L T) (l:Int) (hlo: -9223372036854775808≤l) (hhi:l≤9223372036854775807) (hsmall:∀v:Int,1≤v→v<T.cells.length→ -1≤(T.cel v).v∧(T.cel v).v≤1):
  Calls Tryz.prog 84 #[.pointer (some ⟨L.a,0,none⟩), .int .i64 l] w fun e w'=>e= .returned (.int .i64 (T.valF l))∧w=w':=by
 have o1:=h.obj.cell 0
 simp at o1
 unfold Tr.valF
 rcases lit_cases l hlo with ⟨hl,hv⟩ |⟨hl,hl2,hv⟩ |⟨hl,hv,hw⟩
 ·rw [hv]
  clear hv hlo
  cases hb:T.isB l with
  |true=>
   obtain ⟨h0,h1⟩:=Tr.isB_true hb
   obtain ⟨g,hg,c0,c1,c2,_⟩:=h.cell_at (v:=l) (by omega) h1
   rw [hg] at o1
   obtain ⟨y,hy⟩:∃y,(T.cel (l)).v=y:=⟨_,rfl⟩
   have hy2:=hsmall _ (by omega) h1
   rw [hy] at c0 hy2⊢
   rw [if_pos rfl,if_neg (by omega)]
   have HB:=Lib.hid hb
   have HH:=Lib.hid h
   clear hb h hg hy c1 c2 hsmall
   go_enter Tryz.func84,Tryz.ntmps84
   go_wp2_with fail
   refine (trail_is _ L T HH.out _ true HB.out).mono ?_
   rintro e w1 ⟨rfl,rfl⟩
   go_wp2_with fail
   go_ret
   exact ⟨rfl,rfl⟩
  |false=>
   have HB:=Lib.hid hb
   have HH:=Lib.hid h
   clear hb h
   go_enter Tryz.func84,Tryz.ntmps84
   go_wp2_with fail
   refine (trail_is _ L T HH.out _ false HB.out).mono ?_
   rintro e w1 ⟨rfl,rfl⟩
   go_wp2_with fail
   go_ret
   exact ⟨by simp,rfl⟩
 ·rw [hv]
  clear hv hlo
  cases hb:T.isB (-l) with
  |true=>
   obtain ⟨h0,h1⟩:=Tr.isB_true hb
   obtain ⟨g,hg,c0,c1,c2,_⟩:=h.cell_at (v:= -l) (by omega) h1
   rw [hg] at o1
   obtain ⟨y,hy⟩:∃y,(T.cel (-l)).v=y:=⟨_,rfl⟩
   have hy2:=hsmall _ (by omega) h1
   rw [hy] at c0 hy2⊢
   rw [if_pos rfl,if_pos hl]
   have HB:=Lib.hid hb
   have HH:=Lib.hid h
   clear hb h hg hy c1 c2 hsmall
   go_enter Tryz.func84,Tryz.ntmps84
   go_wp2_with fail
   refine (trail_is _ L T HH.out _ true HB.out).mono ?_
   rintro e w1 ⟨rfl,rfl⟩
   go_wp2_with fail
   go_ret
   exact ⟨rfl,rfl⟩
  |false=>
   have HB:=Lib.hid hb
   have HH:=Lib.hid h
   clear hb h
   go_enter Tryz.func84,Tryz.ntmps84
   go_wp2_with fail
   refine (trail_is _ L T HH.out _ false HB.out).mono ?_
   rintro e w1 ⟨rfl,rfl⟩
   go_wp2_with fail
   go_ret
   exact ⟨by simp,rfl⟩
 ·have hb:T.isB l=false:=by
   cases hh:T.isB l with
   |false=>rfl
   |true=>have :=(Tr.isB_true hh).1;omega
  rw [hv,hb]
  have HB:=Lib.hid hb
  have HH:=Lib.hid h
  clear hb h hv hlo
  go_enter Tryz.func84,Tryz.ntmps84
  go_wp2_with fail
  refine (trail_is _ L T HH.out _ false HB.out).mono ?_
  rintro e w1 ⟨rfl,rfl⟩
  go_wp2_with fail
  go_ret
  exact ⟨by simp,rfl⟩
theorem tnodup3 {a:Nat} {x y z:List Nat} (h:(a::(x++(y++z))).Nodup):
  (∀k,k∈x→k≠a∧k∉y∧k∉z)∧(∀k,k∈y→k≠a∧k∉x∧k∉z)∧(∀k,k∈z→k≠a∧k∉x∧k∉y):=by
 simp only [List.nodup_cons,List.mem_append,List.nodup_append] at h
 obtain ⟨h1,h2,⟨h3,h4,h5⟩,h6⟩:=h
 refine ⟨fun k hk=>⟨?_,?_,?_⟩,fun k hk=>⟨?_,?_,?_⟩,fun k hk=>⟨?_,?_,?_⟩⟩
 ·rintro rfl;exact h1 (.inl hk)
 ·exact fun hy=>h6 k hk k (.inl hy) rfl
 ·exact fun hz=>h6 k hk k (.inr hz) rfl
 ·rintro rfl;exact h1 (.inr (.inl hk))
 ·exact fun hx=>h6 k hx k (.inl hk) rfl
 ·exact fun hz=>h5 k hk k hz rfl
 ·rintro rfl;exact h1 (.inr (.inr hk))
 ·exact fun hx=>h6 k hx k (.inr hk) rfl
 ·exact fun hy=>h5 k hy k hk rfl
def TrL.ext (L L':TrL) (w:World):Prop:=L'.a=L.a∧∀k,k∈L'.fp→k∈L.fp∨w.heap.size≤k
theorem TrL.ext_refl (L:TrL) (w:World):L.ext L w:=⟨rfl,fun _ h=> .inl h⟩
theorem TrL.ext_trans {L M N:TrL} {w w':World} {S:List Nat} (h:L.ext M w) (k:M.ext N w') (hf:Fr S w w'):L.ext N w:=
 ⟨k.1.trans h.1,fun x hx=>(k.2 x hx).elim (fun hm=>h.2 x hm) (fun hm=> .inr (Nat.le_trans hf.size hm))⟩
namespace TrAt
variable {w w':World} {L:TrL} {T:Tr}
theorem drew (h:TrAt w L T):TrAt w.drew L T:=⟨h.obj,h.cells,h.lits,h.levels,h.nodup⟩
theorem alloc (h:TrAt w L T) (o:Obj):TrAt (w.alloc o) L T:=⟨h.obj.alloc o,h.cells.alloc o,h.lits.alloc o,h.levels.alloc o,h.nodup⟩
theorem fr {S:List Nat} (h:TrAt w L T) (hf:Fr S w w') (hd:∀k,k∈L.fp→k∉S):TrAt w' L T:=
 ⟨hf.at_ h.obj (hd _ (by simp [TrL.fp])),h.cells.fr hf fun k hk=>hd k (by simp [TrL.fp,hk]),h.lits.fr hf fun k hk=>hd k (by simp [TrL.fp,hk]),h.levels.fr hf fun k hk=>hd k (by simp [TrL.fp,hk]),h.nodup⟩
theorem lt (h:TrAt w L T):∀k,k∈L.fp→k<w.heap.size:=by
 intro k hk
 simp only [TrL.fp,List.mem_cons,List.mem_append] at hk
 rcases hk with rfl |hk |hk |hk
 ·exact h.obj.lt
 ·exact h.cells.lt k hk
 ·exact h.lits.lt k hk
 ·exact h.levels.lt k hk
theorem setC (h:TrAt w L T) {g:Nat} (hg:L.A1=some ⟨g,0,none⟩) {i:Nat} (hi:i<T.cells.length) (x:Cel):
  TrAt (((w.setCell ⟨g,i*3,none⟩ (.int .i64 x.v)).setCell ⟨g,i*3+1,none⟩ (.int .i64 x.l)).setCell ⟨g,i*3+2,none⟩ (.int .i64 x.r)) L { T with cells:=T.cells.set i x }:=by
 obtain ⟨h1,h2,h3⟩:=tnodup3 h.nodup
 have hm:g∈blks L.A1:=by simp [hg,blks]
 have hf:Fr [g] w (((w.setCell ⟨g,i*3,none⟩ (.int .i64 x.v)).setCell ⟨g,i*3+1,none⟩ (.int .i64 x.l)).setCell ⟨g,i*3+2,none⟩ (.int .i64 x.r)):=
  (((Fr.refl [g] w).setCell (.inl (by simp)) _).setCell (.inl (by simp)) _).setCell (.inl (by simp)) _
 have ne:∀k,k≠g→k∉[g]:=fun k e=>by simpa using e
 refine ⟨?_,?_,h.lits.fr hf fun k hk=>ne k (fun e=>(h2 k hk).2.1 (e▸hm)),h.levels.fr hf fun k hk=>ne k (fun e=>(h3 k hk).2.1 (e▸hm)),h.nodup⟩
 ·have :=hf.at_ h.obj (ne _ (fun e=>(h1 g hm).1 e.symm))
  simpa using this
 ·have :=h.cells
  rw [hg] at this⊢
  exact this.set_ hi x
theorem setC_fr (w:World) (L:TrL) {g:Nat} (hg:L.A1=some ⟨g,0,none⟩) (i j k:Nat) (x y z:Value):Fr L.fp w (((w.setCell ⟨g,i,none⟩ x).setCell ⟨g,j,none⟩ y).setCell ⟨g,k,none⟩ z):=
 (((Fr.refl L.fp w).setCell (.inl (by simp [TrL.fp,hg,blks])) _).setCell (.inl (by simp [TrL.fp,hg,blks])) _).setCell (.inl (by simp [TrL.fp,hg,blks])) _
theorem newLits (h:TrAt w L T) {g cap:Nat} {lits:List Int} (hi:Ints w' (some ⟨g,0,none⟩) cap lits) (hf:Fr (blks L.A2) w w') (hg:g∈blks L.A2∨w.heap.size≤g):
  TrAt (w'.setCell ⟨L.a,1,none⟩ (.slice (some ⟨g,0,none⟩) lits.length cap)) { L with A2:=some ⟨g,0,none⟩,c2:=cap } { T with lits:=lits }∧
  L.ext { L with A2:=some ⟨g,0,none⟩,c2:=cap } w∧Fr L.fp w (w'.setCell ⟨L.a,1,none⟩ (.slice (some ⟨g,0,none⟩) lits.length cap)):=by
 obtain ⟨h1,h2,h3⟩:=tnodup3 h.nodup
 have hlt:=h.lt
 have nG:g≠L.a∧g∉blks L.A1∧g∉blks L.A3:=by
  rcases hg with q |q
  ·exact h2 g q
  ·refine ⟨?_,fun k=> ?_,fun k=> ?_⟩
   ·have :=h.obj.lt;omega
   ·have :=h.cells.lt _ k;omega
   ·have :=h.levels.lt _ k;omega
 have bG:blks (some ⟨g,0,none⟩)=[g]:=rfl
 refine ⟨⟨?_,?_,?_,?_,?_⟩,⟨rfl,?_⟩,?_⟩
 ·have :=(hf.at_ h.obj (fun k=>(h2 _ k).1 rfl)).set_ 1 (.slice (some ⟨g,0,none⟩) lits.length cap)
  simpa using this
 ·exact (h.cells.fr hf fun k hk hk'=>(h1 k hk).2.1 hk').far (fun k=>(h1 _ k).1 rfl) _
 ·exact hi.far (by rw [bG];simpa using fun e=>nG.1 e.symm) _
 ·exact (h.levels.fr hf fun k hk hk'=>(h3 k hk).2.2 hk').far (fun k=>(h3 _ k).1 rfl) _
 ·have hn:=h.nodup
  simp only [TrL.fp,List.nodup_cons,List.mem_append,List.nodup_append,bG,List.mem_singleton,List.not_mem_nil,not_false_eq_true,List.nodup_nil,true_and] at hn⊢
  obtain ⟨n1,n2,⟨n3,n4,n5⟩,n6⟩:=hn
  refine ⟨?_,n2,⟨n4,?_⟩,?_⟩
  ·rintro (hk |hk |hk)
   ·exact n1 (.inl hk)
   ·exact nG.1 hk.symm
   ·exact n1 (.inr (.inr hk))
  ·intro a ha b hb e
   subst ha
   subst e
   exact nG.2.2 hb
  ·intro k hk b hb e
   subst e
   rcases hb with hb |hb
   ·subst hb
    exact nG.2.1 hk
   ·exact n6 k hk k (.inr hb) rfl
 ·intro k hk
  simp only [TrL.fp,bG,List.mem_cons,List.mem_append,List.not_mem_nil,or_false] at hk⊢
  rcases hk with hk |hk |hk |hk
  ·exact .inl (.inl hk)
  ·exact .inl (.inr (.inl hk))
  ·subst hk;exact hg.imp (fun q=> .inr (.inr (.inl q))) id
  ·exact .inl (.inr (.inr (.inr hk)))
 ·exact (hf.mono (T:=L.fp) fun k hk=> .inl (by simp [TrL.fp,hk])).setCell (.inl (by simp [TrL.fp])) _
end TrAt
def Tr.putF (T:Tr) (l r:Int):Tr:={ cells:=T.cells.set (tv l).toNat ⟨if l<0 then -1 else 1,T.levels.length,r⟩,lits:=T.lits++[l],levels:=T.levels }
theorem trail_put_p (w:World) (L:TrL) (T:Tr) (h:TrAt w L T) (l r:Int) (hl:0≤l) (hhi:l≤9223372036854775807) (hb:T.isB (l)=true) (hf:T.cel (l)=Cel.free) (hlen:T.lits.length<17592186044416):
  Calls Tryz.prog 87 #[.pointer (some ⟨L.a,0,none⟩), .int .i64 l, .int .i64 r] w fun e w'=>e= .returned (.bool true)∧∃L',TrAt w' L' (T.putF l r)∧L.ext L' w∧Fr L.fp w w':=by
 have o0:=h.obj.cell 0
 have o1:=h.obj.cell 1
 have o2:=h.obj.cell 2
 simp at o0 o1 o2
 obtain ⟨h0,h1⟩:=Tr.isB_true hb
 obtain ⟨g,hg,c0,c1,c2,hfz⟩:=h.cell_at (v:=l) (by omega) h1
 rw [hf] at c0 c1 c2
 simp only [Cel.free] at c0 c1 c2
 rw [hg] at o0
 have f0:=hfz (l.toNat*3)
 have f1:=hfz (l.toNat*3+1)
 have f2:=hfz (l.toNat*3+2)
 have hlt:=h.lt L.a (by simp [TrL.fp])
 have hlg:=h.lt g (by simp [TrL.fp,hg,blks])
 have HB:=Lib.hid hb
 have HH:=Lib.hid h
 have HG:=Lib.hid hg
 clear hb h hf hg hfz
 have HV:Hid (tv l=l):=tv_nat hl
 go_enter Tryz.func87,Tryz.ntmps87
 go_wp2_with fail
 refine (trail_is _ L T HH.out _ true HB.out).mono ?_
 rintro e w1 ⟨rfl,rfl⟩
 go_wp2_with fail
 go_region
 obtain ⟨V,hV⟩:∃V,V=((((w.setCell ⟨g,l.toNat*3,none⟩ (.int .i64 1)).setCell ⟨g,l.toNat*3+1,none⟩ (.int .i64 T.levels.length)).setCell ⟨g,l.toNat*3+2,none⟩ (.int .i64 r)).alloc (.cells #[.int .i64 1, .int .i64 T.levels.length, .int .i64 r] 150)).drew:=⟨_,rfl⟩
 rw [←hV]
 have hA:TrAt V L { T with cells:=T.cells.set l.toNat ⟨1,T.levels.length,r⟩}:=by
  rw [hV];exact ((HH.out.setC HG.out (i:=l.toNat) (by omega) ⟨1,T.levels.length,r⟩).alloc _).drew
 have hF:Fr L.fp w V:=by
  rw [hV];exact ((TrAt.setC_fr w L HG.out _ _ _ _ _ _).alloc _).drew
 clear hV o0 o1 o2 c0 c1 c2 f0 f1 f2 hlg hlt
 have o1:=hA.obj.cell 1
 have q1:=hA.obj.frozen 1
 simp at o1
 have hlt:=hA.lt L.a (by simp [TrL.fp])
 have HA:=Lib.hid hA
 have HF:=Lib.hid hF
 have HN:Hid (L.a∉blks L.A2):=fun hk=>((tnodup3 hA.nodup).2.1 _ hk).1 rfl
 clear hA hF
 go_wp2_with (at_builtin;refine wpList_append_int _ rfl _ _ rfl L.A2 L.c2 T.lits _ rfl rfl (HA.out.lits.alloc _) ⟨V.heap.size,0,none⟩ 1 l rfl (by simp) (by omega) ?_;intro g2 cap w2 hi2 hf2 hg2 hs2;have q2:=hf2.at_ (HA.out.obj.alloc _) HN.out;have q3:=q2.cell 1;have q4:=q2.frozen 1;simp at q3;have HI:=Lib.hid hi2;have HF2:=Lib.hid hf2;have HG2:=Lib.hid hg2;clear q2 hi2 hf2 hg2 hs2)
 go_ret
 refine ⟨rfl,?_⟩
 have hg2:g2∈blks L.A2∨(V.alloc (.cells #[.int .i64 l] 3)).heap.size≤g2:=HG2.out.imp id (fun e=>by rw [e];exact Nat.le_refl _)
 obtain ⟨hN,hX,hF3⟩:=(HA.out.alloc _).newLits HI.out HF2.out hg2
 refine ⟨_,?_,TrL.ext_trans (TrL.ext_refl L w) ⟨hX.1,fun k hk=>(hX.2 k hk).imp id (fun h=> ?_)⟩ HF.out,?_⟩
 ·have :=hN
  unfold Tr.putF
  rw [HV.out,if_neg (by omega)]
  simpa using this
 ·have :V.heap.size≤(V.alloc (.cells #[.int .i64 l] 3)).heap.size:=by simp
  exact Nat.le_trans this h
 ·have :=(HF.out.alloc (.cells #[.int .i64 l] 3)).trans hF3 (fun k hk=> .inl hk)
  simpa using this
theorem trail_put_n (w:World) (L:TrL) (T:Tr) (h:TrAt w L T) (l r:Int) (hl:l<0) (hlo: -9223372036854775807≤l) (hb:T.isB (-l)=true) (hf:T.cel (-l)=Cel.free) (hlen:T.lits.length<17592186044416):
  Calls Tryz.prog 87 #[.pointer (some ⟨L.a,0,none⟩), .int .i64 l, .int .i64 r] w fun e w'=>e= .returned (.bool true)∧∃L',TrAt w' L' (T.putF l r)∧L.ext L' w∧Fr L.fp w w':=by
 have o0:=h.obj.cell 0
 have o1:=h.obj.cell 1
 have o2:=h.obj.cell 2
 simp at o0 o1 o2
 obtain ⟨h0,h1⟩:=Tr.isB_true hb
 obtain ⟨g,hg,c0,c1,c2,hfz⟩:=h.cell_at (v:= -l) (by omega) h1
 rw [hf] at c0 c1 c2
 simp only [Cel.free] at c0 c1 c2
 rw [hg] at o0
 have f0:=hfz ((-l).toNat*3)
 have f1:=hfz ((-l).toNat*3+1)
 have f2:=hfz ((-l).toNat*3+2)
 have hlt:=h.lt L.a (by simp [TrL.fp])
 have hlg:=h.lt g (by simp [TrL.fp,hg,blks])
 have HB:=Lib.hid hb
 have HH:=Lib.hid h
 have HG:=Lib.hid hg
 clear hb h hf hg hfz
 have HV:Hid (tv l= -l):=tv_neg hl (by omega)
 go_enter Tryz.func87,Tryz.ntmps87
 go_wp2_with fail
 refine (trail_is _ L T HH.out _ true HB.out).mono ?_
 rintro e w1 ⟨rfl,rfl⟩
 go_wp2_with fail
 go_region
 obtain ⟨V,hV⟩:∃V,V=((((w.setCell ⟨g,(-l).toNat*3,none⟩ (.int .i64 (-1))).setCell ⟨g,(-l).toNat*3+1,none⟩ (.int .i64 T.levels.length)).setCell ⟨g,(-l).toNat*3+2,none⟩ (.int .i64 r)).alloc (.cells #[.int .i64 (-1), .int .i64 T.levels.length, .int .i64 r] 150)).drew:=⟨_,rfl⟩
 rw [←hV]
 have hA:TrAt V L { T with cells:=T.cells.set (-l).toNat ⟨(-1),T.levels.length,r⟩}:=by
  rw [hV];exact ((HH.out.setC HG.out (i:=(-l).toNat) (by omega) ⟨(-1),T.levels.length,r⟩).alloc _).drew
 have hF:Fr L.fp w V:=by
  rw [hV];exact ((TrAt.setC_fr w L HG.out _ _ _ _ _ _).alloc _).drew
 clear hV o0 o1 o2 c0 c1 c2 f0 f1 f2 hlg hlt
 have o1:=hA.obj.cell 1
 have q1:=hA.obj.frozen 1
 simp at o1
 have hlt:=hA.lt L.a (by simp [TrL.fp])
 have HA:=Lib.hid hA
 have HF:=Lib.hid hF
 have HN:Hid (L.a∉blks L.A2):=fun hk=>((tnodup3 hA.nodup).2.1 _ hk).1 rfl
 clear hA hF
 go_wp2_with (at_builtin;refine wpList_append_int _ rfl _ _ rfl L.A2 L.c2 T.lits _ rfl rfl (HA.out.lits.alloc _) ⟨V.heap.size,0,none⟩ 1 l rfl (by simp) (by omega) ?_;intro g2 cap w2 hi2 hf2 hg2 hs2;have q2:=hf2.at_ (HA.out.obj.alloc _) HN.out;have q3:=q2.cell 1;have q4:=q2.frozen 1;simp at q3;have HI:=Lib.hid hi2;have HF2:=Lib.hid hf2;have HG2:=Lib.hid hg2;clear q2 hi2 hf2 hg2 hs2)
 go_ret
 refine ⟨rfl,?_⟩
 have hg2:g2∈blks L.A2∨(V.alloc (.cells #[.int .i64 l] 3)).heap.size≤g2:=HG2.out.imp id (fun e=>by rw [e];exact Nat.le_refl _)
 obtain ⟨hN,hX,hF3⟩:=(HA.out.alloc _).newLits HI.out HF2.out hg2
 refine ⟨_,?_,TrL.ext_trans (TrL.ext_refl L w) ⟨hX.1,fun k hk=>(hX.2 k hk).imp id (fun h=> ?_)⟩ HF.out,?_⟩
 ·have :=hN
  unfold Tr.putF
  rw [HV.out,if_pos hl]
  simpa using this
 ·have :V.heap.size≤(V.alloc (.cells #[.int .i64 l] 3)).heap.size:=by simp
  exact Nat.le_trans this h
 ·have :=(HF.out.alloc (.cells #[.int .i64 l] 3)).trans hF3 (fun k hk=> .inl hk)
  simpa using this
theorem TrAt.newLevels {w w':World} {L:TrL} {T:Tr} (h:TrAt w L T) {g cap:Nat} {lv:List Int} (hi:Ints w' (some ⟨g,0,none⟩) cap lv) (hf:Fr (blks L.A3) w w') (hg:g∈blks L.A3∨w.heap.size≤g):
  TrAt (w'.setCell ⟨L.a,2,none⟩ (.slice (some ⟨g,0,none⟩) lv.length cap)) { L with A3:=some ⟨g,0,none⟩,c3:=cap } { T with levels:=lv }∧
  L.ext { L with A3:=some ⟨g,0,none⟩,c3:=cap } w∧Fr L.fp w (w'.setCell ⟨L.a,2,none⟩ (.slice (some ⟨g,0,none⟩) lv.length cap)):=by
 obtain ⟨h1,h2,h3⟩:=tnodup3 h.nodup
 have nG:g≠L.a∧g∉blks L.A1∧g∉blks L.A2:=by
  rcases hg with q |q
  ·exact h3 g q
  ·refine ⟨?_,fun k=> ?_,fun k=> ?_⟩
   ·have :=h.obj.lt;omega
   ·have :=h.cells.lt _ k;omega
   ·have :=h.lits.lt _ k;omega
 have bG:blks (some ⟨g,0,none⟩)=[g]:=rfl
 refine ⟨⟨?_,?_,?_,?_,?_⟩,⟨rfl,?_⟩,?_⟩
 ·have :=(hf.at_ h.obj (fun k=>(h3 _ k).1 rfl)).set_ 2 (.slice (some ⟨g,0,none⟩) lv.length cap)
  simpa using this
 ·exact (h.cells.fr hf fun k hk hk'=>(h1 k hk).2.2 hk').far (fun k=>(h1 _ k).1 rfl) _
 ·exact (h.lits.fr hf fun k hk hk'=>(h2 k hk).2.2 hk').far (fun k=>(h2 _ k).1 rfl) _
 ·exact hi.far (by rw [bG];simpa using fun e=>nG.1 e.symm) _
 ·have hn:=h.nodup
  simp only [TrL.fp,List.nodup_cons,List.mem_append,List.nodup_append,bG,List.mem_singleton,List.not_mem_nil,not_false_eq_true,List.nodup_nil,true_and] at hn⊢
  obtain ⟨n1,n2,⟨n3,n4,n5⟩,n6⟩:=hn
  refine ⟨?_,n2,⟨n3,?_⟩,?_⟩
  ·rintro (hk |hk |hk)
   ·exact n1 (.inl hk)
   ·exact n1 (.inr (.inl hk))
   ·exact nG.1 hk.symm
  ·intro a ha b hb e
   subst hb
   subst e
   exact nG.2.2 ha
  ·intro k hk b hb e
   subst e
   rcases hb with hb |hb
   ·exact n6 k hk k (.inl hb) rfl
   ·subst hb
    exact nG.2.1 hk
 ·intro k hk
  simp only [TrL.fp,bG,List.mem_cons,List.mem_append,List.not_mem_nil,or_false] at hk⊢
  rcases hk with hk |hk |hk |hk
  ·exact .inl (.inl hk)
  ·exact .inl (.inr (.inl hk))
  ·exact .inl (.inr (.inr (.inl hk)))
  ·subst hk;exact hg.imp (fun q=> .inr (.inr (.inr q))) id
 ·exact (hf.mono (T:=L.fp) fun k hk=> .inl (by simp [TrL.fp,hk])).setCell (.inl (by simp [TrL.fp])) _
def Tr.putB (T:Tr) (l:Int):Bool:=T.isB (tv l)&&decide ((T.cel (tv l)).v=0∧(T.cel (tv l)).l= -1∧(T.cel (tv l)).r=0)
theorem trail_put_p_out (w:World) (L:TrL) (T:Tr) (h:TrAt w L T) (l r:Int) (hl:0≤l) (hhi:l≤9223372036854775807) (hb:T.isB (l)=false):
  Calls Tryz.prog 87 #[.pointer (some ⟨L.a,0,none⟩), .int .i64 l, .int .i64 r] w fun e w'=>e= .returned (.bool false)∧w=w':=by
 have HB:=Lib.hid hb
 have HH:=Lib.hid h
 clear hb h
 go_enter Tryz.func87,Tryz.ntmps87
 go_wp2_with fail
 refine (trail_is _ L T HH.out _ false HB.out).mono ?_
 rintro e w1 ⟨rfl,rfl⟩
 go_wp2_with fail
 go_ret
 exact ⟨rfl,rfl⟩
theorem trail_put_n_out (w:World) (L:TrL) (T:Tr) (h:TrAt w L T) (l r:Int) (hl:l<0) (hlo: -9223372036854775807≤l) (hb:T.isB (-l)=false):
  Calls Tryz.prog 87 #[.pointer (some ⟨L.a,0,none⟩), .int .i64 l, .int .i64 r] w fun e w'=>e= .returned (.bool false)∧w=w':=by
 have HB:=Lib.hid hb
 have HH:=Lib.hid h
 clear hb h
 go_enter Tryz.func87,Tryz.ntmps87
 go_wp2_with fail
 refine (trail_is _ L T HH.out _ false HB.out).mono ?_
 rintro e w1 ⟨rfl,rfl⟩
 go_wp2_with fail
 go_ret
 exact ⟨rfl,rfl⟩
theorem trail_put_m_out (w:World) (L:TrL) (T:Tr) (h:TrAt w L T) (l r:Int) (hl:l<0) (hw:wrap64 (-l)=l) (hb:T.isB (l)=false):
  Calls Tryz.prog 87 #[.pointer (some ⟨L.a,0,none⟩), .int .i64 l, .int .i64 r] w fun e w'=>e= .returned (.bool false)∧w=w':=by
 have HB:=Lib.hid hb
 have HH:=Lib.hid h
 clear hb h
 go_enter Tryz.func87,Tryz.ntmps87
 go_wp2_with fail
 refine (trail_is _ L T HH.out _ false HB.out).mono ?_
 rintro e w1 ⟨rfl,rfl⟩
 go_wp2_with fail
 go_ret
 exact ⟨rfl,rfl⟩
theorem trail_put_p_taken (w:World) (L:TrL) (T:Tr) (h:TrAt w L T) (l r:Int) (hl:0≤l) (hhi:l≤9223372036854775807) (hb:T.isB (l)=true) (hf:¬((T.cel (l)).v=0∧(T.cel (l)).l= -1∧(T.cel (l)).r=0)):
  Calls Tryz.prog 87 #[.pointer (some ⟨L.a,0,none⟩), .int .i64 l, .int .i64 r] w fun e w'=>e= .returned (.bool false)∧w=w':=by
 have o0:=h.obj.cell 0
 simp at o0
 obtain ⟨h0,h1⟩:=Tr.isB_true hb
 obtain ⟨g,hg,c0,c1,c2,hfz⟩:=h.cell_at (v:=l) (by omega) h1
 rw [hg] at o0
 obtain ⟨x,hx⟩:∃x,(T.cel (l)).v=x:=⟨_,rfl⟩
 obtain ⟨y,hy⟩:∃y,(T.cel (l)).l=y:=⟨_,rfl⟩
 obtain ⟨z,hz⟩:∃z,(T.cel (l)).r=z:=⟨_,rfl⟩
 rw [hx] at c0 hf
 rw [hy] at c1 hf
 rw [hz] at c2 hf
 have HB:=Lib.hid hb
 have HH:=Lib.hid h
 clear hb h hg hfz hx hy hz
 by_cases e0:x=0
 ·subst e0
  by_cases e1:y= -1
  ·subst e1
   have e2:z≠0:=fun e=>hf ⟨rfl,rfl,e⟩
   clear hf
   go_enter Tryz.func87,Tryz.ntmps87
   go_wp2_with fail
   refine (trail_is _ L T HH.out _ true HB.out).mono ?_
   rintro e w1 ⟨rfl,rfl⟩
   go_wp2_with fail
   go_ret
   exact ⟨rfl,rfl⟩
  ·clear hf
   go_enter Tryz.func87,Tryz.ntmps87
   go_wp2_with fail
   refine (trail_is _ L T HH.out _ true HB.out).mono ?_
   rintro e w1 ⟨rfl,rfl⟩
   go_wp2_with fail
   go_ret
   exact ⟨rfl,rfl⟩
 ·clear hf
  go_enter Tryz.func87,Tryz.ntmps87
  go_wp2_with fail
  refine (trail_is _ L T HH.out _ true HB.out).mono ?_
  rintro e w1 ⟨rfl,rfl⟩
  go_wp2_with fail
  go_ret
  exact ⟨rfl,rfl⟩
theorem trail_put_n_taken (w:World) (L:TrL) (T:Tr) (h:TrAt w L T) (l r:Int) (hl:l<0) (hlo: -9223372036854775807≤l) (hb:T.isB (-l)=true) (hf:¬((T.cel (-l)).v=0∧(T.cel (-l)).l= -1∧(T.cel (-l)).r=0)):
  Calls Tryz.prog 87 #[.pointer (some ⟨L.a,0,none⟩), .int .i64 l, .int .i64 r] w fun e w'=>e= .returned (.bool false)∧w=w':=by
 have o0:=h.obj.cell 0
 simp at o0
 obtain ⟨h0,h1⟩:=Tr.isB_true hb
 obtain ⟨g,hg,c0,c1,c2,hfz⟩:=h.cell_at (v:= -l) (by omega) h1
 rw [hg] at o0
 obtain ⟨x,hx⟩:∃x,(T.cel (-l)).v=x:=⟨_,rfl⟩
 obtain ⟨y,hy⟩:∃y,(T.cel (-l)).l=y:=⟨_,rfl⟩
 obtain ⟨z,hz⟩:∃z,(T.cel (-l)).r=z:=⟨_,rfl⟩
 rw [hx] at c0 hf
 rw [hy] at c1 hf
 rw [hz] at c2 hf
 have HB:=Lib.hid hb
 have HH:=Lib.hid h
 clear hb h hg hfz hx hy hz
 by_cases e0:x=0
 ·subst e0
  by_cases e1:y= -1
  ·subst e1
   have e2:z≠0:=fun e=>hf ⟨rfl,rfl,e⟩
   clear hf
   go_enter Tryz.func87,Tryz.ntmps87
   go_wp2_with fail
   refine (trail_is _ L T HH.out _ true HB.out).mono ?_
   rintro e w1 ⟨rfl,rfl⟩
   go_wp2_with fail
   go_ret
   exact ⟨rfl,rfl⟩
  ·clear hf
   go_enter Tryz.func87,Tryz.ntmps87
   go_wp2_with fail
   refine (trail_is _ L T HH.out _ true HB.out).mono ?_
   rintro e w1 ⟨rfl,rfl⟩
   go_wp2_with fail
   go_ret
   exact ⟨rfl,rfl⟩
 ·clear hf
  go_enter Tryz.func87,Tryz.ntmps87
  go_wp2_with fail
  refine (trail_is _ L T HH.out _ true HB.out).mono ?_
  rintro e w1 ⟨rfl,rfl⟩
  go_wp2_with fail
  go_ret
  exact ⟨rfl,rfl⟩
theorem Tr.free_of {T:Tr} {v:Int} (h:(T.cel v).v=0∧(T.cel v).l= -1∧(T.cel v).r=0):T.cel v=Cel.free:=by
 obtain ⟨a,b,c⟩:=h
 cases hc:T.cel v with
 |mk x y z=>rw [hc] at a b c;simp only at a b c;subst a;subst b;subst c;rfl
theorem trail_put (w:World) (L:TrL) (T:Tr) (h:TrAt w L T) (l r:Int) (hlo: -9223372036854775808≤l) (hhi:l≤9223372036854775807) (hlen:T.lits.length<17592186044416):
  Calls Tryz.prog 87 #[.pointer (some ⟨L.a,0,none⟩), .int .i64 l, .int .i64 r] w fun e w'=>e= .returned (.bool (T.putB l))∧∃L',TrAt w' L' (if T.putB l=true then T.putF l r else T)∧L.ext L' w∧Fr L.fp w w':=by
 have stay:∀e w',(e=Ending.returned (.bool false)∧w=w')→T.putB l=false→(e= .returned (.bool (T.putB l))∧∃L',TrAt w' L' (if T.putB l=true then T.putF l r else T)∧L.ext L' w∧Fr L.fp w w'):=by
  rintro e w' ⟨rfl,rfl⟩ hp
  rw [hp]
  exact ⟨rfl,L,h,L.ext_refl w,Fr.refl _ _⟩
 have go:∀e w',(e=Ending.returned (.bool true)∧∃L',TrAt w' L' (T.putF l r)∧L.ext L' w∧Fr L.fp w w')→T.putB l=true→(e= .returned (.bool (T.putB l))∧∃L',TrAt w' L' (if T.putB l=true then T.putF l r else T)∧L.ext L' w∧Fr L.fp w w'):=by
  rintro e w' ⟨rfl,h⟩ hp
  rw [hp]
  exact ⟨rfl,h⟩
 unfold Tr.putB at stay go⊢
 rcases lit_cases l hlo with ⟨hl,hv⟩ |⟨hl,hl2,hv⟩ |⟨hl,hv,hw⟩
 ·rw [hv] at stay go⊢
  cases hb:T.isB l with
  |false=>exact (trail_put_p_out w L T h l r hl hhi hb).mono fun e w' he=>by rw [hb] at stay;exact stay e w' he rfl
  |true=>
   by_cases hf:(T.cel l).v=0∧(T.cel l).l= -1∧(T.cel l).r=0
   ·exact (trail_put_p w L T h l r hl hhi hb (Tr.free_of hf) hlen).mono fun e w' he=>by rw [hb] at go;exact go e w' he (by simp [hf])
   ·exact (trail_put_p_taken w L T h l r hl hhi hb hf).mono fun e w' he=>by rw [hb] at stay;exact stay e w' he (by simp [hf])
 ·rw [hv] at stay go⊢
  cases hb:T.isB (-l) with
  |false=>exact (trail_put_n_out w L T h l r hl hl2 hb).mono fun e w' he=>by rw [hb] at stay;exact stay e w' he rfl
  |true=>
   by_cases hf:(T.cel (-l)).v=0∧(T.cel (-l)).l= -1∧(T.cel (-l)).r=0
   ·exact (trail_put_n w L T h l r hl hl2 hb (Tr.free_of hf) hlen).mono fun e w' he=>by rw [hb] at go;exact go e w' he (by simp [hf])
   ·exact (trail_put_n_taken w L T h l r hl hl2 hb hf).mono fun e w' he=>by rw [hb] at stay;exact stay e w' he (by simp [hf])
 ·have hb:T.isB l=false:=by
   cases hh:T.isB l with
   |false=>rfl
   |true=>have :=(Tr.isB_true hh).1;omega
  rw [hv,hb] at stay⊢
  exact (trail_put_m_out w L T h l r hl hw hb).mono fun e w' he=>stay e w' he rfl
def Tr.deepF (T:Tr):Tr:={ T with levels:=T.levels++[(T.lits.length:Int)] }
theorem trail_deeper (w:World) (L:TrL) (T:Tr) (h:TrAt w L T) (hc:0<T.cells.length) (hlen:T.levels.length<17592186044416):
  Calls Tryz.prog 173 #[.pointer (some ⟨L.a,0,none⟩)] w fun e w'=>e= .returned (.int .i64 (T.levels.length+1:Nat))∧∃L',TrAt w' L' T.deepF∧L.ext L' w∧Fr L.fp w w':=by
 have o0:=h.obj.cell 0
 simp at o0
 have ho:=h.obj
 have HN:Hid (L.a∉blks L.A3):=fun hk=>((tnodup3 h.nodup).2.2 _ hk).1 rfl
 have HH:=Lib.hid h
 have HO:=Lib.hid ho
 clear h ho
 go_enter Tryz.func173,Tryz.ntmps173
 go_wp2_with fail
 refine wp_region_noPanic ?_
 refine wp_region_C (fun w':World=>At w' L.a 153 #[.slice L.A1 T.cells.length L.c1, .slice L.A2 T.lits.length L.c2, .slice L.A3 T.levels.length L.c3]) 14 (by kernel_rfl) (HO.out.drew) (fun hT0=> ?_)
 apply TB 10 [(0,[]),(1,[]),(2,[]),(3,[]),(4,[4,14]),(5,[]),(6,[]),(7,[]),(8,[8,14]),(9,[])];kernel_rfl;rfl;· (repeat (apply TBc;rfl;rfl;(· intro w hSw;(try (have hSw:=hSw.resolve_left (List.cons_ne_nil _ _);(have s1:=hSw.cell 1;have s2:=hSw.cell 2;simp at s1 s2)));go_simp<;>with_reducible rfl);try simp only [Act.put,q5,q6,q7]));exact TBn
 exact hT0;intro hT0
 refine R2 10 (by kernel_rfl) (by rfl) hT0 fun K hK hSx=> ?_
 go_simp
 refine hK.out _ _ (.inr ?_) (fun hT11=> ?_)
 ·first |exact hSx.alloc _ |exact hfA.at_ hSx HN.out
 clear hK K
 try simp only [Act.put,q5,q6,q7]
 refine R2 11 (by kernel_rfl) (by rfl) hT11 fun K hK hSx=> ?_
 (refine step_append_int rfl _ _ rfl L.A3 L.c3 T.levels _ rfl rfl ?hownr3u12 _ 1 T.lits.length rfl ?hcellr3u12 (by omega) ?_;(case hownr3u12=>exact HH.out.levels.drew.alloc _);(case hcellr3u12=>simp);intro gA cA wA hiA hfA hgA hsA)
 refine hK.out _ _ (.inr ?_) (fun hT12=> ?_)
 ·first |exact hSx.alloc _ |exact hfA.at_ hSx HN.out
 clear hK K
 try simp only [Act.put,q5,q6,q7]
 apply TB 2 [(12,[]),(13,[])];kernel_rfl;rfl;· (repeat (apply TBc;rfl;rfl;(· intro w hSw;go_simp<;>with_reducible rfl);try simp only [Act.put,q5,q6,q7]));exact TBn
 exact hT12;intro hT12
 refine R2 14 (by kernel_rfl) (by rfl) hT12 fun K hK hSx=> ?_
 (have b1:=hSx.cell 2;have b3:=hSx.frozen 2;simp at b1;go_simp)
 refine hK.out _ _ (.inl rfl) (fun hT15=> ?_)
 clear hK K
 try simp only [Act.put,q5,q6,q7]
 refine wpAnyC_done (by kernel_rfl) ?_ _
 refine NoPanic.normal ?_
 have qA:gA∈blks L.A3∨(w.drew.alloc (.cells #[.int .i64 (T.lits.length:Int)] 3)).heap.size≤gA:=hgA.imp id (fun e=>by rw [e];exact Nat.le_refl _)
 obtain ⟨r1,r2,r3⟩:=(HH.out.drew.alloc _).newLevels hiA hfA qA
 have HI:=Lib.hid r1
 have HX:=Lib.hid r2
 have HF:=Lib.hid r3
 have b1:=r1.obj.cell 2
 simp at b1
 clear r1 r2 r3
 go_wp2_with fail
 go_ret
 refine ⟨rfl,_,by simpa [Tr.deepF] using HI.out,⟨HX.out.1,fun k hk=>(HX.out.2 k hk).imp id (fun h=>by simp at h;omega)⟩,?_⟩
 have :=((Fr.refl L.fp w).drew.alloc (.cells #[.int .i64 (T.lits.length:Int)] 3)).trans HF.out (fun k hk=> .inl hk)
 simpa using this
def clearL (cs:List Cel) (ls:List Int):List Cel:=ls.foldl (fun cs l=>cs.set (tv l).toNat Cel.free) cs
theorem clearL_snoc (cs:List Cel) (ls:List Int) (l:Int):clearL cs (ls++[l])=(clearL cs ls).set (tv l).toNat Cel.free:=by simp [clearL]
theorem clearL_len (cs:List Cel) (ls:List Int):(clearL cs ls).length=cs.length:=by
 unfold clearL
 induction ls generalizing cs with
 |nil=>rfl
 |cons l ls ih=>rw [List.foldl_cons,ih,List.length_set]
theorem take_snoc {α:Type} [Inhabited α] (l:List α) (j:Nat) (h:j<l.length):l.take (j+1)=l.take j++[l[j]!]:=by
 rw [List.take_add_one,List.getElem?_eq_getElem h,List.getElem!_eq_getElem?_getD,List.getElem?_eq_getElem h];rfl
theorem drop_get {α:Type} [Inhabited α] (l:List α) (n j:Nat):(l.drop n)[j]! =l[n+j]! :=by
 simp [List.getElem!_eq_getElem?_getD,List.getElem?_drop]
def Tr.cutF (T:Tr) (m n:Nat):Tr:={ cells:=clearL T.cells (T.lits.drop n),lits:=T.lits.take n,levels:=T.levels.take m }
def Tr.backF (T:Tr) (m:Nat):Tr:=if m<T.levels.length then T.cutF m (T.levels[m]!).toNat else T
theorem TrAt.cut {w:World} {L:TrL} {T:Tr} (h:TrAt w L T) (n m:Nat) (hn:n≤T.lits.length) (hm:m≤T.levels.length):
  TrAt ((w.setCell ⟨L.a,1,none⟩ (.slice L.A2 n L.c2)).setCell ⟨L.a,2,none⟩ (.slice L.A3 m L.c3)) L { T with lits:=T.lits.take n,levels:=T.levels.take m }:=by
 obtain ⟨h1,h2,h3⟩:=tnodup3 h.nodup
 have n1:L.a∉blks L.A1:=fun k=>(h1 _ k).1 rfl
 have n2:L.a∉blks L.A2:=fun k=>(h2 _ k).1 rfl
 have n3:L.a∉blks L.A3:=fun k=>(h3 _ k).1 rfl
 refine ⟨?_,(h.cells.far n1 _).far n1 _,((h.lits.take_ n).far n2 _).far n2 _,((h.levels.take_ m).far n3 _).far n3 _,h.nodup⟩
 have :=(h.obj.set_ 1 (.slice L.A2 n L.c2)).set_ 2 (.slice L.A3 m L.c3)
 simpa [Nat.min_eq_left hn,Nat.min_eq_left hm] using this
theorem TrAt.cut2 {w:World} {L:TrL} {T:Tr} (h:TrAt w L T) (n m:Nat) (hn:n≤T.lits.length) (hm:m≤T.levels.length):
  TrAt ((w.setCell ⟨L.a,2,none⟩ (.slice L.A3 m L.c3)).setCell ⟨L.a,1,none⟩ (.slice L.A2 n L.c2)) L { T with lits:=T.lits.take n,levels:=T.levels.take m }:=by
 obtain ⟨h1,h2,h3⟩:=tnodup3 h.nodup
 have n1:L.a∉blks L.A1:=fun k=>(h1 _ k).1 rfl
 have n2:L.a∉blks L.A2:=fun k=>(h2 _ k).1 rfl
 have n3:L.a∉blks L.A3:=fun k=>(h3 _ k).1 rfl
 refine ⟨?_,(h.cells.far n1 _).far n1 _,((h.lits.take_ n).far n2 _).far n2 _,((h.levels.take_ m).far n3 _).far n3 _,h.nodup⟩
 have :=(h.obj.set_ 2 (.slice L.A3 m L.c3)).set_ 1 (.slice L.A2 n L.c2)
 simpa [Nat.min_eq_left hn,Nat.min_eq_left hm] using this
theorem trail_back_p_out (w:World) (L:TrL) (T:Tr) (h:TrAt w L T) (m:Nat) (hm:T.levels.length≤m):
  Calls Tryz.prog 145 #[.pointer (some ⟨L.a,0,none⟩), .int .i64 m] w fun e w'=>e= .returned (.tuple #[])∧w=w':=by
 have o2:=h.obj.cell 2
 simp at o2
 clear h
 go_enter Tryz.func145,Tryz.ntmps145
 go_wp2_with fail
 refine bodyPost_ret (results_none rfl _ _ _) rfl ?_
 exact ⟨rfl,rfl⟩
theorem trail_back_p_go (w:World) (L:TrL) (T:Tr) (h:TrAt w L T) (m:Nat) (hm:m<T.levels.length) (n:Nat) (hn:T.levels[m]! =n) (hnl:n≤T.lits.length) (hlits:∀j:Nat,j<T.lits.length→T.isB (tv T.lits[j]!)=true):
  Calls Tryz.prog 145 #[.pointer (some ⟨L.a,0,none⟩), .int .i64 m] w fun e w'=>e= .returned (.tuple #[])∧TrAt w' L (T.cutF m n)∧Fr L.fp w w':=by
 have o1:=h.obj.cell 1
 have o2:=h.obj.cell 2
 simp at o1 o2
 obtain ⟨g3,hg3,_⟩:=h.levels.pos (i:=m) hm
 have c3:=h.levels
 rw [hg3] at c3 o2
 have cl:=c3.cell (i:=m) hm
 rw [hn] at cl
 have hm':(m:Int)<T.levels.length:=by omega
 have hdec:decide (T.levels.length≤m)=false:=decide_eq_false (by omega)
 have hcl:=h.cells.len
 unfold maxLen at hcl
 have H2:=Lib.hid h.lits.form
 have HH:=Lib.hid h
 have HN:=Lib.hid hn
 have HL:=Lib.hid hlits
 have HG3:=Lib.hid hg3
 have HCL:=Lib.hid hcl
 have hnl':(n:Int)≤T.lits.length:=by omega
 have hcap3:m≤L.c3:=by
  rcases h.levels.form with ⟨_,_,h0⟩ |⟨_,_,_,h0,_⟩
  ·rw [h0] at hm;simp at hm
  ·omega
 clear h hn hlits hg3 c3 hcl
 by_cases hlt:n<T.lits.length
 ·rcases H2.out with ⟨hA,hc,he⟩ |⟨g,hA,hgl,hlc,hcm⟩
  ·rw [he] at hlt
   exact absurd hlt (Nat.not_lt_zero _)
  rw [hA] at o1
  have HA:=Lib.hid hA
  unfold maxLen at hcm
  have hn2:n<L.c2:=by omega
  have hn3:¬L.c2=n:=by omega
  clear hA H2
  go_enter Tryz.func145,Tryz.ntmps145
  go_wp2_with fail
  clear o1 o2 cl
  try rw [hdec]
  go_loopg [34] (T.lits.length-n) (fun gk i wr=>∃j:Nat,j+gk=T.lits.length-n∧i= .int .i64 j∧TrAt wr L { T with cells:=clearL T.cells ((T.lits.drop n).take j) }∧Fr L.fp w wr)
  case atStart=>exact ⟨0,by omega,rfl,by simpa [clearL] using HH.out,Fr.refl _ _⟩
  case round=>
   obtain ⟨j,hj,rfl,hT,hF⟩:=hrel
   have o0:=hT.obj.cell 0
   have o1:=hT.obj.cell 1
   have o2:=hT.obj.cell 2
   have oa:=hT.obj.frozen 1
   have ob:=hT.obj.frozen 2
   simp [clearL_len] at o0 o1 o2
   have HF:=Lib.hid hF
   have HJ:=Lib.hid hj
   clear hF hj
   by_cases hjl:j<T.lits.length-n
   ·have hjl':(j:Int)<(T.lits.length-n:Nat):=by omega
    have ci:=hT.lits
    rw [HA.out] at ci o1
    have c4:=ci.cell (i:=n+j) (by show n+j<T.lits.length;omega)
    have hx:=HL.out (n+j) (by omega)
    have hsn:(T.lits.drop n).take (j+1)=(T.lits.drop n).take j++[T.lits[n+j]!]:=by
     rw [take_snoc _ _ (by simp;omega),drop_get]
    simp only at c4
    obtain ⟨x,hxe⟩:∃x,T.lits[n+j]! =x:=⟨_,rfl⟩
    rw [hxe] at c4 hx hsn
    obtain ⟨h0,h1⟩:=Tr.isB_true hx
    have hl1:((clearL T.cells ((T.lits.drop n).take j)).length:Int)=T.cells.length:=by rw [clearL_len]
    have hcl:=HCL.out
    have HS:=Lib.hid hsn
    clear ci hx hsn hxe
    by_cases hx0:0≤x
    ·have ht:=tv_nat hx0
     rw [ht] at h0 h1
     obtain ⟨gc,hgc,b0,b1,b2,fz⟩:=hT.cell_at (v:=x) (by omega) (by simpa [clearL_len] using h1)
     rw [hgc] at o0
     have f0:=fz (x.toNat*3)
     have f1:=fz (x.toNat*3+1)
     have f2:=fz (x.toNat*3+2)
     have hM:=hT.setC hgc (i:=x.toNat) (by rw [clearL_len];omega) Cel.free
     have hMF:=TrAt.setC_fr wr L hgc (x.toNat*3) (x.toNat*3+1) (x.toNat*3+2) (.int .i64 0) (.int .i64 (-1)) (.int .i64 0)
     have HM:=Lib.hid hM
     have HMF:=Lib.hid hMF
     have HT:=Lib.hid ht
     clear hM hMF ht hT fz hgc hl1
     go_wp2_with fail
     go_roundg (gk-1)
     case measure=>have :=HJ.out;omega
     case rel=>exact ⟨j+1,by have :=HJ.out;omega,by go_num,by rw [HS.out,clearL_snoc,HT.out];exact HM.out,HF.out.then_ HMF.out⟩
    ·have hx1:x<0:=by omega
     have hx2: -9223372036854775808<x:=by
      have hb:=HL.out
      by_cases e:x= -9223372036854775808
      ·rw [tv_least e] at h0;omega
      ·have h1':=h1
       unfold tv at h1'
       rw [if_neg e,if_pos hx1] at h1'
       omega
     have ht:=tv_neg hx1 hx2
     rw [ht] at h0 h1
     obtain ⟨gc,hgc,b0,b1,b2,fz⟩:=hT.cell_at (v:= -x) (by omega) (by simpa [clearL_len] using h1)
     rw [hgc] at o0
     have f0:=fz ((-x).toNat*3)
     have f1:=fz ((-x).toNat*3+1)
     have f2:=fz ((-x).toNat*3+2)
     have hM:=hT.setC hgc (i:=(-x).toNat) (by rw [clearL_len];omega) Cel.free
     have hMF:=TrAt.setC_fr wr L hgc ((-x).toNat*3) ((-x).toNat*3+1) ((-x).toNat*3+2) (.int .i64 0) (.int .i64 (-1)) (.int .i64 0)
     have HM:=Lib.hid hM
     have HMF:=Lib.hid hMF
     have HT:=Lib.hid ht
     clear hM hMF ht hT fz hgc hl1
     go_wp2_with fail
     go_roundg (gk-1)
     case measure=>have :=HJ.out;omega
     case rel=>exact ⟨j+1,by have :=HJ.out;omega,by go_num,by rw [HS.out,clearL_snoc,HT.out];exact HM.out,HF.out.then_ HMF.out⟩
   ·have hje:j=T.lits.length-n:=by have :=HJ.out;omega
    have hjl':((T.lits.length-n:Nat):Int)≤j:=by omega
    have htk:(T.lits.drop n).take j=T.lits.drop n:=by rw [hje,List.take_of_length_le (by simp)]
    have hC1:=hT.cut n m (by omega) (by show m≤T.levels.length;omega)
    have hC2:=hT.cut2 n m (by omega) (by show m≤T.levels.length;omega)
    rw [htk] at hC1 hC2
    rw [HA.out] at o1
    rw [HG3.out] at o2
    rw [HA.out,HG3.out] at hC1 hC2
    have HC1:=Lib.hid hC1
    have HC2:=Lib.hid hC2
    have hlta:=hT.lt L.a (by simp [TrL.fp])
    clear hC1 hC2 htk hje hT
    go_wp2_with fail
    go_region
    all_goals go_end0
    all_goals refine ⟨rfl,?_,?_⟩
    all_goals first |exact HC1.out.drew |exact HC2.out.drew | (refine ((HF.out.setCell (.inl ?_) _).setCell (.inl ?_) _).drew<;>simp [TrL.fp])
 ·have hne:T.lits.length=n:=by omega
  have hz:T.lits.drop n=[]:=by rw [←hne];simp
  have hC1:=HH.out.cut n m (by omega) (by omega)
  have hC2:=HH.out.cut2 n m (by omega) (by omega)
  have HC1:=Lib.hid hC1
  have HC2:=Lib.hid hC2
  have HZ:Hid (T.cutF m n={ T with lits:=T.lits.take n,levels:=T.levels.take m }):=by show _=_;unfold Tr.cutF;rw [hz];rfl
  have hlta:=HH.out.lt L.a (by simp [TrL.fp])
  have oa:=HH.out.obj.frozen 1
  have ob:=HH.out.obj.frozen 2
  rw [hne] at o1 hnl'
  clear hC1 hC2 hz hnl
  rw [HZ.out]
  rcases H2.out with ⟨hA,hc,he⟩ |⟨g,hA,hgl,hlc,hcm⟩
  ·have en:n=0:=by rw [he] at hne;simpa using hne.symm
   subst en
   rw [hA,hc] at o1
   rw [hA,hc,HG3.out] at HC1 HC2
   clear hA hc he H2 hne hlt
   go_enter Tryz.func145,Tryz.ntmps145
   go_wp2_with fail
   try rw [hdec]
   go_loopg [34] 0 (fun gk i wr=>i= .int .i64 0∧w=wr)
   case atStart=>exact ⟨rfl,rfl⟩
   case round=>
    obtain ⟨rfl,rfl⟩:=hrel
    go_wp2_with fail
    go_region
    all_goals go_end0
    all_goals refine ⟨rfl,?_,?_⟩
    all_goals first |exact HC1.out.drew |exact HC2.out.drew | (refine (((Fr.refl L.fp w).setCell (.inl ?_) _).setCell (.inl ?_) _).drew<;>simp [TrL.fp])
  ·rw [hA] at o1
   rw [hA,HG3.out] at HC1 HC2
   have hn2:n≤L.c2:=by omega
   clear hA H2 hne hlt hlc
   by_cases hcc:L.c2=n
   ·rw [hcc] at HC1 HC2
    go_enter Tryz.func145,Tryz.ntmps145
    go_wp2_with fail
    try rw [hdec]
    go_loopg [34] 0 (fun gk i wr=>i= .int .i64 0∧w=wr)
    case atStart=>exact ⟨rfl,rfl⟩
    case round=>
     obtain ⟨rfl,rfl⟩:=hrel
     go_wp2_with fail
     go_region
     all_goals go_end0
     all_goals refine ⟨rfl,?_,?_⟩
     all_goals first |exact HC1.out.drew |exact HC2.out.drew | (refine (((Fr.refl L.fp w).setCell (.inl ?_) _).setCell (.inl ?_) _).drew<;>simp [TrL.fp])
   ·
    go_enter Tryz.func145,Tryz.ntmps145
    go_wp2_with fail
    try rw [hdec]
    go_loopg [34] 0 (fun gk i wr=>i= .int .i64 0∧w=wr)
    case atStart=>exact ⟨rfl,rfl⟩
    case round=>
     obtain ⟨rfl,rfl⟩:=hrel
     go_wp2_with fail
     go_region
     all_goals go_end0
     all_goals refine ⟨rfl,?_,?_⟩
     all_goals first |exact HC1.out.drew |exact HC2.out.drew | (refine (((Fr.refl L.fp w).setCell (.inl ?_) _).setCell (.inl ?_) _).drew<;>simp [TrL.fp])
theorem trail_back_n_out (w:World) (L:TrL) (T:Tr) (h:TrAt w L T) (level:Int) (hl:level<0) (hm:T.levels.length≤0):
  Calls Tryz.prog 145 #[.pointer (some ⟨L.a,0,none⟩), .int .i64 level] w fun e w'=>e= .returned (.tuple #[])∧w=w':=by
 have o2:=h.obj.cell 2
 simp at o2
 have he0:T.levels=[]:=by simpa using hm
 rw [he0] at o2
 clear he0 hm
 clear h
 go_enter Tryz.func145,Tryz.ntmps145
 go_wp2_with fail
 refine bodyPost_ret (results_none rfl _ _ _) rfl ?_
 exact ⟨rfl,rfl⟩
theorem trail_back_n_go (w:World) (L:TrL) (T:Tr) (h:TrAt w L T) (level:Int) (hl:level<0) (hm:0<T.levels.length) (n:Nat) (hn:T.levels[0]! =n) (hnl:n≤T.lits.length) (hlits:∀j:Nat,j<T.lits.length→T.isB (tv T.lits[j]!)=true):
  Calls Tryz.prog 145 #[.pointer (some ⟨L.a,0,none⟩), .int .i64 level] w fun e w'=>e= .returned (.tuple #[])∧TrAt w' L (T.cutF 0 n)∧Fr L.fp w w':=by
 have o1:=h.obj.cell 1
 have o2:=h.obj.cell 2
 simp at o1 o2
 obtain ⟨g3,hg3,_⟩:=h.levels.pos (i:=0) hm
 have c3:=h.levels
 rw [hg3] at c3 o2
 have cl:=c3.cell (i:=0) hm
 rw [hn] at cl
 have hm':(0:Int)<T.levels.length:=by omega
 have hne0:¬T.levels=[]:=by rintro e;rw [e] at hm;simp at hm
 have hdec:decide (T.levels=[])=false:=decide_eq_false hne0
 have hcl:=h.cells.len
 unfold maxLen at hcl
 have H2:=Lib.hid h.lits.form
 have HH:=Lib.hid h
 have HN:=Lib.hid hn
 have HL:=Lib.hid hlits
 have HG3:=Lib.hid hg3
 have HCL:=Lib.hid hcl
 have hnl':(n:Int)≤T.lits.length:=by omega
 have hcap3:0≤L.c3:=by
  rcases h.levels.form with ⟨_,_,h0⟩ |⟨_,_,_,h0,_⟩
  ·rw [h0] at hm;simp at hm
  ·omega
 clear h hn hlits hg3 c3 hcl
 by_cases hlt:n<T.lits.length
 ·rcases H2.out with ⟨hA,hc,he⟩ |⟨g,hA,hgl,hlc,hcm⟩
  ·rw [he] at hlt
   exact absurd hlt (Nat.not_lt_zero _)
  rw [hA] at o1
  have HA:=Lib.hid hA
  unfold maxLen at hcm
  have hn2:n<L.c2:=by omega
  have hn3:¬L.c2=n:=by omega
  clear hA H2
  go_enter Tryz.func145,Tryz.ntmps145
  go_wp2_with fail
  clear o1 o2 cl
  try rw [hdec]
  go_loopg [34] (T.lits.length-n) (fun gk i wr=>∃j:Nat,j+gk=T.lits.length-n∧i= .int .i64 j∧TrAt wr L { T with cells:=clearL T.cells ((T.lits.drop n).take j) }∧Fr L.fp w wr)
  case atStart=>exact ⟨0,by omega,rfl,by simpa [clearL] using HH.out,Fr.refl _ _⟩
  case round=>
   obtain ⟨j,hj,rfl,hT,hF⟩:=hrel
   have o0:=hT.obj.cell 0
   have o1:=hT.obj.cell 1
   have o2:=hT.obj.cell 2
   have oa:=hT.obj.frozen 1
   have ob:=hT.obj.frozen 2
   simp [clearL_len] at o0 o1 o2
   have HF:=Lib.hid hF
   have HJ:=Lib.hid hj
   clear hF hj
   by_cases hjl:j<T.lits.length-n
   ·have hjl':(j:Int)<(T.lits.length-n:Nat):=by omega
    have ci:=hT.lits
    rw [HA.out] at ci o1
    have c4:=ci.cell (i:=n+j) (by show n+j<T.lits.length;omega)
    have hx:=HL.out (n+j) (by omega)
    have hsn:(T.lits.drop n).take (j+1)=(T.lits.drop n).take j++[T.lits[n+j]!]:=by
     rw [take_snoc _ _ (by simp;omega),drop_get]
    simp only at c4
    obtain ⟨x,hxe⟩:∃x,T.lits[n+j]! =x:=⟨_,rfl⟩
    rw [hxe] at c4 hx hsn
    obtain ⟨h0,h1⟩:=Tr.isB_true hx
    have hl1:((clearL T.cells ((T.lits.drop n).take j)).length:Int)=T.cells.length:=by rw [clearL_len]
    have hcl:=HCL.out
    have HS:=Lib.hid hsn
    clear ci hx hsn hxe
    by_cases hx0:0≤x
    ·have ht:=tv_nat hx0
     rw [ht] at h0 h1
     obtain ⟨gc,hgc,b0,b1,b2,fz⟩:=hT.cell_at (v:=x) (by omega) (by simpa [clearL_len] using h1)
     rw [hgc] at o0
     have f0:=fz (x.toNat*3)
     have f1:=fz (x.toNat*3+1)
     have f2:=fz (x.toNat*3+2)
     have hM:=hT.setC hgc (i:=x.toNat) (by rw [clearL_len];omega) Cel.free
     have hMF:=TrAt.setC_fr wr L hgc (x.toNat*3) (x.toNat*3+1) (x.toNat*3+2) (.int .i64 0) (.int .i64 (-1)) (.int .i64 0)
     have HM:=Lib.hid hM
     have HMF:=Lib.hid hMF
     have HT:=Lib.hid ht
     clear hM hMF ht hT fz hgc hl1
     go_wp2_with fail
     go_roundg (gk-1)
     case measure=>have :=HJ.out;omega
     case rel=>exact ⟨j+1,by have :=HJ.out;omega,by go_num,by rw [HS.out,clearL_snoc,HT.out];exact HM.out,HF.out.then_ HMF.out⟩
    ·have hx1:x<0:=by omega
     have hx2: -9223372036854775808<x:=by
      have hb:=HL.out
      by_cases e:x= -9223372036854775808
      ·rw [tv_least e] at h0;omega
      ·have h1':=h1
       unfold tv at h1'
       rw [if_neg e,if_pos hx1] at h1'
       omega
     have ht:=tv_neg hx1 hx2
     rw [ht] at h0 h1
     obtain ⟨gc,hgc,b0,b1,b2,fz⟩:=hT.cell_at (v:= -x) (by omega) (by simpa [clearL_len] using h1)
     rw [hgc] at o0
     have f0:=fz ((-x).toNat*3)
     have f1:=fz ((-x).toNat*3+1)
     have f2:=fz ((-x).toNat*3+2)
     have hM:=hT.setC hgc (i:=(-x).toNat) (by rw [clearL_len];omega) Cel.free
     have hMF:=TrAt.setC_fr wr L hgc ((-x).toNat*3) ((-x).toNat*3+1) ((-x).toNat*3+2) (.int .i64 0) (.int .i64 (-1)) (.int .i64 0)
     have HM:=Lib.hid hM
     have HMF:=Lib.hid hMF
     have HT:=Lib.hid ht
     clear hM hMF ht hT fz hgc hl1
     go_wp2_with fail
     go_roundg (gk-1)
     case measure=>have :=HJ.out;omega
     case rel=>exact ⟨j+1,by have :=HJ.out;omega,by go_num,by rw [HS.out,clearL_snoc,HT.out];exact HM.out,HF.out.then_ HMF.out⟩
   ·have hje:j=T.lits.length-n:=by have :=HJ.out;omega
    have hjl':((T.lits.length-n:Nat):Int)≤j:=by omega
    have htk:(T.lits.drop n).take j=T.lits.drop n:=by rw [hje,List.take_of_length_le (by simp)]
    have hC1:=hT.cut n 0 (by omega) (by show 0≤T.levels.length;omega)
    have hC2:=hT.cut2 n 0 (by omega) (by show 0≤T.levels.length;omega)
    rw [htk] at hC1 hC2
    rw [HA.out] at o1
    rw [HG3.out] at o2
    rw [HA.out,HG3.out] at hC1 hC2
    have HC1:=Lib.hid hC1
    have HC2:=Lib.hid hC2
    have hlta:=hT.lt L.a (by simp [TrL.fp])
    clear hC1 hC2 htk hje hT
    go_wp2_with fail
    go_region
    all_goals go_end0
    all_goals refine ⟨rfl,?_,?_⟩
    all_goals first |exact HC1.out.drew |exact HC2.out.drew | (refine ((HF.out.setCell (.inl ?_) _).setCell (.inl ?_) _).drew<;>simp [TrL.fp])
 ·have hne:T.lits.length=n:=by omega
  have hz:T.lits.drop n=[]:=by rw [←hne];simp
  have hC1:=HH.out.cut n 0 (by omega) (by omega)
  have hC2:=HH.out.cut2 n 0 (by omega) (by omega)
  have HC1:=Lib.hid hC1
  have HC2:=Lib.hid hC2
  have HZ:Hid (T.cutF 0 n={ T with lits:=T.lits.take n,levels:=T.levels.take 0 }):=by show _=_;unfold Tr.cutF;rw [hz];rfl
  have hlta:=HH.out.lt L.a (by simp [TrL.fp])
  have oa:=HH.out.obj.frozen 1
  have ob:=HH.out.obj.frozen 2
  rw [hne] at o1 hnl'
  clear hC1 hC2 hz hnl
  rw [HZ.out]
  rcases H2.out with ⟨hA,hc,he⟩ |⟨g,hA,hgl,hlc,hcm⟩
  ·have en:n=0:=by rw [he] at hne;simpa using hne.symm
   subst en
   rw [hA,hc] at o1
   rw [hA,hc,HG3.out] at HC1 HC2
   clear hA hc he H2 hne hlt
   go_enter Tryz.func145,Tryz.ntmps145
   go_wp2_with fail
   try rw [hdec]
   go_loopg [34] 0 (fun gk i wr=>i= .int .i64 0∧w=wr)
   case atStart=>exact ⟨rfl,rfl⟩
   case round=>
    obtain ⟨rfl,rfl⟩:=hrel
    go_wp2_with fail
    go_region
    all_goals go_end0
    all_goals refine ⟨rfl,?_,?_⟩
    all_goals first |exact HC1.out.drew |exact HC2.out.drew | (refine (((Fr.refl L.fp w).setCell (.inl ?_) _).setCell (.inl ?_) _).drew<;>simp [TrL.fp])
  ·rw [hA] at o1
   rw [hA,HG3.out] at HC1 HC2
   have hn2:n≤L.c2:=by omega
   clear hA H2 hne hlt hlc
   by_cases hcc:L.c2=n
   ·rw [hcc] at HC1 HC2
    go_enter Tryz.func145,Tryz.ntmps145
    go_wp2_with fail
    try rw [hdec]
    go_loopg [34] 0 (fun gk i wr=>i= .int .i64 0∧w=wr)
    case atStart=>exact ⟨rfl,rfl⟩
    case round=>
     obtain ⟨rfl,rfl⟩:=hrel
     go_wp2_with fail
     go_region
     all_goals go_end0
     all_goals refine ⟨rfl,?_,?_⟩
     all_goals first |exact HC1.out.drew |exact HC2.out.drew | (refine (((Fr.refl L.fp w).setCell (.inl ?_) _).setCell (.inl ?_) _).drew<;>simp [TrL.fp])
   ·
    go_enter Tryz.func145,Tryz.ntmps145
    go_wp2_with fail
    try rw [hdec]
    go_loopg [34] 0 (fun gk i wr=>i= .int .i64 0∧w=wr)
    case atStart=>exact ⟨rfl,rfl⟩
    case round=>
     obtain ⟨rfl,rfl⟩:=hrel
     go_wp2_with fail
     go_region
     all_goals go_end0
     all_goals refine ⟨rfl,?_,?_⟩
     all_goals first |exact HC1.out.drew |exact HC2.out.drew | (refine (((Fr.refl L.fp w).setCell (.inl ?_) _).setCell (.inl ?_) _).drew<;>simp [TrL.fp])
theorem run_append_row (w:World) (t ty e:TypeId) (z:Value) (size bytes:Nat) (ht:Tryz.prog.underlying t=some (.slice e)) (hi:(Tryz.prog.info? e).map (fun i=>(i.zero,i.size,i.bytes))=some (some z,size,bytes)) (hzs:z.cells.size=size) (hsz:0<size)
  (A:Option Addr) (c n:Nat) (xs:List Value) (hown:w.ownsRow 0 e size (.slice A n c) n xs) (ad:Addr) (m c':Nat) (news:List Value) (hl:news.length=m*size)
  (hnews:∀j u,news[j]? =some u→w.cell? (ad.add j)=some u) (h1:∀u∈news,u.oneCell'=true) (h63:n+m≤maxLen) (hbytes:(n+m)*bytes≤140737488355328):
  ∃A' cap w',(Builtin.append_ #[t,t] ty #[.slice A n c, .slice (some ad) m c']).run Tryz.prog w= .ok (.slice A' (n+m) cap) w'∧
   w'.ownsRow 0 e size (.slice A' (n+m) cap) (n+m) (xs++news)∧Fr (blks A) w w'∧(∀k,k∈blks A'→k∈blks A∨k=w.heap.size)∧w.heap.size≤w'.heap.size∧(A'=none→m=0∧A=none)∧(∀a',A'=some a'→∃g,a'=⟨g,0,none⟩):=by
 obtain ⟨i0,hi,hz0,hz1,hz2⟩:=info_parts hi
 obtain ⟨v',w',hr,h2,h3,h4,h5⟩:=run_append_own_at (P:=Tryz.prog) w 0 t ty e i0 z size bytes ht hi hz0 hz1 hz2 hzs hsz (.slice A n c) n _ hown ad m c' news hl hnews h1 h63 hbytes (Nat.zero_le _)
 have hv:∃A' cap,v'= .slice A' (n+m) cap∧∀a',A'=some a'→∃g,a'=⟨g,0,none⟩:=by
  rcases h2.2 with ⟨h,h0⟩ |⟨g,cap,cur,hv,_⟩
  ·exact ⟨none,0,by rw [h,h0],fun _ h=>by cases h⟩
  ·exact ⟨_,cap,hv,fun a' h=>⟨g,by cases h;rfl⟩⟩
 obtain ⟨A',cap,rfl,hA'⟩:=hv
 refine ⟨A',cap,w',hr,h2,(Fr.refl _ w).grown h3 fun k hk=> .inl ((blks_own k).1 hk),?_,h3.size,?_,hA'⟩
 ·intro k hk
  have hk':=(blks_own (n:=n+m) (c:=cap) k).2 hk
  rcases h5 with h5 |h5
  ·exact .inl ((blks_own k).1 (h5▸hk'))
  ·rw [h5] at hk'
   exact .inr (Option.some.inj hk').symm
 ·intro e0
  subst e0
  rcases h2.2 with ⟨h,h0⟩ |⟨g,cap',cur,hv,_⟩
  ·rw [h] at h4
   obtain ⟨h6,h7⟩:=h4.1 rfl
   exact ⟨h7,by cases h6;rfl⟩
  ·cases hv
theorem wpList_append_row (w:World) {ops:Array Oper} {rest:List Oper} {o:Oper} {a:Act} {Q:Exit→Act→World→Prop} (hgd:o.guard=none) (s x:Operand) (t:TypeId)
  (ho:o.op= .call { callee:= .builtin .append,args:=#[s,x],argTypes:=#[t,t] }) (e:TypeId) (z:Value) (size bytes:Nat) (ht:Tryz.prog.underlying t=some (.slice e)) (hi:(Tryz.prog.info? e).map (fun i=>(i.zero,i.size,i.bytes))=some (some z,size,bytes)) (hzs:z.cells.size=size) (hsz:0<size)
  (A:Option Addr) (c n:Nat) (hs:a.eval s= .slice A n c) (xs:List Value) (hown:w.ownsRow 0 e size (.slice A n c) n xs) (ad:Addr) (m c':Nat) (hx:a.eval x= .slice (some ad) m c') (news:List Value) (hl:news.length=m*size)
  (hnews:∀j u,news[j]? =some u→w.cell? (ad.add j)=some u) (h1:∀u∈news,u.oneCell'=true) (h63:n+m≤maxLen) (hbytes:(n+m)*bytes≤140737488355328)
  (h:∀A' cap w',w'.ownsRow 0 e size (.slice A' (n+m) cap) (n+m) (xs++news)→Fr (blks A) w w'→(∀k,k∈blks A'→k∈blks A∨k=w.heap.size)→w.heap.size≤w'.heap.size→(A'=none→m=0∧A=none)→(∀a',A'=some a'→∃g,a'=⟨g,0,none⟩)→
   wpList Tryz.prog ops Q rest (a.put o.dst (.slice A' (n+m) cap)) w'):
  wpList Tryz.prog ops Q (o::rest) a w:=by
 refine wpList_plain hgd fun K hK=> ?_
 obtain ⟨A',cap,w',hr,h2,h3,h4,h5,h6,h7⟩:=run_append_row w t o.type e z size bytes ht hi hzs hsz A c n xs hown ad m c' news hl hnews h1 h63 hbytes
 unfold Oper.wp execOp
 simp only [ho,resolve,invoke,builtin,Sem.run_bind,Sem.run_pure,Result.andThen_ok,List.map_toArray,List.map_cons,List.map_nil,hs,hx,hr]
 exact hK _ _ (h A' cap w' h2 h3 h4 h5 h6 h7)
theorem wpList_append_one (w:World) {ops:Array Oper} {rest:List Oper} {o:Oper} {a:Act} {Q:Exit→Act→World→Prop} (hgd:o.guard=none) (s x:Operand) (t:TypeId)
  (ho:o.op= .call { callee:= .builtin .append,args:=#[s,x],argTypes:=#[t,t] }) (e:TypeId) (z:Value) (size bytes:Nat) (ht:Tryz.prog.underlying t=some (.slice e)) (hi:(Tryz.prog.info? e).map (fun i=>(i.zero,i.size,i.bytes))=some (some z,size,bytes)) (hzs:z.cells.size=size) (hsz:0<size)
  (A:Option Addr) (c n:Nat) (hs:a.eval s= .slice A n c) (xs:List Value) (hown:w.ownsRow 0 e size (.slice A n c) n xs) (ad:Addr) (c':Nat) (hx:a.eval x= .slice (some ad) 1 c') (news:List Value) (hl:news.length=size)
  (hnews:∀j u,news[j]? =some u→w.cell? (ad.add j)=some u) (h1:∀u∈news,u.oneCell'=true) (h63:n+1≤maxLen) (hbytes:(n+1)*bytes≤140737488355328)
  (h:∀g cap w',w'.ownsRow 0 e size (.slice (some ⟨g,0,none⟩) (n+1) cap) (n+1) (xs++news)→Fr (blks A) w w'→(g∈blks A∨g=w.heap.size)→w.heap.size≤w'.heap.size→
   wpList Tryz.prog ops Q rest (a.put o.dst (.slice (some ⟨g,0,none⟩) (n+1) cap)) w'):
  wpList Tryz.prog ops Q (o::rest) a w:=by
 refine wpList_append_row w hgd s x t ho e z size bytes ht hi hzs hsz A c n hs xs hown ad 1 c' hx news (by omega) hnews h1 h63 hbytes fun A' cap w' h2 h3 h4 h5 h6 h7=> ?_
 cases A' with
 |none=>exact absurd (h6 rfl).1 (by decide)
 |some a'=>
  obtain ⟨g,rfl⟩:=h7 a' rfl
  exact h g cap w' h2 h3 (h4 g (by simp [blks])) h5
end Go.Proofs.YtjmmpfjcpdepjaaGreatDoor
