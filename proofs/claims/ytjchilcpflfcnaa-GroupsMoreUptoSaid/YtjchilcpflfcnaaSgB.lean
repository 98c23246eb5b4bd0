/-  -/
import Derived.Test.YtjchilcpflfcnaaSgA
import Derived.Deep.LoopGhost
set_option linter.unusedSimpArgs false
namespace Go.Proofs.Ytjchilcpflfcnaa
open Go.RowKit
theorem HpAt.newBoth {w wA wB : World} {L : HpL} {H : Hp} (h : HpAt w L H) {gA cA gB cB : Nat} {xs ys : List Int} (hl : xs.length = ys.length)
  (hA : Ints wA (some ⟨gA, 0, none⟩) cA xs) (fA : Fr (blks L.A2) w wA) (qA : gA ∈ blks L.A2 ∨ w.heap.size ≤ gA)
  (hB : Ints wB (some ⟨gB, 0, none⟩) cB ys) (fB : Fr (blks L.A3) wA wB) (qB : gB ∈ blks L.A3 ∨ wA.heap.size ≤ gB) :
  HpAt ((wB.setCell ⟨L.a, 1, none⟩ (.slice (some ⟨gA, 0, none⟩) xs.length cA)).setCell ⟨L.a, 2, none⟩ (.slice (some ⟨gB, 0, none⟩) ys.length cB))
   { L with A2 := some ⟨gA, 0, none⟩, c2 := cA, A3 := some ⟨gB, 0, none⟩, c3 := cB } { H with at_ := xs, score := ys } ∧
  Fr L.fp w ((wB.setCell ⟨L.a, 1, none⟩ (.slice (some ⟨gA, 0, none⟩) xs.length cA)).setCell ⟨L.a, 2, none⟩ (.slice (some ⟨gB, 0, none⟩) ys.length cB)) ∧
  L.ext { L with A2 := some ⟨gA, 0, none⟩, c2 := cA, A3 := some ⟨gB, 0, none⟩, c3 := cB } w := by
 obtain ⟨h1, h2, h3⟩ := nodup3 h.nodup
 have lA : gA < wA.heap.size := hA.lt gA (by simp [blks])
 have hs := fA.size
 have nA : gA ≠ L.a ∧ gA ∉ blks L.A1 ∧ gA ∉ blks L.A3 := by
  rcases qA with q | q
  ·exact h2 gA q
  ·refine ⟨?_, fun k => ?_, fun k => ?_⟩
   ·have := h.obj.lt; omega
   ·have := h.items.lt _ k; omega
   ·have := h.score.lt _ k; omega
 have nB : gB ≠ L.a ∧ gB ∉ blks L.A1 ∧ gB ≠ gA := by
  rcases qB with q | q
  ·exact ⟨(h3 gB q).1, (h3 gB q).2.1, fun e => nA.2.2 (e ▸ q)⟩
  ·refine ⟨?_, fun k => ?_, ?_⟩
   ·have := h.obj.lt; omega
   ·have := h.items.lt _ k; omega
   ·omega
 have bA : blks (some ⟨gA, 0, none⟩) = [gA] := rfl
 have bB : blks (some ⟨gB, 0, none⟩) = [gB] := rfl
 have oB := fB.at_ (fA.at_ h.obj (fun k => (h2 _ k).1 rfl)) (fun k => (h3 _ k).1 rfl)
 have iB := (h.items.fr fA (fun k hk hk' => (h1 k hk).2.1 hk')).fr fB (fun k hk hk' => (h1 k hk).2.2 hk')
 have aB := hA.fr fB (fun k hk hk' => nA.2.2 (by rw [bA, List.mem_singleton] at hk; exact hk ▸ hk'))
 refine ⟨⟨?_, ?_, ?_, ?_, ?_, hl⟩, ?_, rfl, ?_, fun _ => rfl⟩
 ·have := (oB.set_ 1 (.slice (some ⟨gA, 0, none⟩) xs.length cA)).set_ 2 (.slice (some ⟨gB, 0, none⟩) ys.length cB)
  simpa using this
 ·exact (iB.far (fun k => (h1 _ k).1 rfl) _).far (fun k => (h1 _ k).1 rfl) _
 ·exact (aB.far (by rw [bA]; simpa using fun e => nA.1 e.symm) _).far (by rw [bA]; simpa using fun e => nA.1 e.symm) _
 ·exact (hB.far (by rw [bB]; simpa using fun e => nB.1 e.symm) _).far (by rw [bB]; simpa using fun e => nB.1 e.symm) _
 ·have hn := h.nodup
  simp only [HpL.fp, List.nodup_cons, List.mem_append, List.nodup_append, bA, bB, List.mem_singleton, List.not_mem_nil, not_false_eq_true, List.nodup_nil, true_and] at hn ⊢
  obtain ⟨n1, n2, n3, n4⟩ := hn
  refine ⟨?_, n2, ?_, ?_⟩
  ·rintro (hk | rfl | rfl)
   ·exact n1 (.inl hk)
   ·exact nA.1 rfl
   ·exact nB.1 rfl
  ·rintro _ rfl _ rfl e
   exact nB.2.2 e.symm
  ·rintro k hk _ (rfl | rfl) rfl
   ·exact nA.2.1 hk
   ·exact nB.2.1 hk
 ·exact ((((fA.mono (T := L.fp) fun k hk => .inl (by simp [HpL.fp, hk])).trans fB fun k hk => .inl (by simp [HpL.fp, hk]))).setCell (.inl (by simp [HpL.fp])) _).setCell (.inl (by simp [HpL.fp])) _
 ·intro k hk
  simp only [HpL.fp, bA, bB, List.mem_cons, List.mem_append, List.not_mem_nil, or_false] at hk ⊢
  rcases hk with hk | hk | hk | hk
  ·exact .inl (.inl hk)
  ·exact .inl (.inr (.inl hk))
  ·subst hk
   exact qA.elim (fun q => .inl (.inr (.inr (.inl q)))) .inr
  ·subst hk
   exact qB.elim (fun q => .inl (.inr (.inr (.inr q)))) (fun q => .inr (by omega))
def Hp.growBy (H : Hp) (m : Nat) : Hp := { H with at_ := H.at_ ++ List.replicate m (-1), score := H.score ++ List.replicate m 0 }
def Hp.growF (H : Hp) (n : Int) : Hp := H.growBy (growTo H.at_.length n - H.at_.length).toNat
theorem HpL.ext_trans {L M N : HpL} {w w' : World} {S : List Nat} (h : L.ext M w) (k : M.ext N w') (hf : Fr S w w') : L.ext N w :=
 ⟨k.1.trans h.1, fun x hx => (k.2.1 x hx).elim (fun hm => h.2.1 x hm) (fun hm => .inr (Nat.le_trans hf.size hm)), fun m => k.2.2 (h.2.2 m)⟩
theorem grow_one {H : Hp} {j : Nat} : ((H.growBy j).at_ ++ [-1] = (H.growBy (j + 1)).at_) ∧ ((H.growBy j).score ++ [0] = (H.growBy (j + 1)).score) := by
 constructor <;> simp [Hp.growBy, List.replicate_succ']
set_option maxRecDepth 100000 in
set_option maxHeartbeats 4000000 in
theorem heap_grow (w : World) (L : HpL) (H : Hp) (h : HpAt w L H) (hmade : L.A2.isSome = true) (n : Int) (hm : H.at_.length ≤ 262144) :
  Calls Try.prog 36 #[.pointer (some ⟨L.a, 0, none⟩), .int .i64 n] w fun e w' => e = .returned (.tuple #[]) ∧ ∃ L', HpAt w' L' (H.growF n) ∧ L.ext L' w ∧ Fr L.fp w w' := by
 have o1 := h.obj.cell 1
 simp at o1
 obtain ⟨g2, hg2⟩ : ∃ a, L.A2 = some a := Option.isSome_iff_exists.1 hmade
 rw [hg2] at o1
 have he : ∀ w : World, (binOp .eql 24 (.slice (some g2) H.at_.length L.c2) (.slice none 0 0)).run Try.prog w = .ok (.bool false) w := fun w => Lib.run_eql_slice_nil w _ _ _ _ _ _ _ Try.underlying24
 obtain ⟨m, hme⟩ : ∃ m : Nat, growTo H.at_.length n = (H.at_.length + m : Nat) := ⟨(growTo H.at_.length n - H.at_.length).toNat, by unfold growTo; omega⟩
 have hm2 : H.at_.length + m ≤ 262144 := by have := hme; unfold growTo at this; omega
 have hgf : H.growF n = H.growBy m := by unfold Hp.growF; rw [hme]; congr 1; omega
 rw [hgf]
 have HM := Lib.hid hme
 have HH := Lib.hid h
 have HS := Lib.hid h.same
 have hm3 : ((H.at_.length + m : Nat) : Int) ≤ 262144 := by omega
 clear hme h hg2 hgf
 go_enter Try.func36, Try.ntmps36
 go_wp2_with fail
 refine (heap_size _ _ n (by omega) (by omega)).mono ?_
 rintro e w1 ⟨rfl, rfl⟩
 rw [HM.out]
 clear o1 he
 go_wp2_with fail
 go_loopg [] m (fun gk wr => ∃ (j : Nat) (M : HpL), j + gk = m ∧ HpAt wr M (H.growBy j) ∧ L.ext M w ∧ Fr L.fp w wr)
 case atStart => exact ⟨0, L, Nat.zero_add _, by simpa [Hp.growBy] using HH.out, ⟨rfl, fun k hk => .inl hk, id⟩, Fr.refl _ _⟩
 case round =>
  obtain ⟨j, M, hj, hK, hE, hfr⟩ := hrel
  have ha : M.a = L.a := hE.1
  have c1 := hK.obj.cell 1
  have c2 := hK.obj.cell 2
  have l1 : (H.growBy j).at_.length = H.at_.length + j := by simp [Hp.growBy]
  have l2 : (H.growBy j).score.length = H.at_.length + j := by rw [← hK.same, l1]
  rw [ha] at c1 c2
  simp [l1] at c1
  simp [l2] at c2
  have HK := Lib.hid hK
  have HE := Lib.hid hE
  have HA := Lib.hid ha
  have HL1 := Lib.hid l1
  have HL2 := Lib.hid l2
  have HJ := Lib.hid hj
  clear hK hE ha l1 l2
  by_cases hjm : j < m
  ·have t1 : ((H.at_.length + j : Nat) : Int) < ((H.at_.length + m : Nat) : Int) := by omega
   have t2 : (H.at_.length : Int) + j < (H.at_.length : Int) + m := by omega
   have ho : At wr L.a 71 #[.slice M.A1 (H.growBy j).items.length M.c1, .slice M.A2 (H.at_.length + j) M.c2, .slice M.A3 (H.at_.length + j) M.c3] := by
    have := HK.out.obj
    rw [HA.out, HL1.out, HL2.out] at this
    exact this
   have HO := Lib.hid ho
   have HN2 : Hid (L.a ∉ blks M.A2) := fun hk => ((nodup3 HK.out.nodup).2.1 _ hk).1 HA.out.symm
   have HN3 : Hid (L.a ∉ blks M.A3) := fun hk => ((nodup3 HK.out.nodup).2.2 _ hk).1 HA.out.symm
   have HD : Hid (∀ k, k ∈ blks M.A3 → k ∉ blks M.A2) := fun k hk hk' => ((nodup3 HK.out.nodup).2.2 k hk).2.2 hk'
   have HT2 : Hid (∀ k, k ∈ blks M.A2 → k < wr.heap.size) := HK.out.at_.lt
   have HL3 : Hid ((H.growBy (j + 1)).at_.length = H.at_.length + j + 1) := by show _ = _; simp [Hp.growBy]; omega
   have HL4 : Hid ((H.growBy (j + 1)).score.length = H.at_.length + j + 1) := by show _ = _; have := HS.out; simp [Hp.growBy]; omega
   have HC1 : Hid (At ((wr.drew.alloc (.cells #[.int .i64 (-1)] 3)).alloc (.cells #[.int .i64 0] 3)) (wr.heap.size + 1) 3 #[.int .i64 0]) := by
    have := At.new (wr.drew.alloc (.cells #[.int .i64 (-1)] 3)) 3 #[.int .i64 0]
    rwa [show (wr.drew.alloc (.cells #[.int .i64 (-1)] 3)).heap.size = wr.heap.size + 1 from by simp] at this
   have HC2 : Hid (At ((wr.drew.alloc (.cells #[.int .i64 0] 3)).alloc (.cells #[.int .i64 (-1)] 3)) wr.heap.size 3 #[.int .i64 0]) := (At.new wr.drew _ _).alloc _
   clear hj ho
   go_wp2_with fail
   refine wp_region_noPanic ?_
   refine wp_region_C (fun w' : World => At w' L.a 71 #[.slice M.A1 (H.growBy j).items.length M.c1, .slice M.A2 (H.at_.length + j) M.c2, .slice M.A3 (H.at_.length + j) M.c3]) 16 (by kernel_rfl) (HO.out.drew) (fun hT0 => ?_)
   refine T0 (i := 0) (oi := ?or3u1) (v := ?vr3u1) (by rfl) (by kernel_rfl) (by rfl) ?yr3u1 hT0 ?_
   case yr3u1 => (intro w; go_simp <;> with_reducible rfl)
   try simp only [Act.put, q5, q6, q7]
   refine T0 (i := 1) (oi := ?or3u2) (v := ?vr3u2) (by rfl) (by kernel_rfl) (by rfl) ?yr3u2 (hT0.more 0) ?_
   case yr3u2 => (intro w; go_simp <;> with_reducible rfl)
   try simp only [Act.put, q5, q6, q7]
   refine T0 (i := 2) (oi := ?or3u3) (v := ?vr3u3) (by rfl) (by kernel_rfl) (by rfl) ?yr3u3 ((hT0.more 0).more 1) ?_
   case yr3u3 => (intro w; go_simp <;> with_reducible rfl)
   try simp only [Act.put, q5, q6, q7]
   refine T0 (i := 3) (oi := ?or3u4) (v := ?vr3u4) (by rfl) (by kernel_rfl) (by rfl) ?yr3u4 (((hT0.more 0).more 1).more 2) ?_
   case yr3u4 => (intro w; go_simp <;> with_reducible rfl)
   try simp only [Act.put, q5, q6, q7]
   refine T0 (i := 4) (oi := ?or3u5) (v := ?vr3u5) (by rfl) (by kernel_rfl) (by rfl) ?yr3u5 ((((hT0.more 0).more 1).more 2).more 3) ?_
   case yr3u5 => (intro w; go_simp <;> with_reducible rfl)
   try simp only [Act.put, q5, q6, q7]
   refine T1 (i := 5) (oi := ?or3u6) (v := ?vr3u6) [5, 16] (by rfl) (by kernel_rfl) (by rfl) ?yr3u6 ((((((hT0.more 0).more 1).more 2).more 3).more 4).resolve_left (by decide)) ?_
   case yr3u6 => (intro w hSw; (have s1 := hSw.cell 1; have s2 := hSw.cell 2; simp at s1 s2); go_simp <;> with_reducible rfl)
   try simp only [Act.put, q5, q6, q7]
   refine T0 (i := 8) (oi := ?or3u7) (v := ?vr3u7) (by rfl) (by kernel_rfl) (by rfl) ?yr3u7 ((((((hT0.more 0).more 1).more 2).more 3).more 4).more 5) ?_
   case yr3u7 => (intro w; go_simp <;> with_reducible rfl)
   try simp only [Act.put, q5, q6, q7]
   refine T0 (i := 9) (oi := ?or3u8) (v := ?vr3u8) (by rfl) (by kernel_rfl) (by rfl) ?yr3u8 (((((((hT0.more 0).more 1).more 2).more 3).more 4).more 5).more 8) ?_
   case yr3u8 => (intro w; go_simp <;> with_reducible rfl)
   try simp only [Act.put, q5, q6, q7]
   refine T0 (i := 10) (oi := ?or3u9) (v := ?vr3u9) (by rfl) (by kernel_rfl) (by rfl) ?yr3u9 ((((((((hT0.more 0).more 1).more 2).more 3).more 4).more 5).more 8).more 9) ?_
   case yr3u9 => (intro w; go_simp <;> with_reducible rfl)
   try simp only [Act.put, q5, q6, q7]
   refine T1 (i := 11) (oi := ?or3u10) (v := ?vr3u10) [11, 16] (by rfl) (by kernel_rfl) (by rfl) ?yr3u10 ((((((((((hT0.more 0).more 1).more 2).more 3).more 4).more 5).more 8).more 9).more 10).resolve_left (by decide)) ?_
   case yr3u10 => (intro w hSw; (have s1 := hSw.cell 1; have s2 := hSw.cell 2; simp at s1 s2); go_simp <;> with_reducible rfl)
   try simp only [Act.put, q5, q6, q7]
   have hSx := ((((((((((hT0.more 0).more 1).more 2).more 3).more 4).more 5).more 8).more 9).more 10).more 11).resolve_left (by decide)
   refine wpAnyC_ready (rs := [6, 12]) (by kernel_rfl) (by simp) ?_
   refine ReadyC.cons (o := ?or3u11) ?hor3u11 ?hstepr3u11 ?_
   case hor3u11 => rfl
   case hstepr3u11 =>
    intro K hK
    go_simp
    refine hK.out _ _ (.inr ?_) (fun hHeld => ?_)
    ·first | exact hSx.alloc _ | exact hfA.at_ hSx HN2.out | exact hfB.at_ hSx HN3.out
    have hT11 := hHeld
    clear hHeld
    clear hK K
    try simp only [Act.put, q5, q6, q7]
    have hSx := hT11.resolve_left (by decide)
    refine wpAnyC_ready (rs := [7, 12]) (by kernel_rfl) (by simp) ?_
    refine ReadyC.cons (o := ?or3u12) ?hor3u12 ?hstepr3u12 ?_
    case hor3u12 => rfl
    case hstepr3u12 =>
     intro K hK
     (refine step_append_int rfl _ _ rfl M.A2 M.c2 (H.growBy j).at_ _ rfl HL1.out.symm ?hownr3u12 _ 1 (-1) rfl ?hcellr3u12 (by rw [HL1.out]; omega) ?_; (case hownr3u12 => first | exact HK.out.at_.drew.alloc _ | exact (HK.out.at_.drew.alloc _).alloc _); (case hcellr3u12 => simp); intro gA cA wA hiA hfA hgA hsA)
     refine hK.out _ _ (.inr ?_) (fun hHeld => ?_)
     ·first | exact hSx.alloc _ | exact hfA.at_ hSx HN2.out | exact hfB.at_ hSx HN3.out
     have hT12 := hHeld
     clear hHeld
     clear hK K
     try simp only [Act.put, q5, q6, q7]
     have hSx := hT12.resolve_left (by decide)
     refine wpAnyC_ready (rs := [12]) (by kernel_rfl) (by simp) ?_
     refine ReadyC.cons (o := ?or3u13) ?hor3u13 ?hstepr3u13 ?_
     case hor3u13 => rfl
     case hstepr3u13 =>
      intro K hK
      go_simp
      refine hK.out _ _ (.inr ?_) (fun hHeld => ?_)
      ·first | exact hSx.alloc _ | exact hfA.at_ hSx HN2.out | exact hfB.at_ hSx HN3.out
      have hT13 := hHeld
      clear hHeld
      clear hK K
      try simp only [Act.put, q5, q6, q7]
      have hSx := hT13.resolve_left (by decide)
      refine wpAnyC_ready (rs := [13]) (by kernel_rfl) (by simp) ?_
      refine ReadyC.cons (o := ?or3u14) ?hor3u14 ?hstepr3u14 ?_
      case hor3u14 => rfl
      case hstepr3u14 =>
       intro K hK
       (refine step_append_int rfl _ _ rfl M.A3 M.c3 (H.growBy j).score _ rfl HL2.out.symm ?hownr3u14 _ 1 0 rfl ?hcellr3u14 (by rw [HL2.out]; omega) ?_; (case hownr3u14 => first | exact ((HK.out.score.drew.alloc _).fr hfA HD.out).alloc _ | exact ((HK.out.score.drew.alloc _).alloc _).fr hfA HD.out); (case hcellr3u14 => first | (simp; done) | exact (hfA.at_ HC1.out (fun hk => absurd (HT2.out _ hk) (by omega))).cell 0 | exact (hfA.at_ HC2.out (fun hk => absurd (HT2.out _ hk) (by omega))).cell 0); intro gB cB wB hiB hfB hgB hsB)
       refine hK.out _ _ (.inr ?_) (fun hHeld => ?_)
       ·first | exact hSx.alloc _ | exact hfA.at_ hSx HN2.out | exact hfB.at_ hSx HN3.out
       have hT14 := hHeld
       clear hHeld
       clear hK K
       try simp only [Act.put, q5, q6, q7]
       refine T0 (i := 14) (oi := ?or3u15) (v := ?vr3u15) (by rfl) (by kernel_rfl) (by rfl) ?yr3u15 hT14 ?_
       case yr3u15 => (intro w; go_simp <;> with_reducible rfl)
       try simp only [Act.put, q5, q6, q7]
       refine T0 (i := 15) (oi := ?or3u16) (v := ?vr3u16) (by rfl) (by kernel_rfl) (by rfl) ?yr3u16 (hT14.more 14) ?_
       case yr3u16 => (intro w; go_simp <;> with_reducible rfl)
       try simp only [Act.put, q5, q6, q7]
       have hSx := ((hT14.more 14).more 15).resolve_left (by decide)
       refine wpAnyC_ready (rs := [16]) (by kernel_rfl) (by simp) ?_
       refine ReadyC.cons (o := ?or3u17) ?hor3u17 ?hstepr3u17 ?_
       case hor3u17 => rfl
       case hstepr3u17 =>
        intro K hK
        (have b1 := hSx.cell 1; have b3 := hSx.frozen 1; simp at b1; go_simp)
        refine hK.out _ _ (.inl rfl) (fun hHeld => ?_)
        have hT17 := hHeld
        clear hHeld
        clear hK K
        try simp only [Act.put, q5, q6, q7]
        refine T0 (i := 17) (oi := ?or3u18) (v := ?vr3u18) (by rfl) (by kernel_rfl) (by rfl) ?yr3u18 hT17 ?_
        case yr3u18 => (intro w; go_simp <;> with_reducible rfl)
        try simp only [Act.put, q5, q6, q7]
        refine T0 (i := 18) (oi := ?or3u19) (v := ?vr3u19) (by rfl) (by kernel_rfl) (by rfl) ?yr3u19 (hT17.more 17) ?_
        case yr3u19 => (intro w; go_simp <;> with_reducible rfl)
        try simp only [Act.put, q5, q6, q7]
        refine wpAnyC_ready (rs := [19]) (by kernel_rfl) (by simp) ?_
        refine ReadyC.cons (o := ?or3u20) ?hor3u20 ?hstepr3u20 ?_
        case hor3u20 => rfl
        case hstepr3u20 =>
         intro K hK
         (have b2 := hSx.cell 2; have b4 := hSx.frozen 2; simp at b2; go_simp)
         refine hK.out _ _ (.inl rfl) (fun hHeld => ?_)
         have hT20 := hHeld
         clear hHeld
         clear hK K
         try simp only [Act.put, q5, q6, q7]
         refine wpAnyC_done (by kernel_rfl) ?_ _
         refine NoPanic.normal ?_
         have fA : Fr (blks M.A2) wr wA := by first | exact ((Fr.refl _ wr).drew.alloc _).then_ hfA | exact (((Fr.refl _ wr).drew.alloc _).alloc _).then_ hfA
         have fB : Fr (blks M.A3) wA wB := by first | exact hfB | exact ((Fr.refl _ wA).alloc _).then_ hfB
         have qA : gA ∈ blks M.A2 ∨ wr.heap.size ≤ gA := hgA.imp id (fun e => by rw [e]; simp <;> omega)
         have qB : gB ∈ blks M.A3 ∨ wA.heap.size ≤ gB := hgB.imp id (fun e => by rw [e]; simp <;> omega)
         obtain ⟨r1, r2, r3⟩ := HpAt.newBoth HK.out (by simp [HL1.out, HL2.out]) hiA fA qA hiB fB qB
         rw [HA.out] at r1 r2 r3
         rw [grow_one.1, grow_one.2, HL3.out, HL4.out] at r1 r2
         have R1 := Lib.hid r1
         have R2 := Lib.hid r2
         have R3 := Lib.hid r3
         clear r1 r2 r3
         go_wp2_with fail
         go_roundg (gk - 1)
         case measure => have := HJ.out; omega
         case rel => exact ⟨j + 1, _, by have := HJ.out; omega, R1.out, HpL.ext_trans HE.out R3.out hfr, hfr.trans R2.out HE.out.2.1⟩
        exact ReadyC.nil
       exact ReadyC.nil
      exact ReadyC.nil
     exact ReadyC.nil
    refine ReadyC.cons (o := ?or3u21) ?hor3u21 ?hstepr3u21 ?_
    case hor3u21 => rfl
    case hstepr3u21 =>
     intro K hK
     go_simp
     refine hK.out _ _ (.inr ?_) (fun hHeld => ?_)
     ·first | exact hSx.alloc _ | exact hfA.at_ hSx HN2.out | exact hfB.at_ hSx HN3.out
     have hT12 := hHeld
     clear hHeld
     clear hK K
     try simp only [Act.put, q5, q6, q7]
     have hSx := hT12.resolve_left (by decide)
     refine wpAnyC_ready (rs := [7]) (by kernel_rfl) (by simp) ?_
     refine ReadyC.cons (o := ?or3u22) ?hor3u22 ?hstepr3u22 ?_
     case hor3u22 => rfl
     case hstepr3u22 =>
      intro K hK
      (refine step_append_int rfl _ _ rfl M.A2 M.c2 (H.growBy j).at_ _ rfl HL1.out.symm ?hownr3u22 _ 1 (-1) rfl ?hcellr3u22 (by rw [HL1.out]; omega) ?_; (case hownr3u22 => first | exact HK.out.at_.drew.alloc _ | exact (HK.out.at_.drew.alloc _).alloc _); (case hcellr3u22 => simp); intro gA cA wA hiA hfA hgA hsA)
      refine hK.out _ _ (.inr ?_) (fun hHeld => ?_)
      ·first | exact hSx.alloc _ | exact hfA.at_ hSx HN2.out | exact hfB.at_ hSx HN3.out
      have hT13 := hHeld
      clear hHeld
      clear hK K
      try simp only [Act.put, q5, q6, q7]
      have hSx := hT13.resolve_left (by decide)
      refine wpAnyC_ready (rs := [13]) (by kernel_rfl) (by simp) ?_
      refine ReadyC.cons (o := ?or3u23) ?hor3u23 ?hstepr3u23 ?_
      case hor3u23 => rfl
      case hstepr3u23 =>
       intro K hK
       (refine step_append_int rfl _ _ rfl M.A3 M.c3 (H.growBy j).score _ rfl HL2.out.symm ?hownr3u23 _ 1 0 rfl ?hcellr3u23 (by rw [HL2.out]; omega) ?_; (case hownr3u23 => first | exact ((HK.out.score.drew.alloc _).fr hfA HD.out).alloc _ | exact ((HK.out.score.drew.alloc _).alloc _).fr hfA HD.out); (case hcellr3u23 => first | (simp; done) | exact (hfA.at_ HC1.out (fun hk => absurd (HT2.out _ hk) (by omega))).cell 0 | exact (hfA.at_ HC2.out (fun hk => absurd (HT2.out _ hk) (by omega))).cell 0); intro gB cB wB hiB hfB hgB hsB)
       refine hK.out _ _ (.inr ?_) (fun hHeld => ?_)
       ·first | exact hSx.alloc _ | exact hfA.at_ hSx HN2.out | exact hfB.at_ hSx HN3.out
       have hT14 := hHeld
       clear hHeld
       clear hK K
       try simp only [Act.put, q5, q6, q7]
       refine T0 (i := 14) (oi := ?or3u24) (v := ?vr3u24) (by rfl) (by kernel_rfl) (by rfl) ?yr3u24 hT14 ?_
       case yr3u24 => (intro w; go_simp <;> with_reducible rfl)
       try simp only [Act.put, q5, q6, q7]
       refine T0 (i := 15) (oi := ?or3u25) (v := ?vr3u25) (by rfl) (by kernel_rfl) (by rfl) ?yr3u25 (hT14.more 14) ?_
       case yr3u25 => (intro w; go_simp <;> with_reducible rfl)
       try simp only [Act.put, q5, q6, q7]
       have hSx := ((hT14.more 14).more 15).resolve_left (by decide)
       refine wpAnyC_ready (rs := [16]) (by kernel_rfl) (by simp) ?_
       refine ReadyC.cons (o := ?or3u26) ?hor3u26 ?hstepr3u26 ?_
       case hor3u26 => rfl
       case hstepr3u26 =>
        intro K hK
        (have b1 := hSx.cell 1; have b3 := hSx.frozen 1; simp at b1; go_simp)
        refine hK.out _ _ (.inl rfl) (fun hHeld => ?_)
        have hT17 := hHeld
        clear hHeld
        clear hK K
        try simp only [Act.put, q5, q6, q7]
        refine T0 (i := 17) (oi := ?or3u27) (v := ?vr3u27) (by rfl) (by kernel_rfl) (by rfl) ?yr3u27 hT17 ?_
        case yr3u27 => (intro w; go_simp <;> with_reducible rfl)
        try simp only [Act.put, q5, q6, q7]
        refine T0 (i := 18) (oi := ?or3u28) (v := ?vr3u28) (by rfl) (by kernel_rfl) (by rfl) ?yr3u28 (hT17.more 17) ?_
        case yr3u28 => (intro w; go_simp <;> with_reducible rfl)
        try simp only [Act.put, q5, q6, q7]
        refine wpAnyC_ready (rs := [19]) (by kernel_rfl) (by simp) ?_
        refine ReadyC.cons (o := ?or3u29) ?hor3u29 ?hstepr3u29 ?_
        case hor3u29 => rfl
        case hstepr3u29 =>
         intro K hK
         (have b2 := hSx.cell 2; have b4 := hSx.frozen 2; simp at b2; go_simp)
         refine hK.out _ _ (.inl rfl) (fun hHeld => ?_)
         have hT20 := hHeld
         clear hHeld
         clear hK K
         try simp only [Act.put, q5, q6, q7]
         refine wpAnyC_done (by kernel_rfl) ?_ _
         refine NoPanic.normal ?_
         have fA : Fr (blks M.A2) wr wA := by first | exact ((Fr.refl _ wr).drew.alloc _).then_ hfA | exact (((Fr.refl _ wr).drew.alloc _).alloc _).then_ hfA
         have fB : Fr (blks M.A3) wA wB := by first | exact hfB | exact ((Fr.refl _ wA).alloc _).then_ hfB
         have qA : gA ∈ blks M.A2 ∨ wr.heap.size ≤ gA := hgA.imp id (fun e => by rw [e]; simp <;> omega)
         have qB : gB ∈ blks M.A3 ∨ wA.heap.size ≤ gB := hgB.imp id (fun e => by rw [e]; simp <;> omega)
         obtain ⟨r1, r2, r3⟩ := HpAt.newBoth HK.out (by simp [HL1.out, HL2.out]) hiA fA qA hiB fB qB
         rw [HA.out] at r1 r2 r3
         rw [grow_one.1, grow_one.2, HL3.out, HL4.out] at r1 r2
         have R1 := Lib.hid r1
         have R2 := Lib.hid r2
         have R3 := Lib.hid r3
         clear r1 r2 r3
         go_wp2_with fail
         go_roundg (gk - 1)
         case measure => have := HJ.out; omega
         case rel => exact ⟨j + 1, _, by have := HJ.out; omega, R1.out, HpL.ext_trans HE.out R3.out hfr, hfr.trans R2.out HE.out.2.1⟩
        exact ReadyC.nil
       exact ReadyC.nil
      exact ReadyC.nil
     exact ReadyC.nil
    exact ReadyC.nil
   refine ReadyC.cons (o := ?or3u30) ?hor3u30 ?hstepr3u30 ?_
   case hor3u30 => rfl
   case hstepr3u30 =>
    intro K hK
    go_simp
    refine hK.out _ _ (.inr ?_) (fun hHeld => ?_)
    ·first | exact hSx.alloc _ | exact hfA.at_ hSx HN2.out | exact hfB.at_ hSx HN3.out
    have hT11 := hHeld
    clear hHeld
    clear hK K
    try simp only [Act.put, q5, q6, q7]
    have hSx := hT11.resolve_left (by decide)
    refine wpAnyC_ready (rs := [6]) (by kernel_rfl) (by simp) ?_
    refine ReadyC.cons (o := ?or3u31) ?hor3u31 ?hstepr3u31 ?_
    case hor3u31 => rfl
    case hstepr3u31 =>
     intro K hK
     go_simp
     refine hK.out _ _ (.inr ?_) (fun hHeld => ?_)
     ·first | exact hSx.alloc _ | exact hfA.at_ hSx HN2.out | exact hfB.at_ hSx HN3.out
     have hT12 := hHeld
     clear hHeld
     clear hK K
     try simp only [Act.put, q5, q6, q7]
     have hSx := hT12.resolve_left (by decide)
     refine wpAnyC_ready (rs := [7]) (by kernel_rfl) (by simp) ?_
     refine ReadyC.cons (o := ?or3u32) ?hor3u32 ?hstepr3u32 ?_
     case hor3u32 => rfl
     case hstepr3u32 =>
      intro K hK
      (refine step_append_int rfl _ _ rfl M.A2 M.c2 (H.growBy j).at_ _ rfl HL1.out.symm ?hownr3u32 _ 1 (-1) rfl ?hcellr3u32 (by rw [HL1.out]; omega) ?_; (case hownr3u32 => first | exact HK.out.at_.drew.alloc _ | exact (HK.out.at_.drew.alloc _).alloc _); (case hcellr3u32 => simp); intro gA cA wA hiA hfA hgA hsA)
      refine hK.out _ _ (.inr ?_) (fun hHeld => ?_)
      ·first | exact hSx.alloc _ | exact hfA.at_ hSx HN2.out | exact hfB.at_ hSx HN3.out
      have hT13 := hHeld
      clear hHeld
      clear hK K
      try simp only [Act.put, q5, q6, q7]
      have hSx := hT13.resolve_left (by decide)
      refine wpAnyC_ready (rs := [13]) (by kernel_rfl) (by simp) ?_
      refine ReadyC.cons (o := ?or3u33) ?hor3u33 ?hstepr3u33 ?_
      case hor3u33 => rfl
      case hstepr3u33 =>
       intro K hK
       (refine step_append_int rfl _ _ rfl M.A3 M.c3 (H.growBy j).score _ rfl HL2.out.symm ?hownr3u33 _ 1 0 rfl ?hcellr3u33 (by rw [HL2.out]; omega) ?_; (case hownr3u33 => first | exact ((HK.out.score.drew.alloc _).fr hfA HD.out).alloc _ | exact ((HK.out.score.drew.alloc _).alloc _).fr hfA HD.out); (case hcellr3u33 => first | (simp; done) | exact (hfA.at_ HC1.out (fun hk => absurd (HT2.out _ hk) (by omega))).cell 0 | exact (hfA.at_ HC2.out (fun hk => absurd (HT2.out _ hk) (by omega))).cell 0); intro gB cB wB hiB hfB hgB hsB)
       refine hK.out _ _ (.inr ?_) (fun hHeld => ?_)
       ·first | exact hSx.alloc _ | exact hfA.at_ hSx HN2.out | exact hfB.at_ hSx HN3.out
       have hT14 := hHeld
       clear hHeld
       clear hK K
       try simp only [Act.put, q5, q6, q7]
       refine T0 (i := 14) (oi := ?or3u34) (v := ?vr3u34) (by rfl) (by kernel_rfl) (by rfl) ?yr3u34 hT14 ?_
       case yr3u34 => (intro w; go_simp <;> with_reducible rfl)
       try simp only [Act.put, q5, q6, q7]
       refine T0 (i := 15) (oi := ?or3u35) (v := ?vr3u35) (by rfl) (by kernel_rfl) (by rfl) ?yr3u35 (hT14.more 14) ?_
       case yr3u35 => (intro w; go_simp <;> with_reducible rfl)
       try simp only [Act.put, q5, q6, q7]
       have hSx := ((hT14.more 14).more 15).resolve_left (by decide)
       refine wpAnyC_ready (rs := [16]) (by kernel_rfl) (by simp) ?_
       refine ReadyC.cons (o := ?or3u36) ?hor3u36 ?hstepr3u36 ?_
       case hor3u36 => rfl
       case hstepr3u36 =>
        intro K hK
        (have b1 := hSx.cell 1; have b3 := hSx.frozen 1; simp at b1; go_simp)
        refine hK.out _ _ (.inl rfl) (fun hHeld => ?_)
        have hT17 := hHeld
        clear hHeld
        clear hK K
        try simp only [Act.put, q5, q6, q7]
        refine T0 (i := 17) (oi := ?or3u37) (v := ?vr3u37) (by rfl) (by kernel_rfl) (by rfl) ?yr3u37 hT17 ?_
        case yr3u37 => (intro w; go_simp <;> with_reducible rfl)
        try simp only [Act.put, q5, q6, q7]
        refine T0 (i := 18) (oi := ?or3u38) (v := ?vr3u38) (by rfl) (by kernel_rfl) (by rfl) ?yr3u38 (hT17.more 17) ?_
        case yr3u38 => (intro w; go_simp <;> with_reducible rfl)
        try simp only [Act.put, q5, q6, q7]
        refine wpAnyC_ready (rs := [19]) (by kernel_rfl) (by simp) ?_
        refine ReadyC.cons (o := ?or3u39) ?hor3u39 ?hstepr3u39 ?_
        case hor3u39 => rfl
        case hstepr3u39 =>
         intro K hK
         (have b2 := hSx.cell 2; have b4 := hSx.frozen 2; simp at b2; go_simp)
         refine hK.out _ _ (.inl rfl) (fun hHeld => ?_)
         have hT20 := hHeld
         clear hHeld
         clear hK K
         try simp only [Act.put, q5, q6, q7]
         refine wpAnyC_done (by kernel_rfl) ?_ _
         refine NoPanic.normal ?_
         have fA : Fr (blks M.A2) wr wA := by first | exact ((Fr.refl _ wr).drew.alloc _).then_ hfA | exact (((Fr.refl _ wr).drew.alloc _).alloc _).then_ hfA
         have fB : Fr (blks M.A3) wA wB := by first | exact hfB | exact ((Fr.refl _ wA).alloc _).then_ hfB
         have qA : gA ∈ blks M.A2 ∨ wr.heap.size ≤ gA := hgA.imp id (fun e => by rw [e]; simp <;> omega)
         have qB : gB ∈ blks M.A3 ∨ wA.heap.size ≤ gB := hgB.imp id (fun e => by rw [e]; simp <;> omega)
         obtain ⟨r1, r2, r3⟩ := HpAt.newBoth HK.out (by simp [HL1.out, HL2.out]) hiA fA qA hiB fB qB
         rw [HA.out] at r1 r2 r3
         rw [grow_one.1, grow_one.2, HL3.out, HL4.out] at r1 r2
         have R1 := Lib.hid r1
         have R2 := Lib.hid r2
         have R3 := Lib.hid r3
         clear r1 r2 r3
         go_wp2_with fail
         go_roundg (gk - 1)
         case measure => have := HJ.out; omega
         case rel => exact ⟨j + 1, _, by have := HJ.out; omega, R1.out, HpL.ext_trans HE.out R3.out hfr, hfr.trans R2.out HE.out.2.1⟩
        exact ReadyC.nil
       exact ReadyC.nil
      exact ReadyC.nil
     exact ReadyC.nil
    exact ReadyC.nil
   exact ReadyC.nil
  ·have t2 : (H.at_.length : Int) + m ≤ (H.at_.length : Int) + j := by omega
   obtain rfl : j = m := by omega
   go_wp2_with fail
   go_end0
   exact ⟨rfl, M, HK.out, HE.out, hfr⟩
theorem ret_ptr {a b : Nat} (h : a = b) : Ending.returned (.pointer (some ⟨a, 0, none⟩)) = .returned (.pointer (some ⟨b, 0, none⟩)) := by rw [h]
def Hp.none_ : Hp := { items := [], at_ := [], score := [] }
theorem HpAt.new (w : World) : HpAt ((w.alloc (.cells #[] 3)).alloc (.cells #[.slice none 0 0, .slice (some ⟨w.heap.size, 0, none⟩) 0 0, .slice none 0 0] 71))
  { a := w.heap.size + 1, A1 := none, c1 := 0, A2 := some ⟨w.heap.size, 0, none⟩, c2 := 0, A3 := none, c3 := 0 } Hp.none_ := by
 refine ⟨?_, Ints.nil _, ?_, Ints.nil _, by simp [HpL.fp, blks], rfl⟩
 ·have := At.new (w.alloc (.cells #[] 3)) 71 #[.slice none 0 0, .slice (some ⟨w.heap.size, 0, none⟩) 0 0, .slice none 0 0]
  rwa [show (w.alloc (.cells #[] 3)).heap.size = w.heap.size + 1 from by simp] at this
 ·have : Ints (w.alloc (.cells #[] 3)) (some ⟨w.heap.size, 0, none⟩) 0 [] := World.ownsRow_lit w #[] 0 (Nat.zero_le _) (by simp [maxLen]) (by simp)
  exact this.alloc _
set_option maxRecDepth 100000 in
set_option maxHeartbeats 1000000 in
theorem heap_new (w : World) (n : Int) :
  Calls Try.prog 19 #[.int .i64 n] w fun e w' => ∃ L : HpL, e = .returned (.pointer (some ⟨L.a, 0, none⟩)) ∧ HpAt w' L (Hp.none_.growF n) ∧ L.A2.isSome = true ∧ (∀ k, k ∈ L.fp → w.heap.size ≤ k) ∧ Fr [] w w' := by
 have HN := Lib.hid (HpAt.new w)
 go_enter Try.func19, Try.ntmps19
 go_wp2_with fail
 refine (heap_grow _ _ _ HN.out rfl n (by simp [Hp.none_])).mono ?_
 rintro e w1 ⟨rfl, L', hL, hE, hF⟩
 have HL := Lib.hid hL
 have HE := Lib.hid hE
 have HF := Lib.hid hF
 clear hL hE hF
 go_wp2_with fail
 go_ret
 have hk : ∀ k, k ∈ HpL.fp { a := w.heap.size + 1, A1 := none, c1 := 0, A2 := some ⟨w.heap.size, 0, none⟩, c2 := 0, A3 := none, c3 := 0 } → w.heap.size ≤ k := by
  intro k hk
  simp only [HpL.fp, blks, Option.map_none, Option.map_some, Option.toList_none, Option.toList_some, List.nil_append, List.append_nil, List.mem_cons, List.not_mem_nil, or_false] at hk
  omega
 refine ⟨L', ret_ptr HE.out.1.symm, HL.out, HE.out.2.2 rfl, fun k h => ?_, ?_⟩
 ·rcases HE.out.2.1 k h with h | h
  ·exact hk k h
  ·exact Nat.le_trans (by simp; omega) h
 ·exact (((Fr.refl [] w).alloc _).alloc _).trans HF.out (fun k h => .inr (hk k h))
-- a nil heap
end Go.Proofs.Ytjchilcpflfcnaa
