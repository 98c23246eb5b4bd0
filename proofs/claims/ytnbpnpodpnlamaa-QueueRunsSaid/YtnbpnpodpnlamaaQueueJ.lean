/- The law's own same and alive walked. -/
import Derived.Test.YtnbpnpodpnlamaaQueueI
namespace Go.Proofs.Ytnbpnpodpnlamaa
open Go.RowKit
set_option linter.unusedVariables false

theorem Cub.bare (w : World) (l f : Int) : Cub w ⟨l, none, 0, 0, ⟨#[]⟩, f, []⟩ := ⟨rfl, fun h => absurd h (Nat.lt_irrefl _), by simp [blks], fun _ => ⟨rfl, rfl⟩, by simp⟩

set_option maxRecDepth 100000 in
set_option maxHeartbeats 1000000 in
theorem same_is (w : World) (m m2 : Im) (h1 : Cub w m) (h2 : Cub w m2) (e0 : m.l = m2.l) (e1 : m.s = m2.s) (e2 : m.f = m2.f) (e3 : m.xs = m2.xs) :
    Calls Try.prog 45 #[m.val, m2.val] w fun e w' => e = .returned (.bool true) ∧ Fr [] w w' := by
  obtain ⟨l, C, n, c, s, f, xs⟩ := m
  obtain ⟨l2, C2, n2, c2, s2, f2, xs2⟩ := m2
  simp only at e0 e1 e2 e3
  subst e0 e1 e2 e3
  obtain rfl : n = n2 := h1.n.trans h2.n.symm
  simp only [Im.val]
  obtain ⟨V, hV⟩ : ∃ V, V = (w.alloc (.cells #[.int .i64 l, .slice C n c, .string s, .int .i64 f] 38)).alloc (.cells #[.int .i64 l, .slice C2 n c2, .string s, .int .i64 f] 38) := ⟨_, rfl⟩
  have hf : Fr [] w V := by rw [hV]; exact ((Fr.refl [] w).alloc _).alloc _
  have hB : At V w.heap.size 38 #[.int .i64 l, .slice C n c, .string s, .int .i64 f] := by rw [hV]; exact (At.new w _ _).alloc _
  have hB2 : At V (w.heap.size + 1) 38 #[.int .i64 l, .slice C2 n c2, .string s, .int .i64 f] := by
    rw [hV]
    have := At.new (w.alloc (.cells #[.int .i64 l, .slice C n c, .string s, .int .i64 f] 38)) 38 #[.int .i64 l, .slice C2 n c2, .string s, .int .i64 f]
    simpa using this
  have HF := Lib.hid hf
  have HC := Lib.hid (h1.keep hf)
  have HC2 := Lib.hid (h2.keep hf)
  have b0 := hB.cell 0
  have b1 := hB.cell 1
  have b2 := hB.cell 2
  have b3 := hB.cell 3
  have d0 := hB2.cell 0
  have d1 := hB2.cell 1
  have d2 := hB2.cell 2
  have d3 := hB2.cell 3
  simp at b0 b1 b2 b3 d0 d1 d2 d3
  clear hf hB hB2 h1 h2
  go_enter Try.func45, Try.ntmps45
  go_upto_region 1 with fail
  rw [← hV]
  clear hV
  go_wp2_with fail
  refine (sameInts_is V C C2 c c2 n xs HC.out.n.symm HC.out.rd HC2.out.rd (by have := HC.out.small; have := HC.out.n; simp only at *; omega)).mono ?_
  rintro e w1 ⟨rfl, k, rfl⟩
  go_wp2_with fail
  go_ret
  exact ⟨rfl, HF.out.drewN k⟩

set_option maxRecDepth 100000 in
set_option maxHeartbeats 1000000 in
theorem queue_alive (w : World) :
    Calls Try.prog 21 #[] w fun e w' => e = .returned (.bool true) ∧ Fr [] w w' := by
  go_enter Try.func21, Try.ntmps21
  go_wp2_with fail
  refine (queue_new _).mono ?_
  rintro e w1 ⟨L, rfl, hq, hn, hf⟩
  have HQ := Lib.hid hq
  have HN := Lib.hid hn
  have HF := Lib.hid hf
  clear hq hn hf
  go_wp2_with fail
  refine (queue_put_yes w1 L [] [] HQ.out ⟨2, none, 0, 0, ⟨#[]⟩, 0, []⟩ (Cub.bare _ _ _) (by decide) (.inl rfl) (by simp) (by simp)).mono ?_
  rintro e w2 ⟨rfl, L2, C1, c1, hq2, hx2, -, hf2⟩
  have HQ2 := Lib.hid (show QAt w2 L2 [⟨2, C1, 0, c1, ⟨#[]⟩, 0, []⟩] [1] from by simpa using hq2)
  have HX2 := Lib.hid hx2
  have HF2 : Hid (Fr [] w w2) := HF.out.trans hf2 (fun k hk => .inr (HN.out k hk))
  have HN2 : Hid (∀ k, k ∈ L2.fp → w.heap.size ≤ k) := fun k hk => (hx2.2 k hk).elim (HN.out k) fun h => Nat.le_trans HF.out.size h
  have a2 : L2.a = L.a := hx2.1
  clear hq2 hx2 hf2
  rw [← a2]
  clear a2
  go_wp2_with fail
  refine (queue_put_yes w2 L2 _ _ HQ2.out ⟨1, none, 0, 0, ⟨#[]⟩, 1, []⟩ (Cub.bare _ _ _) (by decide) (.inr ⟨by simp, by simp⟩) (by simp) (by simp)).mono ?_
  rintro e w3 ⟨rfl, L3, C2, c2, hq3, hx3, -, hf3⟩
  have HQ3 := Lib.hid (show QAt w3 L3 [⟨2, C1, 0, c1, ⟨#[]⟩, 0, []⟩, ⟨1, C2, 0, c2, ⟨#[]⟩, 1, []⟩] [1, 2] from by simpa using hq3)
  have HF3 : Hid (Fr [] w w3) := HF2.out.trans hf3 (fun k hk => .inr (HN2.out k hk))
  have HN3 : Hid (∀ k, k ∈ L3.fp → w.heap.size ≤ k) := fun k hk => (hx3.2 k hk).elim (HN2.out k) fun h => Nat.le_trans HF2.out.size h
  have a3 : L3.a = L2.a := hx3.1
  clear hq3 hx3 hf3
  rw [← a3]
  clear a3
  go_wp2_with fail
  refine (queue_take_some w3 L3 _ _ HQ3.out ⟨by simp, by simp⟩ (by simp) (by simp)).mono ?_
  rintro e w4 ⟨p, i, C3, c3, hp, hi, hii, rfl, hc4, hn4, hq4, hf4⟩
  obtain rfl : p = 1 := by
    have h1 := hp.1
    simp at h1
    rcases Nat.lt_or_ge p 1 with h2 | h2
    · obtain rfl : p = 0 := by omega
      have := hp.2.2 1 (by simp)
      simp [lv] at this
    · omega
  obtain rfl : i = 1 := by
    simp at hii
    omega
  have HQ4 := Lib.hid (show QAt w4 L3 [⟨2, C1, 0, c1, ⟨#[]⟩, 0, []⟩, ⟨1, C2, 0, c2, ⟨#[]⟩, 1, []⟩] [1] from by simpa using hq4)
  have HF4 : Hid (Fr [] w w4) := HF3.out.trans hf4 (fun k hk => .inr (HN3.out k hk))
  clear hp hi hii hc4 hn4 hq4 hf4
  simp only [List.getElem!_cons_succ, List.getElem!_cons_zero, Im.val]
  go_upto_region 5 with fail
  obtain ⟨X, hX⟩ : ∃ X, X = w4.alloc (.cells #[.int .i64 1, .slice C3 0 c3, .string ⟨#[]⟩, .int .i64 1] 38) := ⟨_, rfl⟩
  rw [← hX]
  have hO : At X w4.heap.size 38 #[.int .i64 1, .slice C3 0 c3, .string ⟨#[]⟩, .int .i64 1] := by rw [hX]; exact At.new _ _ _
  have o0 := hO.cell 0
  simp at o0
  have HFX : Hid (Fr [] w X) := by rw [hX]; exact HF4.out.alloc _
  have q1 : X.cell? ⟨L3.a, 1, none⟩ = some (.slice L3.B 1 L3.d) := by rw [hX]; exact (HQ4.out.alloc _).o1
  clear hX hO
  go_wp2_with fail
  refine (queue_len X L3.a 1 L3.d L3.B q1).mono ?_
  rintro e w5 ⟨rfl, rfl⟩
  go_wp2_with fail
  go_ret
  exact ⟨rfl, HFX.out⟩

end Go.Proofs.Ytnbpnpodpnlamaa
