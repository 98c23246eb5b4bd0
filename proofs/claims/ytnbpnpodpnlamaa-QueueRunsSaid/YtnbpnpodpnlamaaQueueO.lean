/- An item among the arguments, opened to its cells. -/
import Derived.Test.YtnbpnpodpnlamaaOpsR
import Derived.Test.YtnbpnpodpnlamaaQueueK
namespace Go.Proofs.Ytnbpnpodpnlamaa
open Go.ChangeShapes Go.WideShapes Go.ChangeAt Go.RowKit Go.Deep Go.Joins
set_option linter.unusedVariables false

section
variable {H : Type} {enc : TypeId × Value → H} {w : World} {base : Nat} {spare : Nat → Bool} {held : Bool}

theorem cellsOf_item : Try.prog.cellsOf 38 = 4 := by kernel_rfl
theorem cellsOf_int : Try.prog.cellsOf 3 = 1 := by kernel_rfl
theorem cellsOf_ints : Try.prog.cellsOf 22 = 1 := by kernel_rfl
theorem cellsOf_string : Try.prog.cellsOf 9 = 1 := by kernel_rfl
theorem bytesOf_int : Try.prog.bytesOf 3 = 8 := by kernel_rfl

theorem item_cells {n : Nat} {cs : List Value} {x : DataW H × List MemPlace} (h : DataW.trod enc Try.prog w base spare held n 38 cs = some x) :
    ∃ (m : Im) (D : DataW H) (a b d : DataW H), cs = [.int .i64 m.l, .slice m.C m.n m.c, .string m.s, .int .i64 m.f] ∧ x.1 = .agg [a, D, b, d] ∧ (m.xs.length = 0 ∨ ∃ elems sp, D = .slice elems sp ∧ elems.length = m.xs.length) ∧
      m.n = m.xs.length ∧ RdA w m.C m.xs ∧ (m.C = none → m.n = 0 ∧ m.c = 0) ∧ (-9223372036854775808 ≤ m.l ∧ m.l ≤ 9223372036854775807) ∧ (-9223372036854775808 ≤ m.f ∧ m.f ≤ 9223372036854775807) ∧ m.s.size ≤ maxLen := by
  obtain ⟨y0, y1, y2, y3, n', hx, hl, h0, h1, h2, h3⟩ := trod_struct4 Try.underlying38 h
  rw [cellsOf_item] at hl
  match cs, hl with
  | [c0, c1, c2, c3], _ =>
    simp only [cellsOf_int, cellsOf_ints, cellsOf_string, List.drop_zero, List.drop_succ_cons, List.take_succ_cons, List.take_zero] at h0 h1 h2 h3
    obtain ⟨z0, e0, _, w0⟩ := DataW.trod_int Try.underlying3 h0
    obtain ⟨z3, e3, _, w3⟩ := DataW.trod_int Try.underlying3 h3
    obtain ⟨s, e2, _, w2⟩ := DataW.trod_string Try.underlying9 h2
    cases e0
    cases e3
    cases e2
    have r0 := Go.Joins.in64_of_wf w0
    have r3 := Go.Joins.in64_of_wf w3
    rcases open_ints Try.underlying22 Try.underlying3 cellsOf_int h1 with ⟨e1, hx1⟩ | ⟨a, len, cap, zs, e1, hb, hlc, hm, hz, hx1, hcell, hwf⟩
    · cases e1
      exact ⟨⟨z0, none, 0, 0, s, z3, []⟩, y1.1, y0.1, y2.1, y3.1, rfl, by rw [hx], .inl rfl, rfl, fun h => absurd h (Nat.lt_irrefl _), fun _ => ⟨rfl, rfl⟩, r0, r3, w2⟩
    · cases e1
      have hle : len ≤ zs.length := by rw [hz]; split <;> omega
      have hxl : (zs.take len).length = len := by rw [List.length_take]; omega
      refine ⟨⟨z0, some a, len, cap, s, z3, zs.take len⟩, y1.1, y0.1, y2.1, y3.1, rfl, by rw [hx], .inr ⟨lits .i64 (zs.take len), lits .i64 (zs.drop len), (by rw [hx1]), by simp [lits]⟩, hxl.symm, fun hp => ?_, fun h => (by cases h), r0, r3, w2⟩
      simp only at hp ⊢
      rw [hxl] at hp
      obtain ⟨b, o, sp⟩ := a
      have h00 := hcell 0 (by omega)
      have hs : sp = none ∧ b < w.heap.size := by
        change w.cell? ⟨b, o, sp⟩ = _ at h00
        unfold World.cell? at h00
        split at h00
        · rename_i hh
          split at h00
          · cases h00
          · rename_i hsp
            exact ⟨by cases sp <;> simp_all, (Array.getElem?_eq_some_iff.1 hh).1⟩
        · cases h00
      obtain ⟨rfl, hbl⟩ := hs
      refine ⟨b, o, rfl, hbl, fun j hj => ?_⟩
      rw [hxl] at hj
      have := hcell j (by omega)
      rw [add_plain] at this
      rw [this]
      have hj2 : j < zs.length := by omega
      simp [List.getElem!_eq_getElem?_getD, hj]

theorem Im.cub {m : Im} (h1 : m.n = m.xs.length) (h2 : RdA w m.C m.xs) (h3 : m.C = none → m.n = 0 ∧ m.c = 0) (h4 : m.xs.length ≤ 17592186044416) : Cub w m := by
  refine ⟨h1, fun h => ?_, fun h k hk => ?_, h3, h4⟩
  · obtain ⟨b, o, e, _, hc⟩ := h2 h
    exact ⟨b, o, e, hc⟩
  · obtain ⟨b, o, e, hb, _⟩ := h2 h
    rw [e] at hk
    simp only [blks, Option.map_some, Option.toList_some, List.mem_singleton] at hk
    rw [hk]; exact hb

theorem weigh_item {a D b d : DataW H} {k : Nat} (hD : ∃ elems sp, D = .slice elems sp ∧ elems.length = k) (hb : ∀ n ∈ (DataW.agg [a, D, b, d]).weights Try.prog 38, n ≤ reachBytes) : k ≤ 17592186044416 := by
  obtain ⟨elems, sp, rfl, rfl⟩ := hD
  have h := hb ((elems.length + sp.length) * 8) (by
    have e : (DataW.agg [a, DataW.slice elems sp, b, d]).weights Try.prog 38 = DataW.weightsEach Try.prog [3, 22, 9, 3] [a, DataW.slice elems sp, b, d] := by
      rw [DataW.weights, Try.underlying38]
      rfl
    rw [e]
    refine DataW.weights_mem_each (j := 1) (t := 22) rfl rfl _ ?_
    simp [DataW.weights, Try.underlying22, bytesOf_int])
  simp only [reachBytes] at h
  omega
end
end Go.Proofs.Ytnbpnpodpnlamaa
