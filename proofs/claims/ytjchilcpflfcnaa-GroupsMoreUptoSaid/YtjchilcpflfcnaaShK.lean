/-  -/
import Derived.Test.YtjchilcpflfcnaaShJ
import Derived.Test.YtjchilcpflfcnaaShF
import Derived.Deep.SlicePairs
set_option linter.unusedVariables false
namespace Go.Proofs.Ytjchilcpflfcnaa
open Go.ChangeShapes Go.WideShapes Go.ChangeAt Go.RowKit Go.Deep Go.Joins
section
variable {H : Type} {enc : TypeId × Value → H} {w : World} {base : Nat} {spare : Nat → Bool} {held : Bool}
theorem cellsOf_part : Try.prog.cellsOf 33 = 2 := by kernel_rfl
theorem cellsOf_bool : Try.prog.cellsOf 4 = 1 := by kernel_rfl
theorem bools_small {n : Nat} {cs : List Value} {x : DataW H × List MemPlace} (h : DataW.trod enc Try.prog w base spare held n 23 cs = some x) (hb : Rows.uptoBulk x.1 ≤ 1048576) :
  ∃ (A : Option Addr) (c : Nat) (bs : List Bool), cs = [.slice A bs.length c] ∧ RdB w A bs ∧ bs.length ≤ 1048576 := by
 rcases open_slice1 Try.underlying23 cellsOf_bool h with ⟨h0, _⟩ | ⟨a, len, cap, m, n', V, D, Pl, h0, hbb, hl, hm, hmm, hxe, hx⟩
 ·exact ⟨none, 0, [], h0, fun h => absurd h (Nat.not_lt_zero _), by simp⟩
 ·have hlm : len ≤ m := by rw [hmm]; split <;> omega
  have hcells : ∀ i, i < len → ∃ q : Bool, w.cell? (a.add i) = some (.bool q) := by
   intro i hi
   obtain ⟨hc, htr⟩ := hx i (by omega)
   obtain ⟨q, h1, _⟩ := DataW.trod_bool Try.underlying4 htr
   simp only [List.cons.injEq, and_true] at h1
   exact ⟨q, by rw [hc, h1]⟩
  obtain ⟨F, hF⟩ := choose_lt hcells
  refine ⟨some a, cap, (List.range len).map F, by simp [h0], fun hpos => ?_, ?_⟩
  ·simp only [List.length_map, List.length_range] at hpos
   have h00 := hF 0 hpos
   obtain ⟨b, o, rfl⟩ := plain_of h00
   refine ⟨b, o, rfl, fun j hj => ?_⟩
   simp only [List.length_map, List.length_range] at hj
   rw [get_rng hj]
   have := hF j hj
   rwa [add_pl] at this
  ·have h1 := bulks.slice_le ((List.range len).map D) ((List.range (m - len)).map fun j => D (len + j))
   rw [hxe] at hb
   simp only [List.length_map, List.length_range] at h1 hb ⊢
   omega
theorem parts_small {n : Nat} {cs : List Value} {x : DataW H × List MemPlace} (h : DataW.trod enc Try.prog w base spare held n 22 cs = some x) (hb : Rows.uptoBulk x.1 ≤ 1048576) :
  ∃ (A : Option Addr) (c : Nat) (ps : List Pt), cs = [.slice A ps.length c] ∧ RdP w A ps ∧ ps.length ≤ 1048576 := by
 rcases open_slice_pairs Try.underlying22 Try.underlying33 cellsOf_part rfl rfl cellsOf_int cellsOf_ints h with ⟨h0, _⟩ | ⟨a, len, cap, m, n', V0, V1, D0, D1, P0, P1, h0, hbb, hl, hm, hmm, hxe, hx⟩
 ·exact ⟨none, 0, [], h0, ⟨fun h => absurd h (Nat.not_lt_zero _), fun j hj => absurd hj (Nat.not_lt_zero _)⟩, by simp⟩
 ·have hlm : len ≤ m := by rw [hmm]; split <;> omega
  have hbs : Rows.uptoBulkAll ((List.range len).map fun i => DataW.agg [D0 i, D1 i]) + 1 ≤ Rows.uptoBulk x.1 := by rw [hxe]; exact bulks.slice_elems _ _
  have hcells : ∀ i, i < len → ∃ z : Pt, w.cell? (a.add (i * 2)) = some (.int .i64 z.X) ∧ w.cell? (a.add (i * 2 + 1)) = some z.L.val ∧ OkL w z.L ∧ z.L.l.length ≤ 1048576 := by
   intro i hi
   obtain ⟨c0, c1, t0, t1⟩ := hx i (by omega)
   have hD : Rows.uptoBulk (DataW.agg [D0 i, D1 i]) ≤ Rows.uptoBulkAll ((List.range len).map fun i => DataW.agg [D0 i, D1 i]) := range_part (D := fun i => DataW.agg [D0 i, D1 i]) hi
   simp only [Rows.uptoBulk, Rows.uptoBulkAll] at hD
   obtain ⟨z0, e0, _, w0⟩ := DataW.trod_int Try.underlying3 t0
   obtain ⟨T, e1, r1, q1⟩ := ints_small t1 (by simp only; omega)
   simp only [List.cons.injEq, and_true] at e0 e1
   exact ⟨⟨z0, T⟩, by rw [c0, e0], by rw [c1, e1], r1, q1⟩
  obtain ⟨F, hF⟩ := choose_lt hcells
  refine ⟨some a, cap, (List.range len).map F, by simp [h0], ⟨fun hpos => ?_, fun j hj => ?_⟩, ?_⟩
  ·simp only [List.length_map, List.length_range] at hpos
   have h00 := (hF 0 hpos).1
   rw [Nat.zero_mul] at h00
   rw [add_0] at h00
   obtain ⟨b, o, rfl⟩ := plain_of h00
   refine ⟨b, o, rfl, fun j hj => ?_⟩
   simp only [List.length_map, List.length_range] at hj
   rw [get_rng hj]
   obtain ⟨p0, p1, _⟩ := hF j hj
   simp only [add_pl] at p0 p1
   exact ⟨p0, by rw [Nat.add_assoc]; exact p1⟩
  ·simp only [List.length_map, List.length_range] at hj
   rw [get_rng hj]
   obtain ⟨_, _, p2, p3⟩ := hF j hj
   exact ⟨p2, p3⟩
  ·have h1 := bulks.slice_le ((List.range len).map fun i => DataW.agg [D0 i, D1 i]) ((List.range (m - len)).map fun j => DataW.agg [D0 (len + j), D1 (len + j)])
   rw [hxe] at hb
   simp only [List.length_map, List.length_range] at h1 hb ⊢
   omega
end
end Go.Proofs.Ytjchilcpflfcnaa
