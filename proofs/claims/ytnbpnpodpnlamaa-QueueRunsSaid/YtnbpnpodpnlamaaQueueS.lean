/- The operations of QueueRuns among the arguments, opened to their cells. -/
import Derived.Test.YtnbpnpodpnlamaaQueueO
import Derived.Test.YtnbpnpodpnlamaaQueueN
namespace Go.Proofs.Ytnbpnpodpnlamaa
open Go.ChangeShapes Go.WideShapes Go.ChangeAt Go.RowKit Go.Deep Go.Joins
set_option linter.unusedVariables false

section
variable {H : Type} {enc : TypeId × Value → H} {w : World} {base : Nat} {spare : Nat → Bool} {held : Bool}

theorem cellsOf_qop : Try.prog.cellsOf 72 = 7 := by kernel_rfl

theorem list7 {α : Type} {l : List α} (h : l.length = 7) : ∃ a b c d e f g, l = [a, b, c, d, e, f, g] := by
  match l, h with
  | [a, b, c, d, e, f, g], _ => exact ⟨a, b, c, d, e, f, g, rfl⟩

theorem weights_all {P : Program} {e : TypeId} {ds : List (DataW H)} {d : DataW H} (hd : d ∈ ds) : ∀ n ∈ d.weights P e, n ∈ DataW.weightsAll P e ds := by
  intro n hn
  induction ds with
  | nil => cases hd
  | cons x r ih =>
    rw [DataW.weightsAll, List.mem_append]
    rcases List.mem_cons.1 hd with h | h
    · subst h; exact .inl hn
    · exact .inr (ih h)

theorem qop_cells {n : Nat} {cs : List Value} {x : DataW H × List MemPlace} (h : DataW.trod enc Try.prog w base spare held n 72 cs = some x) (hb : ∀ n ∈ x.1.weights Try.prog 72, n ≤ reachBytes) :
    ∃ op : QOp, cs = [.int .i64 op.kind, .int .i64 op.m.l, .slice op.m.C op.m.n op.m.c, .string op.m.s, .int .i64 op.m.f, .int .i64 op.id, .int .i64 op.lev] ∧ Cub w op.m ∧
      (-9223372036854775808 ≤ op.m.l ∧ op.m.l ≤ 9223372036854775807) ∧ (-9223372036854775808 ≤ op.m.f ∧ op.m.f ≤ 9223372036854775807) ∧ (-9223372036854775808 ≤ op.id ∧ op.id ≤ 9223372036854775807) ∧ (-9223372036854775808 ≤ op.lev ∧ op.lev ≤ 9223372036854775807) := by
  obtain ⟨y0, y1, y2, y3, n', hx, hl, h0, h1, h2, h3⟩ := trod_struct4 Try.underlying72 h
  rw [cellsOf_qop] at hl
  obtain ⟨c0, c1, c2, c3, c4, c5, c6, rfl⟩ := list7 hl
  simp only [cellsOf_int, cellsOf_item, List.drop_zero, List.drop_succ_cons, List.take_succ_cons, List.take_zero] at h0 h1 h2 h3
  obtain ⟨z0, e0, _, w0⟩ := DataW.trod_int Try.underlying3 h0
  obtain ⟨z2, e2, _, w2⟩ := DataW.trod_int Try.underlying3 h2
  obtain ⟨z3, e3, _, w3⟩ := DataW.trod_int Try.underlying3 h3
  cases e0
  cases e2
  cases e3
  obtain ⟨m, D, a, b, d, hcs, hd, hD, q1, q2, q3, r1, r2, _⟩ := item_cells h1
  simp only [List.cons.injEq, and_true] at hcs
  obtain ⟨rfl, rfl, rfl, rfl⟩ := hcs
  have hlen : m.xs.length ≤ 17592186044416 := by
    rcases hD with h | h
    · omega
    · refine weigh_item (a := a) (b := b) (d := d) h fun k hk => ?_
      rw [← hd] at hk
      refine hb k ?_
      rw [hx]
      have e : (DataW.agg [y0.1, y1.1, y2.1, y3.1]).weights Try.prog 72 = DataW.weightsEach Try.prog [3, 38, 3, 3] [y0.1, y1.1, y2.1, y3.1] := by
        rw [DataW.weights, Try.underlying72]
        rfl
      simp only
      rw [e]
      exact DataW.weights_mem_each (j := 1) (t := 38) rfl rfl k hk
  exact ⟨⟨z0, m, z2, z3⟩, rfl, Im.cub q1 q2 q3 hlen, r1, r2, Go.Joins.in64_of_wf w2, Go.Joins.in64_of_wf w3⟩

theorem open_qops {v : Value} {d : DataW H} {ps : List MemPlace} (hv : Value.okWide Try.prog w .any 0 69 v) (h : DataW.Trod enc Try.prog w base spare held 69 v d ps) (hb : ∀ n ∈ d.weights Try.prog 69, n ≤ reachBytes) :
    ∃ (A : Option Addr) (c : Nat) (l : List QOp), v = .slice A l.length c ∧ l.length ≤ maxLen ∧ RdQops w A l ∧ ∀ j : Nat, (hj : j < l.length) → Cub w l[j].m ∧ (-9223372036854775808 ≤ l[j].m.l ∧ l[j].m.l ≤ 9223372036854775807) ∧
      (-9223372036854775808 ≤ l[j].m.f ∧ l[j].m.f ≤ 9223372036854775807) ∧ (-9223372036854775808 ≤ l[j].id ∧ l[j].id ≤ 9223372036854775807) ∧ (-9223372036854775808 ≤ l[j].lev ∧ l[j].lev ≤ 9223372036854775807) := by
  obtain ⟨a0, len0, cap0, rfl⟩ := okWide_slice Try.underlying69 hv
  obtain ⟨n, hn⟩ := h
  rcases open_slice Try.underlying69 hn with ⟨h0, _⟩ | ⟨a, len, cap, m, n', D, Pl, h0, hbb, hl, hm, hmm, hxe, hx⟩
  · have e1 : Value.slice a0 len0 cap0 = Value.slice none 0 0 := by simpa [Value.cells] using h0
    obtain ⟨rfl, rfl, rfl⟩ := Value.slice.inj e1
    exact ⟨none, 0, [], rfl, Nat.zero_le _, fun h => absurd h (Nat.lt_irrefl _), fun j hj => absurd hj (Nat.not_lt_zero _)⟩
  · have e1 : Value.slice a0 len0 cap0 = Value.slice (some a) len cap := by simpa [Value.cells] using h0
    obtain ⟨rfl, rfl, rfl⟩ := Value.slice.inj e1
    have hlm : len0 ≤ m := by rw [hmm]; split <;> omega
    obtain ⟨hd, _⟩ := Prod.mk.inj hxe
    have hcells : ∀ i, i < len0 → ∃ op : QOp, ((w.cell? (a.add (i * 7)) = some (.int .i64 op.kind) ∧ w.cell? (a.add (i * 7 + 1)) = some (.int .i64 op.m.l) ∧ w.cell? (a.add (i * 7 + 2)) = some (.slice op.m.C op.m.n op.m.c) ∧
        w.cell? (a.add (i * 7 + 3)) = some (.string op.m.s) ∧ w.cell? (a.add (i * 7 + 4)) = some (.int .i64 op.m.f) ∧ w.cell? (a.add (i * 7 + 5)) = some (.int .i64 op.id) ∧ w.cell? (a.add (i * 7 + 6)) = some (.int .i64 op.lev))) ∧
        Cub w op.m ∧ (-9223372036854775808 ≤ op.m.l ∧ op.m.l ≤ 9223372036854775807) ∧ (-9223372036854775808 ≤ op.m.f ∧ op.m.f ≤ 9223372036854775807) ∧ (-9223372036854775808 ≤ op.id ∧ op.id ≤ 9223372036854775807) ∧ (-9223372036854775808 ≤ op.lev ∧ op.lev ≤ 9223372036854775807) := by
      intro i hi
      obtain ⟨cs', hc, htr⟩ := hx i (by omega)
      rw [cellsOf_qop] at hc
      obtain ⟨op, hcs, hrest⟩ := qop_cells htr (fun k hk => hb k (by
        rw [hd, DataW.weights, Try.underlying69]
        simp only [List.mem_cons, List.mem_append]
        refine .inr (.inl (weights_all (d := D i) ?_ k hk))
        exact List.mem_map.2 ⟨i, List.mem_range.2 hi, rfl⟩))
      obtain ⟨_, _, hat⟩ := World.cells?_some hc
      have one : ∀ j, j < 7 → w.cell? (a.add (i * 7 + j)) = cs'[j]? := fun j hj => by rw [← hat j hj, add_add]
      rw [hcs] at one
      exact ⟨op, ⟨one 0 (by omega), one 1 (by omega), one 2 (by omega), one 3 (by omega), one 4 (by omega), one 5 (by omega), one 6 (by omega)⟩, hrest⟩
    have : Inhabited QOp := ⟨⟨0, default, 0, 0⟩⟩
    obtain ⟨F, hF⟩ := choose_lt hcells
    refine ⟨some a, cap0, (List.range len0).map F, by simp, by simp; omega, fun hpos => ?_, fun j hj => ?_⟩
    · simp only [List.length_map, List.length_range] at hpos
      obtain ⟨b, o, s⟩ := a
      have h00 := (hF 0 hpos).1.1
      have hs : s = none ∧ b < w.heap.size := by
        rw [Nat.zero_mul] at h00
        change w.cell? ⟨b, o, s⟩ = _ at h00
        unfold World.cell? at h00
        split at h00
        · rename_i hh
          split at h00
          · cases h00
          · rename_i hsp
            exact ⟨by cases s <;> simp_all, (Array.getElem?_eq_some_iff.1 hh).1⟩
        · cases h00
      obtain ⟨rfl, hbl⟩ := hs
      refine ⟨b, o, rfl, hbl, fun j hj => ?_⟩
      simp only [List.length_map, List.length_range] at hj
      have := (hF j hj).1
      simp only [add_plain, ← Nat.add_assoc] at this
      simp only [List.getElem_map, List.getElem_range]
      exact this
    · simp only [List.length_map, List.length_range] at hj
      simp only [List.getElem_map, List.getElem_range]
      exact (hF j hj).2
end
end Go.Proofs.Ytnbpnpodpnlamaa
