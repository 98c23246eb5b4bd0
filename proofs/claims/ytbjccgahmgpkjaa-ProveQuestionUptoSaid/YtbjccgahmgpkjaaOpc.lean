/- A circuit among the arguments, opened to its cells. -/
import Derived.Test.YtbjccgahmgpkjaaOps
import Derived.SizedLaws
import Derived.Lib.SmallJoins
import Derived.Deep.Strs
import Derived.Test.YtbjccgahmgpkjaaCopy
namespace Go.Proofs.Ytbjccgahmgpkjaa
open Go.ChangeShapes Go.WideShapes Go.ChangeAt Go.RowKit Go.Deep Go.Joins
set_option linter.unusedVariables false

section
variable {H : Type} {enc : TypeId × Value → H} {w : World} {base : Nat} {spare : Nat → Bool} {held : Bool}

theorem cellsOf_circuit : Try.prog.cellsOf 27 = 8 := by kernel_rfl
theorem cellsOf_latch : Try.prog.cellsOf 67 = 3 := by kernel_rfl
theorem cellsOf_and : Try.prog.cellsOf 70 = 3 := by kernel_rfl
theorem cellsOf_name : Try.prog.cellsOf 61 = 3 := by kernel_rfl
theorem cellsOf_int : Try.prog.cellsOf 3 = 1 := by kernel_rfl
theorem cellsOf_ints : Try.prog.cellsOf 22 = 1 := by kernel_rfl
theorem cellsOf_lats : Try.prog.cellsOf 23 = 1 := by kernel_rfl
theorem cellsOf_ands : Try.prog.cellsOf 24 = 1 := by kernel_rfl
theorem cellsOf_nms : Try.prog.cellsOf 25 = 1 := by kernel_rfl
theorem cellsOf_string : Try.prog.cellsOf 9 = 1 := by kernel_rfl
theorem bytesOf_int : Try.prog.bytesOf 3 = 8 := by kernel_rfl
theorem bytesOf_latch : Try.prog.bytesOf 67 = 24 := by kernel_rfl
theorem bytesOf_and : Try.prog.bytesOf 70 = 24 := by kernel_rfl
theorem bytesOf_name : Try.prog.bytesOf 61 = 40 := by kernel_rfl

/-- An address at which a cell lies has no path. -/
theorem plain_of {a : Addr} {v : Value} (h : w.cell? a = some v) : ∃ b o, a = ⟨b, o, none⟩ := by
  obtain ⟨b, o, s⟩ := a
  unfold World.cell? at h
  split at h
  · split at h
    · cases h
    · rename_i hsp
      exact ⟨b, o, by cases s <;> simp_all⟩
  · cases h
theorem add_0 (a : Addr) : a.add 0 = a := by unfold Addr.add; exact if_pos rfl
theorem add_pl (b o n : Nat) : (Addr.mk b o none).add n = ⟨b, o + n, none⟩ := by unfold Addr.add; split <;> simp_all
theorem ints_cells {n : Nat} {cs : List Value} {x : DataW H × List MemPlace} (h : DataW.trod enc Try.prog w base spare held n 22 cs = some x) (hb : ∀ n ∈ x.1.weights Try.prog 22, n ≤ reachBytes) :
    ∃ (A : Option Addr) (c : Nat) (l : List Int), cs = [.slice A l.length c] ∧ l.length ≤ c ∧ c ≤ maxLen ∧ Rd w A l ∧ Ra l ∧ l.length ≤ 17592186044416 ∧ (A = none → l.length = 0 ∧ c = 0) := by
  rcases open_ints Try.underlying22 Try.underlying3 cellsOf_int h with ⟨e1, hx1⟩ | ⟨a, len, cap, zs, e1, hbb, hlc, hm, hz, hx1, hcell, hwf⟩
  · exact ⟨none, 0, [], e1, Nat.le_refl _, by simp [maxLen], fun h => absurd h (Nat.not_lt_zero _), fun j hj => absurd hj (Nat.not_lt_zero _), by simp, fun _ => ⟨rfl, rfl⟩⟩
  · have hle : len ≤ zs.length := by rw [hz]; split <;> omega
    have hxl : (zs.take len).length = len := by rw [List.length_take]; omega
    refine ⟨some a, cap, zs.take len, by rw [e1, hxl], by omega, hm, fun hp => ?_, fun j hj => ?_, ?_, fun h => by cases h⟩
    · rw [hxl] at hp
      obtain ⟨b, o, rfl⟩ := plain_of (hcell 0 (by omega))
      refine ⟨b, o, rfl, fun j hj => ?_⟩
      rw [hxl] at hj
      have := hcell j (by omega)
      rw [add_pl] at this
      rw [this]
      have hj2 : j < zs.length := by omega
      simp [List.getElem!_eq_getElem?_getD, hj]
    · rw [hxl] at hj
      have hj2 : j < zs.length := by omega
      have := Go.Joins.in64_of_wf (hwf zs[j] (List.getElem_mem hj2))
      have e : (zs.take len)[j]! = zs[j] := by simp [List.getElem!_eq_getElem?_getD, hj, hj2]
      rw [e]
      exact this
    · have h1 := hb ((len + (zs.length - len)) * 8) (by
        rw [hx1]
        simp [DataW.weights, Try.underlying22, bytesOf_int, lits]
        omega)
      rw [hxl]
      simp only [reachBytes] at h1
      omega

theorem t3_cells {t e : TypeId} {f0 f1 f2 : Field} (ht : Try.prog.underlying t = some (.slice e)) (he : Try.prog.underlying e = some (.struct #[f0, f1, f2])) (ce : Try.prog.cellsOf e = 3) (be : Try.prog.bytesOf e = 24)
    (o0 : f0.offset = 0 ∧ f0.type = 3) (o1 : f1.offset = 1 ∧ f1.type = 3) (o2 : f2.offset = 2 ∧ f2.type = 3)
    {n : Nat} {cs : List Value} {x : DataW H × List MemPlace} (h : DataW.trod enc Try.prog w base spare held n t cs = some x) (hb : ∀ n ∈ x.1.weights Try.prog t, n ≤ reachBytes) :
    ∃ (A : Option Addr) (c : Nat) (l : List T3), cs = [.slice A l.length c] ∧ RdT w A l ∧ Rt l ∧ l.length ≤ 5864062014635 ∧ (A = none → l.length = 0 ∧ c = 0) := by
  rcases open_slice ht h with ⟨h0, _⟩ | ⟨a, len, cap, m, n', D, Pl, h0, hbb, hl, hm, hmm, hxe, hx⟩
  · exact ⟨none, 0, [], h0, fun h => absurd h (Nat.not_lt_zero _), fun j hj => absurd hj (Nat.not_lt_zero _), by simp, fun _ => ⟨rfl, rfl⟩⟩
  · have hlm : len ≤ m := by rw [hmm]; split <;> omega
    have hcells : ∀ i, i < len → ∃ z : T3, (R64 z.a ∧ R64 z.b ∧ R64 z.c) ∧ w.cell? (a.add (i * 3)) = some (.int .i64 z.a) ∧ w.cell? ((a.add (i * 3)).add 1) = some (.int .i64 z.b) ∧ w.cell? ((a.add (i * 3)).add 2) = some (.int .i64 z.c) := by
      intro i hi
      obtain ⟨cs', hc, htr⟩ := hx i (by omega)
      rw [ce] at hc
      obtain ⟨y0, y1, y2, n2, _, hlen, g0, g1, g2⟩ := trod_struct3 he htr
      rw [ce] at hlen
      rw [o0.1, o0.2, cellsOf_int] at g0
      rw [o1.1, o1.2, cellsOf_int] at g1
      rw [o2.1, o2.2, cellsOf_int] at g2
      match cs', hlen with
      | [v0, v1, v2], _ =>
        simp only [List.drop_zero, List.drop_succ_cons, List.take_succ_cons, List.take_zero] at g0 g1 g2
        obtain ⟨z0, e0, _, w0⟩ := DataW.trod_int Try.underlying3 g0
        obtain ⟨z1, e1, _, w1⟩ := DataW.trod_int Try.underlying3 g1
        obtain ⟨z2, e2, _, w2⟩ := DataW.trod_int Try.underlying3 g2
        cases e0
        cases e1
        cases e2
        obtain ⟨_, _, hat⟩ := World.cells?_some hc
        have a0 := hat 0 (by omega)
        have a1 := hat 1 (by omega)
        have a2 := hat 2 (by omega)
        rw [add_0] at a0
        exact ⟨⟨z0, z1, z2⟩, ⟨Go.Joins.in64_of_wf w0, Go.Joins.in64_of_wf w1, Go.Joins.in64_of_wf w2⟩, a0, a1, a2⟩
    obtain ⟨F, hF⟩ := choose_lt hcells
    refine ⟨some a, cap, (List.range len).map F, by simp [h0], fun hpos => ?_, fun j hj => ?_, ?_, fun h => by cases h⟩
    · simp only [List.length_map, List.length_range] at hpos
      have h00 := (hF 0 hpos).2.1
      rw [Nat.zero_mul] at h00
      rw [add_0] at h00
      obtain ⟨b, o, rfl⟩ := plain_of h00
      refine ⟨b, o, rfl, fun j hj => ?_⟩
      simp only [List.length_map, List.length_range] at hj
      have := (hF j hj).2
      simp only [add_pl] at this
      simp only [List.getElem!_eq_getElem?_getD, List.getElem?_map, List.getElem?_range hj, Option.map_some, Option.getD_some]
      exact this
    · simp only [List.length_map, List.length_range] at hj
      simp only [List.getElem!_eq_getElem?_getD, List.getElem?_map, List.getElem?_range hj, Option.map_some, Option.getD_some]
      exact (hF j hj).1
    · have h1 := hb ((len + (m - len)) * 24) (by
        rw [hxe]
        simp [DataW.weights, ht, be])
      simp only [reachBytes] at h1
      simp only [List.length_map, List.length_range]
      omega

theorem nm_cells {n : Nat} {cs : List Value} {x : DataW H × List MemPlace} (h : DataW.trod enc Try.prog w base spare held n 25 cs = some x) (hb : ∀ n ∈ x.1.weights Try.prog 25, n ≤ reachBytes) :
    ∃ (A : Option Addr) (c : Nat) (l : List Nm), cs = [.slice A l.length c] ∧ RdM w A l ∧ Rm l ∧ l.length ≤ 3518437208781 ∧ (A = none → l.length = 0 ∧ c = 0) := by
  rcases open_slice Try.underlying25 h with ⟨h0, _⟩ | ⟨a, len, cap, m, n', D, Pl, h0, hbb, hl, hm, hmm, hxe, hx⟩
  · exact ⟨none, 0, [], h0, fun h => absurd h (Nat.not_lt_zero _), fun j hj => absurd hj (Nat.not_lt_zero _), by simp, fun _ => ⟨rfl, rfl⟩⟩
  · have hlm : len ≤ m := by rw [hmm]; split <;> omega
    have hcells : ∀ i, i < len → ∃ z : Nm, (z.k.size ≤ maxLen ∧ R64 z.i ∧ z.t.size ≤ maxLen) ∧ w.cell? (a.add (i * 3)) = some (.string z.k) ∧ w.cell? ((a.add (i * 3)).add 1) = some (.int .i64 z.i) ∧ w.cell? ((a.add (i * 3)).add 2) = some (.string z.t) := by
      intro i hi
      obtain ⟨cs', hc, htr⟩ := hx i (by omega)
      rw [cellsOf_name] at hc
      obtain ⟨y0, y1, y2, n2, _, hlen, g0, g1, g2⟩ := trod_struct3 Try.underlying61 htr
      rw [cellsOf_name] at hlen
      simp only [cellsOf_int, cellsOf_string] at g0 g1 g2
      match cs', hlen with
      | [v0, v1, v2], _ =>
        simp only [List.drop_zero, List.drop_succ_cons, List.take_succ_cons, List.take_zero] at g0 g1 g2
        obtain ⟨z0, e0, _, w0⟩ := DataW.trod_string Try.underlying9 g0
        obtain ⟨z1, e1, _, w1⟩ := DataW.trod_int Try.underlying3 g1
        obtain ⟨z2, e2, _, w2⟩ := DataW.trod_string Try.underlying9 g2
        cases e0
        cases e1
        cases e2
        obtain ⟨_, _, hat⟩ := World.cells?_some hc
        have a0 := hat 0 (by omega)
        have a1 := hat 1 (by omega)
        have a2 := hat 2 (by omega)
        rw [add_0] at a0
        exact ⟨⟨z0, z1, z2⟩, ⟨w0, Go.Joins.in64_of_wf w1, w2⟩, a0, a1, a2⟩
    obtain ⟨F, hF⟩ := choose_lt hcells
    refine ⟨some a, cap, (List.range len).map F, by simp [h0], fun hpos => ?_, fun j hj => ?_, ?_, fun h => by cases h⟩
    · simp only [List.length_map, List.length_range] at hpos
      have h00 := (hF 0 hpos).2.1
      rw [Nat.zero_mul] at h00
      rw [add_0] at h00
      obtain ⟨b, o, rfl⟩ := plain_of h00
      refine ⟨b, o, rfl, fun j hj => ?_⟩
      simp only [List.length_map, List.length_range] at hj
      have := (hF j hj).2
      simp only [add_pl] at this
      simp only [List.getElem!_eq_getElem?_getD, List.getElem?_map, List.getElem?_range hj, Option.map_some, Option.getD_some]
      exact this
    · simp only [List.length_map, List.length_range] at hj
      simp only [List.getElem!_eq_getElem?_getD, List.getElem?_map, List.getElem?_range hj, Option.map_some, Option.getD_some]
      exact (hF j hj).1
    · have h1 := hb ((len + (m - len)) * 40) (by
        rw [hxe]
        simp [DataW.weights, Try.underlying25, bytesOf_name])
      simp only [reachBytes] at h1
      simp only [List.length_map, List.length_range]
      omega

theorem list8 {α : Type} {l : List α} (h : l.length = 8) : ∃ a b c d e f g h, l = [a, b, c, d, e, f, g, h] := by
  match l, h with
  | [a, b, c, d, e, f, g, h], _ => exact ⟨a, b, c, d, e, f, g, h, rfl⟩
theorem trod_struct8 {P : Program} {t : TypeId} {f0 f1 f2 f3 f4 f5 f6 f7 : Field} {fuel : Nat} {cs : List Value} {x : DataW H × List MemPlace} (ht : P.underlying t = some (.struct #[f0, f1, f2, f3, f4, f5, f6, f7])) (h : DataW.trod enc P w base spare held fuel t cs = some x) :
    ∃ y0 y1 y2 y3 y4 y5 y6 y7 n, x.1 = .agg ([y0, y1, y2, y3, y4, y5, y6, y7].map (·.1)) ∧ cs.length = P.cellsOf t ∧ DataW.trod enc P w base spare held n f0.type ((cs.drop f0.offset).take (P.cellsOf f0.type)) = some y0 ∧ DataW.trod enc P w base spare held n f1.type ((cs.drop f1.offset).take (P.cellsOf f1.type)) = some y1 ∧ DataW.trod enc P w base spare held n f2.type ((cs.drop f2.offset).take (P.cellsOf f2.type)) = some y2 ∧ DataW.trod enc P w base spare held n f3.type ((cs.drop f3.offset).take (P.cellsOf f3.type)) = some y3 ∧ DataW.trod enc P w base spare held n f4.type ((cs.drop f4.offset).take (P.cellsOf f4.type)) = some y4 ∧ DataW.trod enc P w base spare held n f5.type ((cs.drop f5.offset).take (P.cellsOf f5.type)) = some y5 ∧ DataW.trod enc P w base spare held n f6.type ((cs.drop f6.offset).take (P.cellsOf f6.type)) = some y6 ∧ DataW.trod enc P w base spare held n f7.type ((cs.drop f7.offset).take (P.cellsOf f7.type)) = some y7 := by
  obtain ⟨xs, n, _, hx, hl, hlen, hf⟩ := DataW.trod_struct ht h
  obtain ⟨y0, y1, y2, y3, y4, y5, y6, y7, rfl⟩ := list8 (l := xs) hlen
  exact ⟨y0, y1, y2, y3, y4, y5, y6, y7, n, by rw [hx], hl, by simpa using hf 0 f0 rfl, by simpa using hf 1 f1 rfl, by simpa using hf 2 f2 rfl, by simpa using hf 3 f3 rfl, by simpa using hf 4 f4 rfl, by simpa using hf 5 f5 rfl, by simpa using hf 6 f6 rfl, by simpa using hf 7 f7 rfl⟩
set_option maxRecDepth 100000 in
/-- A circuit's cells. -/
theorem circ_cells {n : Nat} {cs : List Value} {x : DataW H × List MemPlace} (h : DataW.trod enc Try.prog w base spare held n 27 cs = some x) (hb : ∀ n ∈ x.1.weights Try.prog 27, n ≤ reachBytes) :
    ∃ (Hh : Hd) (C : Pc), cs = (cvs Hh C).toList ∧ CiAt w Hh C ∧ NilOk Hh C := by
  obtain ⟨y0, y1, y2, y3, y4, y5, y6, y7, n2, hx, hl, hf0, hf1, hf2, hf3, hf4, hf5, hf6, hf7⟩ := trod_struct8 Try.underlying27 h
  rw [cellsOf_circuit] at hl
  obtain ⟨v0, v1, v2, v3, v4, v5, v6, v7, rfl⟩ := list8 hl
  simp only [cellsOf_int, cellsOf_ints, cellsOf_lats, cellsOf_ands, cellsOf_nms, List.drop_zero, List.drop_succ_cons, List.take_succ_cons, List.take_zero] at hf0 hf1 hf2 hf3 hf4 hf5 hf6 hf7
  have hw : ∀ (j : Nat) (t : TypeId) (y : DataW H × List MemPlace), [3, 22, 23, 22, 22, 22, 24, 25][j]? = some t → [y0, y1, y2, y3, y4, y5, y6, y7][j]? = some y → ∀ n ∈ y.1.weights Try.prog t, n ≤ reachBytes := by
    intro j t y ht hy k hk
    refine hb k ?_
    rw [hx]
    have e : (DataW.agg ([y0, y1, y2, y3, y4, y5, y6, y7].map (·.1))).weights Try.prog 27 = DataW.weightsEach Try.prog [3, 22, 23, 22, 22, 22, 24, 25] ([y0, y1, y2, y3, y4, y5, y6, y7].map (·.1)) := by
      rw [DataW.weights, Try.underlying27]
      rfl
    rw [e]
    exact DataW.weights_mem_each (j := j) ht (by rw [List.getElem?_map, hy]; rfl) k hk
  obtain ⟨mx, e0, _, w0⟩ := DataW.trod_int Try.underlying3 hf0
  obtain ⟨A1, c1, l1, e1, _, _, r1, q1, b1, n1⟩ := ints_cells hf1 (hw 1 _ _ rfl rfl)
  obtain ⟨A2, c2, l2, e2, r2, q2, b2, n2'⟩ := t3_cells Try.underlying23 Try.underlying67 cellsOf_latch bytesOf_latch ⟨rfl, rfl⟩ ⟨rfl, rfl⟩ ⟨rfl, rfl⟩ hf2 (hw 2 _ _ rfl rfl)
  obtain ⟨A3, c3, l3, e3, _, _, r3, q3, b3, n3⟩ := ints_cells hf3 (hw 3 _ _ rfl rfl)
  obtain ⟨A4, c4, l4, e4, _, _, r4, q4, b4, n4⟩ := ints_cells hf4 (hw 4 _ _ rfl rfl)
  obtain ⟨A5, c5, l5, e5, _, _, r5, q5, b5, n5⟩ := ints_cells hf5 (hw 5 _ _ rfl rfl)
  obtain ⟨A6, c6, l6, e6, r6, q6, b6, n6⟩ := t3_cells Try.underlying24 Try.underlying70 cellsOf_and bytesOf_and ⟨rfl, rfl⟩ ⟨rfl, rfl⟩ ⟨rfl, rfl⟩ hf6 (hw 6 _ _ rfl rfl)
  obtain ⟨A7, c7, l7, e7, r7, q7, b7, n7⟩ := nm_cells hf7 (hw 7 _ _ rfl rfl)
  simp only [List.cons.injEq, and_true] at e0 e1 e2 e3 e4 e5 e6 e7
  subst e0 e1 e2 e3 e4 e5 e6 e7
  exact ⟨⟨A1, c1, A2, c2, A3, c3, A4, c4, A5, c5, A6, c6, A7, c7⟩, ⟨mx, l1, l2, l3, l4, l5, l6, l7⟩, rfl,
    ⟨r1, r2, r3, r4, r5, r6, r7, b1, b2, b3, b4, b5, b6, b7, Go.Joins.in64_of_wf w0, q1, q2, q3, q4, q5, q6, q7⟩, ⟨n1, n2', n3, n4, n5, n6, n7⟩⟩
end
end Go.Proofs.Ytbjccgahmgpkjaa
