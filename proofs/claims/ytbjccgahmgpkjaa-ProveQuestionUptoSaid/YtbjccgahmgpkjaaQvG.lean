/- A table, and what is kept, among the arguments, opened to their cells where what is read is of small bulk. -/
import Derived.Test.YtbjccgahmgpkjaaQvF
import Derived.Test.YtbjccgahmgpkjaaOpc
import Derived.Test.YtbjccgahmgpkjaaBulk
import Derived.Deep.SlicePairs
import Derived.JoinedCond
namespace Go.Proofs.Ytbjccgahmgpkjaa
open Go.ChangeShapes Go.WideShapes Go.ChangeAt Go.RowKit Go.Deep Go.Joins
set_option linter.unusedVariables false

section
variable {H : Type} {enc : TypeId × Value → H} {w : World} {base : Nat} {spare : Nat → Bool} {held : Bool}

theorem cellsOf_fact : Try.prog.cellsOf 78 = 5 := by kernel_rfl
theorem cellsOf_kept : Try.prog.cellsOf 50 = 2 := by kernel_rfl
theorem cellsOf_table : Try.prog.cellsOf 42 = 3 := by kernel_rfl
theorem cellsOf_lists : Try.prog.cellsOf 44 = 1 := by kernel_rfl
theorem cellsOf_facts : Try.prog.cellsOf 40 = 1 := by kernel_rfl

theorem ints_small {n : Nat} {cs : List Value} {x : DataW H × List MemPlace} (h : DataW.trod enc Try.prog w base spare held n 22 cs = some x) (hb : Rows.uptoBulk x.1 ≤ 1048576) :
    ∃ L : Ls, cs = [L.val] ∧ OkL w L ∧ L.l.length ≤ 1048576 := by
  rcases open_ints Try.underlying22 Try.underlying3 cellsOf_int h with ⟨e1, hx1⟩ | ⟨a, len, cap, zs, e1, hbb, hlc, hm, hz, hx1, hcell, hwf⟩
  · exact ⟨⟨none, 0, []⟩, e1, ⟨fun h => absurd h (Nat.not_lt_zero _), fun j hj => absurd hj (Nat.not_lt_zero _), by simp, fun _ => ⟨rfl, rfl⟩⟩, by simp⟩
  · have hle : len ≤ zs.length := by rw [hz]; split <;> omega
    have hxl : (zs.take len).length = len := by rw [List.length_take]; omega
    have hb1 : len ≤ 1048576 := by
      rw [hx1] at hb
      have := bulks.slice_le (H := H) (lits .i64 (zs.take len)) (lits .i64 (zs.drop len))
      simp only [lits, List.length_map, List.length_take, List.length_drop] at this hb
      omega
    refine ⟨⟨some a, cap, zs.take len⟩, by rw [e1]; simp only [Ls.val, hxl], ⟨fun hp => ?_, fun j hj => ?_, ?_, fun h => by cases h⟩, by rw [hxl]; exact hb1⟩
    · rw [hxl] at hp
      obtain ⟨b, o, rfl⟩ := plain_of (hcell 0 (by omega))
      refine ⟨b, o, rfl, fun j hj => ?_⟩
      rw [hxl] at hj
      have := hcell j (by omega)
      rw [add_pl] at this
      rw [this]
      have hj2 : j < zs.length := by omega
      simp [List.getElem!_eq_getElem?_getD, hj]
    · simp only at hj
      rw [hxl] at hj
      have hj2 : j < zs.length := by omega
      have := Go.Joins.in64_of_wf (hwf zs[j] (List.getElem_mem hj2))
      have e : (zs.take len)[j]! = zs[j] := by simp [List.getElem!_eq_getElem?_getD, hj, hj2]
      simp only
      rw [e]
      exact this
    · simp only
      rw [hxl]
      omega

theorem range_part {len : Nat} {D : Nat → DataW H} {i : Nat} (hi : i < len) : Rows.uptoBulk (D i) ≤ Rows.uptoBulkAll ((List.range len).map D) :=
  bulks.part_le (List.mem_map.2 ⟨i, List.mem_range.2 hi, rfl⟩)
theorem get_rng {α : Type} [Inhabited α] {len j : Nat} {F : Nat → α} (hj : j < len) : ((List.range len).map F)[j]! = F j := by
  simp only [List.getElem!_eq_getElem?_getD, List.getElem?_map, List.getElem?_range hj, Option.map_some, Option.getD_some]

theorem lists_small {n : Nat} {cs : List Value} {x : DataW H × List MemPlace} (h : DataW.trod enc Try.prog w base spare held n 44 cs = some x) (hb : Rows.uptoBulk x.1 ≤ 1048576) :
    ∃ (A : Option Addr) (c : Nat) (hs : List Ls), cs = [.slice A hs.length c] ∧ RdL w A hs ∧ hs.length ≤ Rows.uptoBulk x.1 ∧ ∀ m : Nat, m < hs.length → (hs[m]!).l.length ≤ 1048576 := by
  rcases open_slice1 Try.underlying44 cellsOf_ints h with ⟨h0, _⟩ | ⟨a, len, cap, m, n', V, D, Pl, h0, hbb, hl, hm, hmm, hxe, hx⟩
  · exact ⟨none, 0, [], h0, ⟨fun h => absurd h (Nat.not_lt_zero _), fun j hj => absurd hj (Nat.not_lt_zero _)⟩, by simp, fun m hm => absurd hm (Nat.not_lt_zero _)⟩
  · have hlm : len ≤ m := by rw [hmm]; split <;> omega
    have hbs : Rows.uptoBulkAll ((List.range len).map D) + 1 ≤ Rows.uptoBulk x.1 := by rw [hxe]; exact bulks.slice_elems _ _
    have hcells : ∀ i, i < len → ∃ L : Ls, w.cell? (a.add i) = some L.val ∧ OkL w L ∧ L.l.length ≤ 1048576 := by
      intro i hi
      obtain ⟨hc, htr⟩ := hx i (by omega)
      have hD : Rows.uptoBulk (D i) ≤ Rows.uptoBulkAll ((List.range len).map D) := range_part hi
      obtain ⟨L, h1, h2, h3⟩ := ints_small htr (by simp only; omega)
      simp only [List.cons.injEq, and_true] at h1
      exact ⟨L, by rw [hc, h1], h2, h3⟩
    obtain ⟨F, hF⟩ := choose_lt hcells
    refine ⟨some a, cap, (List.range len).map F, by simp [h0], ⟨fun hpos => ?_, fun j hj => ?_⟩, ?_, fun j hj => ?_⟩
    · simp only [List.length_map, List.length_range] at hpos
      have h00 := (hF 0 hpos).1
      obtain ⟨b, o, rfl⟩ := plain_of h00
      refine ⟨b, o, rfl, fun j hj => ?_⟩
      simp only [List.length_map, List.length_range] at hj
      rw [get_rng hj]
      have := (hF j hj).1
      rwa [add_pl] at this
    · simp only [List.length_map, List.length_range] at hj
      rw [get_rng hj]
      exact (hF j hj).2.1
    · have h1 := bulks.slice_le ((List.range len).map D) ((List.range (m - len)).map fun j => D (len + j))
      rw [hxe]
      simp only [List.length_map, List.length_range] at h1 ⊢
      omega
    · simp only [List.length_map, List.length_range] at hj
      rw [get_rng hj]
      exact (hF j hj).2.2

theorem list5 {α : Type} {l : List α} (h : l.length = 5) : ∃ a b c d e, l = [a, b, c, d, e] := by
  match l, h with
  | [a, b, c, d, e], _ => exact ⟨a, b, c, d, e, rfl⟩
theorem trod_struct5 {P : Program} {t : TypeId} {f0 f1 f2 f3 f4 : Field} {fuel : Nat} {cs : List Value} {x : DataW H × List MemPlace} (ht : P.underlying t = some (.struct #[f0, f1, f2, f3, f4])) (h : DataW.trod enc P w base spare held fuel t cs = some x) :
    ∃ y0 y1 y2 y3 y4 n, x.1 = .agg ([y0, y1, y2, y3, y4].map (·.1)) ∧ cs.length = P.cellsOf t ∧ DataW.trod enc P w base spare held n f0.type ((cs.drop f0.offset).take (P.cellsOf f0.type)) = some y0 ∧ DataW.trod enc P w base spare held n f1.type ((cs.drop f1.offset).take (P.cellsOf f1.type)) = some y1 ∧ DataW.trod enc P w base spare held n f2.type ((cs.drop f2.offset).take (P.cellsOf f2.type)) = some y2 ∧ DataW.trod enc P w base spare held n f3.type ((cs.drop f3.offset).take (P.cellsOf f3.type)) = some y3 ∧ DataW.trod enc P w base spare held n f4.type ((cs.drop f4.offset).take (P.cellsOf f4.type)) = some y4 := by
  obtain ⟨xs, n, _, hx, hl, hlen, hf⟩ := DataW.trod_struct ht h
  obtain ⟨y0, y1, y2, y3, y4, rfl⟩ := list5 (l := xs) hlen
  exact ⟨y0, y1, y2, y3, y4, n, by rw [hx], hl, by simpa using hf 0 f0 rfl, by simpa using hf 1 f1 rfl, by simpa using hf 2 f2 rfl, by simpa using hf 3 f3 rfl, by simpa using hf 4 f4 rfl⟩

set_option maxRecDepth 100000 in
theorem facts_small {n : Nat} {cs : List Value} {x : DataW H × List MemPlace} (h : DataW.trod enc Try.prog w base spare held n 40 cs = some x) (hb : Rows.uptoBulk x.1 ≤ 1048576) :
    ∃ (A : Option Addr) (c : Nat) (fs : List Fa), cs = [.slice A fs.length c] ∧ RdF w A fs ∧ fs.length ≤ 1048576 ∧ (∀ j : Nat, j < fs.length → (fs[j]!).L.l.length ≤ 1048576) ∧ ∀ j : Nat, j < fs.length → R64 (fs[j]!).id := by
  rcases open_slice Try.underlying40 h with ⟨h0, _⟩ | ⟨a, len, cap, m, n', D, Pl, h0, hbb, hl, hm, hmm, hxe, hx⟩
  · exact ⟨none, 0, [], h0, ⟨fun h => absurd h (Nat.not_lt_zero _), fun j hj => absurd hj (Nat.not_lt_zero _)⟩, by simp, fun m hm => absurd hm (Nat.not_lt_zero _), fun m hm => absurd hm (Nat.not_lt_zero _)⟩
  · have hlm : len ≤ m := by rw [hmm]; split <;> omega
    have hbs : Rows.uptoBulkAll ((List.range len).map D) + 1 ≤ Rows.uptoBulk x.1 := by rw [hxe]; exact bulks.slice_elems _ _
    have hcells : ∀ i, i < len → ∃ z : Fa, w.cell? (a.add (i * 5)) = some (.int .i64 z.id) ∧ w.cell? ((a.add (i * 5)).add 1) = some (.int .i64 z.kind) ∧ w.cell? ((a.add (i * 5)).add 2) = some (.int .i64 z.dep) ∧ w.cell? ((a.add (i * 5)).add 3) = some z.L.val ∧ w.cell? ((a.add (i * 5)).add 4) = some z.T.val ∧ OkL w z.L ∧ R64 z.id ∧ R64 z.kind ∧ z.L.l.length ≤ 1048576 := by
      intro i hi
      obtain ⟨cs', hc, htr⟩ := hx i (by omega)
      rw [cellsOf_fact] at hc
      have hD : Rows.uptoBulk (D i) ≤ Rows.uptoBulkAll ((List.range len).map D) := range_part hi
      obtain ⟨y0, y1, y2, y3, y4, n2, hxd, hlen, g0, g1, g2, g3, g4⟩ := trod_struct5 Try.underlying78 htr
      rw [cellsOf_fact] at hlen
      simp only [cellsOf_int, cellsOf_ints] at g0 g1 g2 g3 g4
      have hxd' : D i = .agg ([y0, y1, y2, y3, y4].map (·.1)) := hxd
      rw [hxd'] at hD
      simp only [Rows.uptoBulk, Rows.uptoBulkAll, List.map_cons, List.map_nil] at hD
      obtain ⟨v0, v1, v2, v3, v4, rfl⟩ := list5 hlen
      simp only [List.drop_zero, List.drop_succ_cons, List.take_succ_cons, List.take_zero] at g0 g1 g2 g3 g4
      obtain ⟨z0, e0, _, w0⟩ := DataW.trod_int Try.underlying3 g0
      obtain ⟨z1, e1, _, w1⟩ := DataW.trod_int Try.underlying3 g1
      obtain ⟨z2, e2, _, w2⟩ := DataW.trod_int Try.underlying3 g2
      obtain ⟨L, e3, k3, q3⟩ := ints_small g3 (by omega)
      obtain ⟨T, e4, k4, q4⟩ := ints_small g4 (by omega)
      simp only [List.cons.injEq, and_true] at e0 e1 e2 e3 e4
      subst e0 e1 e2 e3 e4
      obtain ⟨_, _, hat⟩ := World.cells?_some hc
      have a0 := hat 0 (by omega)
      have a1 := hat 1 (by omega)
      have a2 := hat 2 (by omega)
      have a3 := hat 3 (by omega)
      have a4 := hat 4 (by omega)
      rw [add_0] at a0
      exact ⟨⟨z0, z1, z2, L, T⟩, a0, a1, a2, a3, a4, k3, Go.Joins.in64_of_wf w0, Go.Joins.in64_of_wf w1, q3⟩
    obtain ⟨F, hF⟩ := choose_lt hcells
    refine ⟨some a, cap, (List.range len).map F, by simp [h0], ⟨fun hpos => ?_, fun j hj => ?_⟩, ?_, fun j hj => ?_, fun j hj => ?_⟩
    · simp only [List.length_map, List.length_range] at hpos
      have h00 := (hF 0 hpos).1
      rw [Nat.zero_mul] at h00
      rw [add_0] at h00
      obtain ⟨b, o, rfl⟩ := plain_of h00
      refine ⟨b, o, rfl, fun j hj => ?_⟩
      simp only [List.length_map, List.length_range] at hj
      rw [get_rng hj]
      obtain ⟨p0, p1, p2, p3, p4, _⟩ := hF j hj
      simp only [add_pl] at p0 p1 p2 p3 p4
      exact ⟨p0, p1, p2, p3, p4⟩
    · simp only [List.length_map, List.length_range] at hj
      rw [get_rng hj]
      obtain ⟨_, _, _, _, _, p5, p6, p7, _⟩ := hF j hj
      exact ⟨p5, p6, p7⟩
    · have h1 := bulks.slice_le ((List.range len).map D) ((List.range (m - len)).map fun j => D (len + j))
      rw [hxe] at hb
      simp only [List.length_map, List.length_range] at h1 hb ⊢
      omega
    · simp only [List.length_map, List.length_range] at hj
      rw [get_rng hj]
      obtain ⟨_, _, _, _, _, _, _, _, p8⟩ := hF j hj
      exact p8
    · simp only [List.length_map, List.length_range] at hj
      rw [get_rng hj]
      obtain ⟨_, _, _, _, _, _, p6, _⟩ := hF j hj
      exact p6

theorem tab_small {n : Nat} {cs : List Value} {x : DataW H × List MemPlace} (h : DataW.trod enc Try.prog w base spare held n 42 cs = some x) (hb : Rows.uptoBulk x.1 ≤ 1048576) :
    ∃ (nx dp : Int) (A : Option Addr) (c : Nat) (fs : List Fa), cs = (tvs nx dp A c fs).toList ∧ RdF w A fs ∧ fs.length ≤ 1048576 ∧ (∀ j : Nat, j < fs.length → (fs[j]!).L.l.length ≤ 1048576) ∧ ∀ j : Nat, j < fs.length → R64 (fs[j]!).id := by
  obtain ⟨y0, y1, y2, n2, hxd, hlen, g0, g1, g2⟩ := trod_struct3 Try.underlying42 h
  rw [cellsOf_table] at hlen
  rw [hxd] at hb
  simp only [Rows.uptoBulk, Rows.uptoBulkAll] at hb
  simp only [cellsOf_int, cellsOf_facts] at g0 g1 g2
  match cs, hlen with
  | [v0, v1, v2], _ =>
    simp only [List.drop_zero, List.drop_succ_cons, List.take_succ_cons, List.take_zero] at g0 g1 g2
    obtain ⟨z0, e0, _, w0⟩ := DataW.trod_int Try.underlying3 g0
    obtain ⟨z1, e1, _, w1⟩ := DataW.trod_int Try.underlying3 g1
    obtain ⟨A, c, fs, e2, h1, h2, h3, h4⟩ := facts_small g2 (by omega)
    simp only [List.cons.injEq, and_true] at e0 e1 e2
    subst e0 e1 e2
    exact ⟨z0, z1, A, c, fs, rfl, h1, h2, h3, h4⟩

theorem sum_bulk {D : Nat → DataW H} {f : Nat → Nat} : ∀ l : List Nat, (∀ i ∈ l, f i ≤ Rows.uptoBulk (D i)) → (l.map f).sum ≤ Rows.uptoBulkAll (l.map D)
  | [], _ => by simp
  | i :: r, h => by
    have h1 := h i (by simp)
    have h2 := sum_bulk r (fun j hj => h j (by simp [hj]))
    simp only [List.map_cons, List.sum_cons, Rows.uptoBulkAll]
    omega
theorem kn1_le (s : List Int) (k : Kp) : kn1 s k ≤ k.hs.length := by unfold kn1; split <;> omega

theorem kept_small {n : Nat} {cs : List Value} {x : DataW H × List MemPlace} (h : DataW.trod enc Try.prog w base spare held n 43 cs = some x) (hb : Rows.uptoBulk x.1 ≤ 1048576) :
    ∃ (A : Option Addr) (c : Nat) (ks : List Kp), cs = [.slice A ks.length c] ∧ RdK w A ks ∧ ks.length ≤ 1048576 ∧ ∀ s, kn s ks ≤ 1048576 := by
  rcases open_slice_pairs Try.underlying43 Try.underlying50 cellsOf_kept rfl rfl cellsOf_lists cellsOf_ints h with ⟨h0, _⟩ | ⟨a, len, cap, m, n', V0, V1, D0, D1, P0, P1, h0, hbb, hl, hm, hmm, hxe, hx⟩
  · exact ⟨none, 0, [], h0, ⟨fun h => absurd h (Nat.not_lt_zero _), fun j hj => absurd hj (Nat.not_lt_zero _)⟩, by simp, fun s => by simp [kn]⟩
  · have hlm : len ≤ m := by rw [hmm]; split <;> omega
    have hbs : Rows.uptoBulkAll ((List.range len).map fun i => DataW.agg [D0 i, D1 i]) + 1 ≤ Rows.uptoBulk x.1 := by rw [hxe]; exact bulks.slice_elems _ _
    have hcells : ∀ i, i < len → ∃ z : Kp, w.cell? (a.add (i * 2)) = some (.slice z.A z.hs.length z.c) ∧ w.cell? (a.add (i * 2 + 1)) = some z.T.val ∧ RdL w z.A z.hs ∧ OkL w z.T ∧ z.hs.length ≤ Rows.uptoBulk (DataW.agg [D0 i, D1 i]) ∧ z.hs.length ≤ 1048576 ∧ ∀ m : Nat, m < z.hs.length → (z.hs[m]!).l.length ≤ 1048576 := by
      intro i hi
      obtain ⟨c0, c1, t0, t1⟩ := hx i (by omega)
      have hD : Rows.uptoBulk (DataW.agg [D0 i, D1 i]) ≤ Rows.uptoBulkAll ((List.range len).map fun i => DataW.agg [D0 i, D1 i]) := range_part (D := fun i => DataW.agg [D0 i, D1 i]) hi
      have hD' := hD
      simp only [Rows.uptoBulk, Rows.uptoBulkAll] at hD'
      obtain ⟨A, c, hs, e0, r0, b0, q0⟩ := lists_small t0 (by simp only; omega)
      obtain ⟨T, e1, r1, q1⟩ := ints_small t1 (by simp only; omega)
      simp only [List.cons.injEq, and_true] at e0 e1
      simp only at b0
      exact ⟨⟨A, c, hs, T⟩, by rw [c0, e0], by rw [c1, e1], r0, r1, by simp only [Rows.uptoBulk, Rows.uptoBulkAll]; omega, by simp only; omega, q0⟩
    obtain ⟨F, hF⟩ := choose_lt hcells
    refine ⟨some a, cap, (List.range len).map F, by simp [h0], ⟨fun hpos => ?_, fun j hj => ?_⟩, ?_, fun s => ?_⟩
    · simp only [List.length_map, List.length_range] at hpos
      have h00 := (hF 0 hpos).1
      rw [Nat.zero_mul] at h00
      rw [add_0] at h00
      obtain ⟨b, o, rfl⟩ := plain_of h00
      refine ⟨b, o, rfl, fun j hj => ?_⟩
      simp only [List.length_map, List.length_range] at hj
      rw [get_rng hj]
      obtain ⟨p0, p1, _⟩ := hF j hj
      simp only [add_pl] at p0 p1
      exact ⟨p0, by rw [Nat.add_assoc]; exact p1⟩
    · simp only [List.length_map, List.length_range] at hj
      rw [get_rng hj]
      obtain ⟨_, _, p2, p3, _, p5, p6⟩ := hF j hj
      exact ⟨p2, p3, p5, p6⟩
    · have h1 := bulks.slice_le ((List.range len).map fun i => DataW.agg [D0 i, D1 i]) ((List.range (m - len)).map fun j => DataW.agg [D0 (len + j), D1 (len + j)])
      rw [hxe] at hb
      simp only [List.length_map, List.length_range] at h1 hb ⊢
      omega
    · have h1 : (((List.range len).map F).map (kn1 s)).sum ≤ Rows.uptoBulkAll ((List.range len).map fun i => DataW.agg [D0 i, D1 i]) := by
        rw [List.map_map]
        exact sum_bulk (f := kn1 s ∘ F) _ (fun i hi => Nat.le_trans (kn1_le s (F i)) (hF i (List.mem_range.1 hi)).2.2.2.2.1)
      unfold kn
      omega
end

/-- The frame of a narrowed law, with how much each list weighs. -/
theorem returns_cond_sized {H : Type} {enc : TypeId × Value → H} {a : Assume} {C : Checked} {os : Os} {f : FuncId} {fn : Func} {s : OpenSpec} {k : (H : Type) → List (DataW H) → Bool} (hk : s.cond = some k) {F : Stop.Interp} {conds : List PathCond} {apart fresh handsOn again : Bool}
    (own : ownKnob C.prog.godebug = none) (started : os.Started) (noInit : C.prog.inits.idxOf? f = none) (hfn : C.prog.funcs[f]? = some fn)
    (witness : ∃ (w : World) (tape : Tape) (i : Input), w.os = os ∧ (w.forCall tape i).Shaped C.prog ∧ i.vars = [] ∧ Input.okWide C.prog (w.forCall tape i) .any w.heap.size f i ∧
      s.pre6 enc C.prog fn conds apart (w.forCall tape i).memory i.args ∧ a.holds C.prog (lone (Frame.enter C.prog f i.args .normal) [] (w.forCall tape i)))
    (contract : ∀ (W : World) (base : Nat) (args : Array Value) (ds gs : List (DataW H)) (before : List MemPlace),
      (∀ (j : Nat) t v, fn.params[j]? = some t → args[j]? = some v → Value.okWide C.prog W .any base t v) →
      DataW.Whole enc C.prog fn.params.toList s.vars apart W args.toList ds gs before →
      k H (ds ++ gs) = true →
      (DataW.weightsEach C.prog (fn.params.toList ++ s.bare.plain.varTypes C.prog) (ds ++ gs)).all (· ≤ reachBytes) = true →
      Calls C.prog f args W fun e W' => ∃ v, e = .returned v ∧ (s.at F).post enc C.prog fn apart fresh handsOn again W args v W') :
    ReturnsInHanded a C os f .any (s.pre6 enc C.prog fn conds apart) ((s.at F).post enc C.prog fn apart fresh handsOn again) := by
  refine returnsInHanded_of_calls own started noInit witness ?_
  intro w tape i _ _ _ hok hpre hholds
  obtain ⟨_, _, _, fn', hfn', _, _, _, _, hval⟩ := hok
  have e : fn' = fn := Option.some.inj (hfn'.symm.trans hfn)
  subst e
  obtain ⟨ds, gs, before, hw, hc, hkk⟩ := (OpenSpec.pre_some hk conds apart _ _).1 hpre.1
  have hz := hpre.2
  have hw' := DataW.Whole.of_heap (w' := w.forCall tape i) (by rfl) hw
  refine (contract (w.forCall tape i) w.heap.size i.args ds gs before hval hw' hkk (hz.weights hw)).mono fun e W' ⟨v, he, hp⟩ => ?_
  subst he
  exact ChangeSpec.post_blind hp

end Go.Proofs.Ytbjccgahmgpkjaa
