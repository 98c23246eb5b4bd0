/- An argument that is a slice of structs of three ints, opened to its cells; and what an argument reads behind the call. -/
import Derived.Test.YtbjccgahmgpkjaaPost
import Derived.Deep.Slices
import Derived.Carry
namespace Go.Proofs.Ytbjccgahmgpkjaa
open Go.ChangeShapes Go.WideShapes Go.ChangeAt Go.RowKit Go.Deep

theorem laid : laidOutB Try.prog = true := by kernel_rfl

theorem kept_arg {H : Type} {enc : TypeId × Value → H} {t : TypeId} (hr : Try.prog.readableRec t = true) (hrow : t < Try.prog.types.size) {W W' : World} {v : Value} {d : DataW H} {ps : List MemPlace} {sp : Nat → Bool}
    (h : DataW.Trod enc Try.prog W 0 (fun _ => true) true t v d ps) (hb : Below W.heap.size W W') (hlt : ∀ x ∈ ps, x.block < W.heap.size) (hs : ∀ p ∈ ps, sp p.block = true) :
    DataW.Trod enc Try.prog W' 0 sp true t v d ps :=
  WideElems.Trod_stays laid hr hrow h (fun x hx => hb.same (hlt x hx)) hs

section
variable {H : Type} {enc : TypeId × Value → H} {P : Program} {w : World} {base : Nat} {spare : Nat → Bool} {held : Bool}

theorem field_int {ti : TypeId} {k : IntKind} (ht : P.underlying ti = some (.int k)) {n : Nat} {cs : List Value} {o : Nat} {x : DataW H × List MemPlace}
    (h : DataW.trod enc P w base spare held n ti ((cs.drop o).take 1) = some x) : ∃ z, cs[o]? = some (.int k z) := by
  obtain ⟨z, hz, _, _⟩ := DataW.trod_int ht h
  refine ⟨z, ?_⟩
  have : ((cs.drop o).take 1)[0]? = some (.int k z) := by rw [hz]; rfl
  rw [List.getElem?_take] at this
  simpa using this

/-- '[]struct{ int; int; int }': its length, its capacity, and the three cells of each element. -/
theorem open_int3 {t e ti : TypeId} {fs : Array Field} {v : Value} {d : DataW H} {ps : List MemPlace} (ht : P.underlying t = some (.slice e)) (he : P.underlying e = some (.struct fs)) (hC : P.cellsOf e = 3)
    (hi : P.underlying ti = some (.int .i64)) (hci : P.cellsOf ti = 1) (hof : fs.toList.map (fun f => (f.offset, f.type)) = [(0, ti), (1, ti), (2, ti)])
    (hv : Value.okWide P w .any 0 t v) (h : DataW.Trod enc P w base spare held t v d ps) :
    ∃ (A : Option Addr) (c : Nat) (l : List (Int × Int × Int)), v = .slice A l.length c ∧ l.length ≤ maxLen ∧ (0 < l.length → ∃ b o, A = some ⟨b, o, none⟩ ∧ b < w.heap.size ∧
      ∀ j : Nat, (hj : j < l.length) → w.cell? ⟨b, o + j * 3, none⟩ = some (.int .i64 l[j].1) ∧ w.cell? ⟨b, o + j * 3 + 1, none⟩ = some (.int .i64 l[j].2.1) ∧ w.cell? ⟨b, o + j * 3 + 2, none⟩ = some (.int .i64 l[j].2.2)) := by
  obtain ⟨a0, len0, cap0, rfl⟩ := okWide_slice ht hv
  obtain ⟨n, hn⟩ := h
  rcases open_slice ht hn with ⟨h0, _⟩ | ⟨a, len, cap, m, n', D, Pl, h0, hb, hl, hm, hmm, _, hx⟩
  · have e1 : Value.slice a0 len0 cap0 = Value.slice none 0 0 := by simpa [Value.cells] using h0
    obtain ⟨rfl, rfl, rfl⟩ := Value.slice.inj e1
    exact ⟨none, 0, [], rfl, Nat.zero_le _, fun h => absurd h (Nat.lt_irrefl _)⟩
  · have e1 : Value.slice a0 len0 cap0 = Value.slice (some a) len cap := by simpa [Value.cells] using h0
    obtain ⟨rfl, rfl, rfl⟩ := Value.slice.inj e1
    have hlm : len0 ≤ m := by rw [hmm]; split <;> omega
    have hcells : ∀ i, i < len0 → ∃ z : Int × Int × Int, w.cell? (a.add (i * 3)) = some (.int .i64 z.1) ∧ w.cell? (a.add (i * 3 + 1)) = some (.int .i64 z.2.1) ∧ w.cell? (a.add (i * 3 + 2)) = some (.int .i64 z.2.2) := by
      intro i hi'
      obtain ⟨cs', hc, htr⟩ := hx i (by omega)
      rw [hC] at hc
      obtain ⟨xs, k, _, _, _, hxl, hf⟩ := DataW.trod_struct he htr
      obtain ⟨_, hcl, hat⟩ := World.cells?_some hc
      have hsz : fs.size = 3 := by
        have := congrArg List.length hof
        simpa using this
      have fld : ∀ j (hj : j < 3), (fs[j]?).map (fun f => (f.offset, f.type)) = some (j, ti) := by
        intro j hj
        have := congrArg (fun l => l[j]?) hof
        simp only [List.getElem?_map, Array.getElem?_toList] at this
        rw [this]
        match j, hj with
        | 0, _ => rfl
        | 1, _ => rfl
        | 2, _ => rfl
      have one : ∀ j, j < 3 → ∃ z, w.cell? ((a.add (i * 3)).add j) = some (.int .i64 z) := by
        intro j hj
        have hfj := fld j hj
        cases hfe : fs[j]? with
        | none => rw [hfe] at hfj; cases hfj
        | some f =>
          rw [hfe] at hfj
          simp only [Option.map_some, Option.some.injEq, Prod.mk.injEq] at hfj
          have h1 := hf j f hfe
          rw [hfj.1, hfj.2, hci, List.getElem?_eq_getElem (by omega : j < xs.length)] at h1
          obtain ⟨z, hz⟩ := field_int hi h1
          exact ⟨z, by rw [hat j hj, hz]⟩
      obtain ⟨z0, h0⟩ := one 0 (by omega)
      obtain ⟨z1, h1⟩ := one 1 (by omega)
      obtain ⟨z2, h2⟩ := one 2 (by omega)
      rw [add_add] at h1 h2
      exact ⟨(z0, z1, z2), h0, h1, h2⟩
    obtain ⟨F, hF⟩ := choose_lt (α := Int × Int × Int) (p := fun i z => w.cell? (a.add (i * 3)) = some (.int .i64 z.1) ∧ w.cell? (a.add (i * 3 + 1)) = some (.int .i64 z.2.1) ∧ w.cell? (a.add (i * 3 + 2)) = some (.int .i64 z.2.2)) hcells
    refine ⟨some a, cap0, (List.range len0).map F, by simp, by simp; omega, ?_⟩
    intro hpos
    simp only [List.length_map, List.length_range] at hpos
    obtain ⟨b, o, s⟩ := a
    have h00 := (hF 0 hpos).1
    have hs : s = none ∧ b < w.heap.size := by
      rw [Nat.zero_mul] at h00
      change w.cell? ⟨b, o, s⟩ = _ at h00
      unfold World.cell? at h00
      split at h00
      · rename_i hh
        split at h00
        · cases h00
        · rename_i hsp
          exact ⟨by cases s <;> simp_all, (Array.getElem?_eq_some_iff.1 hh).1⟩
      · cases h00
    obtain ⟨rfl, hbl⟩ := hs
    refine ⟨b, o, rfl, hbl, fun j hj => ?_⟩
    simp only [List.length_map, List.length_range] at hj
    have := hF j hj
    simp only [add_plain] at this
    simp only [List.getElem_map, List.getElem_range]
    refine ⟨this.1, ?_, ?_⟩
    · rw [Nat.add_assoc]; exact this.2.1
    · rw [Nat.add_assoc]; exact this.2.2
end
end Go.Proofs.Ytbjccgahmgpkjaa
