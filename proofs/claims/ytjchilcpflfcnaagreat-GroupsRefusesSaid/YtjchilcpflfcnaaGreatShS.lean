/-  -/
import Derived.Test.YtjchilcpflfcnaaGreatShR
import Derived.Test.YtjchilcpflfcnaaGreatSgR
import Derived.Carry
import Derived.Deep.Slices
import Derived.SizedLaws
import Derived.Lib.SmallJoins
/- Slices of ints among the arguments, opened; how much one weighs; what an argument reads behind the call. -/
namespace Go.Proofs.YtjchilcpflfcnaaGreat
open Go.ChangeShapes Go.WideShapes Go.ChangeAt Go.RowKit Go.Deep
set_option linter.unusedVariables false

theorem laid : laidOutB Tryz.prog = true := by kernel_rfl
theorem kept_arg {H : Type} {enc : TypeId × Value → H} {t : TypeId} (hr : Tryz.prog.readableRec t = true) (hrow : t < Tryz.prog.types.size) {W W' : World} {v : Value} {d : DataW H} {ps : List MemPlace} {sp : Nat → Bool}
    (h : DataW.Trod enc Tryz.prog W 0 (fun _ => true) true t v d ps) (hb : Below W.heap.size W W') (hlt : ∀ x ∈ ps, x.block < W.heap.size) (hs : ∀ p ∈ ps, sp p.block = true) :
    DataW.Trod enc Tryz.prog W' 0 sp true t v d ps :=
  WideElems.Trod_stays laid hr hrow h (fun x hx => hb.same (hlt x hx)) hs

section
variable {H : Type} {enc : TypeId × Value → H} {P : Program} {w : World} {base : Nat} {spare : Nat → Bool} {held : Bool}

theorem open_ints_arg {t e : TypeId} {v : Value} {d : DataW H} {ps : List MemPlace} (ht : P.underlying t = some (.slice e)) (he : P.underlying e = some (.int .i64)) (hc : P.cellsOf e = 1)
    (hv : Value.okWide P w .any 0 t v) (h : DataW.Trod enc P w base spare held t v d ps) :
    ∃ (A : Option Addr) (c : Nat) (xs : List Int), v = .slice A xs.length c ∧ Rd w A xs ∧ xs.length ≤ maxLen ∧ Ra xs ∧ (A = none → c = 0) ∧ xs.length ≤ c ∧ (xs.length = 0 ∨ ∃ elems sp, d = .slice elems sp ∧ elems.length = xs.length) := by
  obtain ⟨a0, len0, cap0, rfl⟩ := okWide_slice ht hv
  obtain ⟨n, hn⟩ := h
  rcases open_ints ht he hc hn with ⟨h0, _⟩ | ⟨a, len, cap, zs, h0, hb, hl, hm, hz, hx, hcell, hwf⟩
  · have e1 : Value.slice a0 len0 cap0 = Value.slice none 0 0 := by simpa [Value.cells] using h0
    obtain ⟨rfl, rfl, rfl⟩ := Value.slice.inj e1
    exact ⟨none, 0, [], rfl, fun h => absurd h (Nat.lt_irrefl _), Nat.zero_le _, fun j hj => absurd hj (Nat.not_lt_zero _), fun _ => rfl, Nat.le_refl _, .inl rfl⟩
  · have e1 : Value.slice a0 len0 cap0 = Value.slice (some a) len cap := by simpa [Value.cells] using h0
    obtain ⟨rfl, rfl, rfl⟩ := Value.slice.inj e1
    have hle : len0 ≤ zs.length := by rw [hz]; split <;> omega
    have hxl : (zs.take len0).length = len0 := by rw [List.length_take]; omega
    have hget : ∀ j, j < len0 → (zs.take len0)[j]! = zs.getD j 0 := by
      intro j hj
      have : j < zs.length := by omega
      simp [List.getElem!_eq_getElem?_getD, hj]
    refine ⟨some a, cap0, zs.take len0, by rw [hxl], fun hp => ?_, by rw [hxl]; omega, fun j hj => ?_, fun h => (by cases h), by rw [hxl]; omega, .inr ⟨lits .i64 (zs.take len0), lits .i64 (zs.drop len0), ?_, by simp [lits]⟩⟩
    · rw [hxl] at hp
      obtain ⟨b, o, s⟩ := a
      have h00 := hcell 0 (by omega)
      have hs : s = none ∧ b < w.heap.size := by
        change w.cell? ⟨b, o, s⟩ = _ at h00
        unfold World.cell? at h00
        split at h00
        · rename_i hh
          split at h00
          · cases h00
          · rename_i hsp
            exact ⟨by cases s <;> simp_all, (Array.getElem?_eq_some_iff.1 hh).1⟩
        · cases h00
      obtain ⟨rfl, hbl⟩ := hs
      refine ⟨b, o, rfl, fun j hj => ?_⟩
      rw [hxl] at hj
      have := hcell j (by omega)
      rw [addr_add] at this
      rw [this, hget j hj]
    · rw [hxl] at hj
      rw [hget j hj]
      have hm : zs.getD j 0 ∈ zs := by
        rw [List.getD_eq_getElem?_getD, List.getElem?_eq_getElem (by omega : j < zs.length)]
        exact List.getElem_mem _
      obtain ⟨r1, r2⟩ := Go.Joins.in64_of_wf (hwf _ hm)
      exact ⟨r1, r2⟩
    · exact (Prod.mk.inj hx).1
end
theorem bytesOf_int : Tryz.prog.bytesOf 3 = 8 := by kernel_rfl
theorem slice_weight {H : Type} (elems sp : List (DataW H)) : (elems.length + sp.length) * 8 ∈ (DataW.slice elems sp).weights Tryz.prog 22 := by
  simp [DataW.weights, Tryz.underlying22, bytesOf_int]
end Go.Proofs.YtjchilcpflfcnaaGreat
