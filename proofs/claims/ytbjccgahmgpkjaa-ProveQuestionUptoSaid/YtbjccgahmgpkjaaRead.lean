/- Int slices that are only read; the references' Has, Abs, SameInts and Ints walked. -/
import Derived.Test.YtbjccgahmgpkjaaMemP
import Derived.Deep.LoopGhost
namespace Go.Proofs.Ytbjccgahmgpkjaa
open Go.RowKit

/-- The slice value '.slice A n c' reads as xs. -/
def Rd (w : World) (A : Option Addr) (xs : List Int) : Prop := 0 < xs.length → ∃ b o, A = some ⟨b, o, none⟩ ∧ ∀ j : Nat, j < xs.length → w.cell? ⟨b, o + j, none⟩ = some (.int .i64 xs[j]!)

theorem Ints.rd {w : World} {A : Option Addr} {c : Nat} {xs : List Int} (h : Ints w A c xs) : Rd w A xs := by
  intro h0
  obtain ⟨g, hg, _⟩ := h.pos (i := 0) h0
  subst hg
  exact ⟨g, 0, rfl, fun j hj => by rw [Nat.zero_add]; exact h.cell hj⟩
theorem Rd.fr {w w' : World} {A : Option Addr} {xs : List Int} (h : Rd w A xs) (hc : ∀ b o j : Nat, A = some ⟨b, o, none⟩ → j < xs.length → w'.cell? ⟨b, o + j, none⟩ = w.cell? ⟨b, o + j, none⟩) : Rd w' A xs := by
  intro h0
  obtain ⟨b, o, hA, hx⟩ := h h0
  exact ⟨b, o, hA, fun j hj => by rw [hc b o j hA hj]; exact hx j hj⟩
theorem Rd.drewN {w : World} {A : Option Addr} {xs : List Int} (h : Rd w A xs) (n : Nat) : Rd (w.drewN n) A xs := h

set_option maxHeartbeats 400000 in
theorem has_any (w : World) (A : Option Addr) (c : Nat) (xs : List Int) (n : Int) (h : Rd w A xs) (hl : xs.length ≤ 9223372036854775807) :
    Calls Try.prog 16 #[.slice A xs.length c, .int .i64 n] w fun e w' => e = .returned (.bool (decide (n ∈ xs))) ∧ w = w' := by
  go_enter Try.func16, Try.ntmps16
  go_wp2_with fail
  have H := Lib.hid h
  clear h
  go_loopg [5] xs.length (fun g i wr => ∃ k : Nat, k + g = xs.length ∧ i = .int .i64 k ∧ w = wr ∧ Hid (∀ j : Nat, j < k → xs[j]! ≠ n))
  case atStart => exact ⟨0, by omega, rfl, rfl, fun j hj => by omega⟩
  case round =>
    obtain ⟨k, hk, rfl, rfl, hn⟩ := hrel
    have HK := Lib.hid hk
    have hk2 : k ≤ xs.length := by omega
    clear hk
    by_cases hlt : k < xs.length
    · obtain ⟨b, o, rfl, hx⟩ := H.out (by omega)
      have cx := hx k hlt
      clear hx
      have hxe : Hid (∃ x, xs[k]! = x) := ⟨_, rfl⟩
      obtain ⟨x, hx⟩ := hxe
      rw [hx] at cx
      have HX := Lib.hid hx
      clear hx
      by_cases he : x = n
      · subst he
        go_wp2_with fail
        go_ret
        have hm : x ∈ xs := by rw [← HX.out, List.getElem!_eq_getElem?_getD, List.getElem?_eq_getElem hlt]; exact List.getElem_mem hlt
        exact ⟨by simp [hm], rfl⟩
      · have hne : (x == n) = false := beq_eq_false_iff_ne.2 he
        have HE := Lib.hid he
        clear he
        go_wp2_with fail
        go_roundg (gk - 1)
        case measure => have := HK.out; omega
        case rel => exact ⟨k + 1, by have := HK.out; omega, by go_num, rfl, fun j hj => by
          by_cases e : j = k
          · subst e; rw [HX.out]; exact HE.out
          · exact hn.out j (by omega)⟩
    · go_wp2_with fail
      go_ret
      have hm : n ∉ xs := by
        intro hm
        obtain ⟨j, hj, e⟩ := List.mem_iff_getElem.1 hm
        exact hn.out j (by omega) (by simp [hj, e])
      exact ⟨by simp [hm], rfl⟩

end Go.Proofs.Ytbjccgahmgpkjaa
