/- The trail's Value and Put, walked. -/
import Derived.Test.YtnbpnpodpnlamaaTrailA
namespace Go.Proofs.Ytnbpnpodpnlamaa
open Go.RowKit

/-- A literal's variable, as Go reckons it. -/
def tv (l : Int) : Int := if l = -9223372036854775808 then l else if l < 0 then -l else l
theorem tv_nat {l : Int} (h : 0 ≤ l) : tv l = l := by unfold tv; rw [if_neg (by omega), if_neg (by omega)]
theorem tv_neg {l : Int} (h : l < 0) (h2 : -9223372036854775808 < l) : tv l = -l := by unfold tv; rw [if_neg (by omega), if_pos h]
theorem tv_least {l : Int} (h : l = -9223372036854775808) : tv l = l := by unfold tv; rw [if_pos h]
theorem neg_least {l : Int} (h : l = -9223372036854775808) : wrap64 (-l) = l := by subst h; unfold wrap64; omega

/-- The three kinds of literals. -/
theorem lit_cases (l : Int) (h : -9223372036854775808 ≤ l) : (0 ≤ l ∧ tv l = l) ∨ (l < 0 ∧ -9223372036854775807 ≤ l ∧ tv l = -l) ∨ (l < 0 ∧ tv l = l ∧ wrap64 (-l) = l) := by
  by_cases h0 : 0 ≤ l
  · exact .inl ⟨h0, tv_nat h0⟩
  · by_cases h1 : l = -9223372036854775808
    · exact .inr (.inr ⟨by omega, tv_least h1, neg_least h1⟩)
    · exact .inr (.inl ⟨by omega, by omega, tv_neg (by omega) (by omega)⟩)

def Tr.valF (T : Tr) (l : Int) : Int := if T.isB (tv l) = true then (if l < 0 then -(T.cel (tv l)).v else (T.cel (tv l)).v) else 0

set_option maxHeartbeats 1000000 in
theorem trail_value (w : World) (L : TrL) (T : Tr) (h : TrAt w L T) (l : Int) (hlo : -9223372036854775808 ≤ l) (hhi : l ≤ 9223372036854775807) (hsmall : ∀ v : Int, 1 ≤ v → v < T.cells.length → -1 ≤ (T.cel v).v ∧ (T.cel v).v ≤ 1) :
    Calls Try.prog 18 #[.pointer (some ⟨L.a, 0, none⟩), .int .i64 l] w fun e w' => e = .returned (.int .i64 (T.valF l)) ∧ w = w' := by
  have o1 := h.obj.cell 0
  simp at o1
  unfold Tr.valF
  rcases lit_cases l hlo with ⟨hl, hv⟩ | ⟨hl, hl2, hv⟩ | ⟨hl, hv, hw⟩
  · rw [hv]
    clear hv hlo
    cases hb : T.isB l with
    | true =>
      obtain ⟨h0, h1⟩ := Tr.isB_true hb
      obtain ⟨g, hg, c0, c1, c2, _⟩ := h.cell_at (v := l) (by omega) h1
      rw [hg] at o1
      obtain ⟨y, hy⟩ : ∃ y, (T.cel (l)).v = y := ⟨_, rfl⟩
      have hy2 := hsmall _ (by omega) h1
      rw [hy] at c0 hy2 ⊢
      rw [if_pos rfl, if_neg (by omega)]
      have HB := Lib.hid hb
      have HH := Lib.hid h
      clear hb h hg hy c1 c2 hsmall
      go_enter Try.func18, Try.ntmps18
      go_wp2_with fail
      refine (trail_is _ L T HH.out _ true HB.out).mono ?_
      rintro e w1 ⟨rfl, rfl⟩
      go_wp2_with fail
      go_ret
      exact ⟨rfl, rfl⟩
    | false =>
      have HB := Lib.hid hb
      have HH := Lib.hid h
      clear hb h
      go_enter Try.func18, Try.ntmps18
      go_wp2_with fail
      refine (trail_is _ L T HH.out _ false HB.out).mono ?_
      rintro e w1 ⟨rfl, rfl⟩
      go_wp2_with fail
      go_ret
      exact ⟨by simp, rfl⟩
  · rw [hv]
    clear hv hlo
    cases hb : T.isB (-l) with
    | true =>
      obtain ⟨h0, h1⟩ := Tr.isB_true hb
      obtain ⟨g, hg, c0, c1, c2, _⟩ := h.cell_at (v := -l) (by omega) h1
      rw [hg] at o1
      obtain ⟨y, hy⟩ : ∃ y, (T.cel (-l)).v = y := ⟨_, rfl⟩
      have hy2 := hsmall _ (by omega) h1
      rw [hy] at c0 hy2 ⊢
      rw [if_pos rfl, if_pos hl]
      have HB := Lib.hid hb
      have HH := Lib.hid h
      clear hb h hg hy c1 c2 hsmall
      go_enter Try.func18, Try.ntmps18
      go_wp2_with fail
      refine (trail_is _ L T HH.out _ true HB.out).mono ?_
      rintro e w1 ⟨rfl, rfl⟩
      go_wp2_with fail
      go_ret
      exact ⟨rfl, rfl⟩
    | false =>
      have HB := Lib.hid hb
      have HH := Lib.hid h
      clear hb h
      go_enter Try.func18, Try.ntmps18
      go_wp2_with fail
      refine (trail_is _ L T HH.out _ false HB.out).mono ?_
      rintro e w1 ⟨rfl, rfl⟩
      go_wp2_with fail
      go_ret
      exact ⟨by simp, rfl⟩
  · have hb : T.isB l = false := by
      cases hh : T.isB l with
      | false => rfl
      | true => have := (Tr.isB_true hh).1; omega
    rw [hv, hb]
    have HB := Lib.hid hb
    have HH := Lib.hid h
    clear hb h hv hlo
    go_enter Try.func18, Try.ntmps18
    go_wp2_with fail
    refine (trail_is _ L T HH.out _ false HB.out).mono ?_
    rintro e w1 ⟨rfl, rfl⟩
    go_wp2_with fail
    go_ret
    exact ⟨by simp, rfl⟩

set_option maxHeartbeats 400000 in
theorem trail_value_nil (w : World) (l : Int) (hlo : -9223372036854775808 ≤ l) (hhi : l ≤ 9223372036854775807) :
    Calls Try.prog 18 #[.pointer none, .int .i64 l] w fun e w' => e = .returned (.int .i64 0) ∧ w = w' := by
  rcases lit_cases l hlo with ⟨hl, hv⟩ | ⟨hl, hl2, hv⟩ | ⟨hl, hv, hw⟩
  all_goals
    clear hv hlo
    go_enter Try.func18, Try.ntmps18
    go_wp2_with fail
    refine (trail_is_nil _ _).mono ?_
    rintro e w1 ⟨rfl, rfl⟩
    go_wp2_with fail
    go_ret
    exact ⟨rfl, rfl⟩

end Go.Proofs.Ytnbpnpodpnlamaa
