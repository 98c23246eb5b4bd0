/- The queue's Take walked: the closure, MinFunc, Delete. -/
import Derived.Test.YtnbpnpodpnlamaaQueueF
namespace Go.Proofs.Ytnbpnpodpnlamaa
open Go.RowKit
set_option linter.unusedVariables false

/-- The level of the item of a number. -/
def lv (M : List Im) (x : Int) : Int := (M[(x - 1).toNat]!).l
/-- The levels are in their bounds, what waits is there. -/
structure QOk (M : List Im) (W : List Int) : Prop where
  lev : ∀ m, m ∈ M → 0 ≤ m.l ∧ m.l ≤ 9223372036854775807
  ids : ∀ x, x ∈ W → 1 ≤ x ∧ x ≤ M.length
theorem QOk.of {M : List Im} {W : List Int} (h : QOk M W) {j : Nat} (hj : j < W.length) : ∃ i : Nat, i < M.length ∧ W[j]! = i + 1 ∧ lv M W[j]! = (M[i]!).l ∧ 0 ≤ lv M W[j]! ∧ lv M W[j]! ≤ 9223372036854775807 := by
  have hm : W[j]! ∈ W := by simp [hj]
  obtain ⟨h1, h2⟩ := h.ids _ hm
  obtain ⟨i, hi⟩ : ∃ i : Nat, W[j]! = i + 1 := ⟨(W[j]! - 1).toNat, by omega⟩
  have hil : i < M.length := by omega
  have e : lv M W[j]! = (M[i]!).l := by
    unfold lv
    rw [hi]
    congr 2
    have : ((i : Int) + 1 - 1).toNat = i := by omega
    rw [this]
  have hin : M[i]! ∈ M := by simp [hil]
  refine ⟨i, hil, hi, e, ?_, ?_⟩
  · rw [e]; exact (h.lev _ hin).1
  · rw [e]; exact (h.lev _ hin).2

theorem queue_lv (w : World) (L : Ql) (M : List Im) (W : List Int) (h : QAt w L M W) (id : Int) (hid : 1 ≤ id ∧ id ≤ M.length) :
    Calls Try.prog 64 #[.pointer (some ⟨L.a, 0, none⟩), .int .i64 id] w fun e w' => e = .returned (.int .i64 (lv M id)) ∧ w = w' := by
  obtain ⟨h1, h2⟩ := hid
  refine queue_level w L M W h id (id - 1).toNat (by omega) (by omega) (lv M id) rfl

set_option maxRecDepth 100000 in
set_option maxHeartbeats 1000000 in
theorem take_less (w : World) (L : Ql) (M : List Im) (W : List Int) (h : QAt w L M W) (bx : Nat) (hbx : w.cell? ⟨bx, 0, none⟩ = some (.pointer (some ⟨L.a, 0, none⟩))) (x y : Int) (hx : 1 ≤ x ∧ x ≤ M.length) (hy : 1 ≤ y ∧ y ≤ M.length)
    (hxl : 0 ≤ lv M x ∧ lv M x ≤ 9223372036854775807) (hyl : 0 ≤ lv M y ∧ lv M y ≤ 9223372036854775807) :
    Calls Try.prog 63 #[.int .i64 x, .int .i64 y, .pointer (some ⟨bx, 0, none⟩)] w fun e w' => e = .returned (.int .i64 (lv M x - lv M y)) ∧ ∃ n, w.drewN n = w' := by
  have HH := Lib.hid h
  clear h
  obtain ⟨p, hp⟩ : ∃ p, lv M x = p := ⟨_, rfl⟩
  obtain ⟨q, hq⟩ : ∃ q, lv M y = q := ⟨_, rfl⟩
  have HX : Hid (∀ n, Calls Try.prog 64 #[.pointer (some ⟨L.a, 0, none⟩), .int .i64 x] (w.drewN n) fun e w' => e = .returned (.int .i64 p) ∧ w.drewN n = w') := fun n => by rw [← hp]; exact queue_lv _ L M W (HH.out.drewN _) x hx
  have HY : Hid (∀ n, Calls Try.prog 64 #[.pointer (some ⟨L.a, 0, none⟩), .int .i64 y] (w.drewN n) fun e w' => e = .returned (.int .i64 q) ∧ w.drewN n = w') := fun n => by rw [← hq]; exact queue_lv _ L M W (HH.out.drewN _) y hy
  rw [hp] at hxl ⊢
  rw [hq] at hyl ⊢
  clear hp hq hx hy
  go_enter Try.func63, Try.ntmps63
  go_wp2_with fail
  go_quiet ((go_at_call 64; first | with_reducible exact quiet_s (HX.out _) | with_reducible exact quiet_s (HY.out _)))
  go_wp2_with fail
  go_ret
  exact ⟨rfl, _, rfl⟩

/-- The first of the least. -/
def FMin (M : List Im) (W : List Int) (n p : Nat) : Prop := p < n ∧ (∀ j : Nat, j < p → lv M W[p]! < lv M W[j]!) ∧ ∀ j : Nat, j < n → lv M W[p]! ≤ lv M W[j]!

set_option maxRecDepth 100000 in
set_option maxHeartbeats 2000000 in
theorem min_is (w : World) (L : Ql) (M : List Im) (W : List Int) (h : QAt w L M W) (ok : QOk M W) (hw : 0 < W.length) (hl : W.length ≤ 2097152) (bx : Nat) (hbx : w.cell? ⟨bx, 0, none⟩ = some (.pointer (some ⟨L.a, 0, none⟩))) (fv : Value)
    (hfv : fv = .func (.func 63) #[] #[.pointer (some ⟨bx, 0, none⟩)]) :
    Calls Try.prog 62 #[.slice L.B W.length L.d, fv] w fun e w' => ∃ p, e = .returned (.int .i64 W[p]!) ∧ FMin M W W.length p ∧ ∃ n, w.drewN n = w' := by
  subst hfv
  have HH := Lib.hid h
  have OK := Lib.hid ok
  obtain ⟨a, A, c, B, d⟩ := L
  obtain ⟨g, hg, hgl⟩ := h.waits.pos hw
  simp only at hg hbx ⊢
  subst hg
  have hI : Ints w (some ⟨g, 0, none⟩) d W := h.waits
  have HI := Lib.hid hI
  have c0 := hI.cell hw
  obtain ⟨x0, hx0⟩ : ∃ x0, W[0]! = x0 := ⟨_, rfl⟩
  rw [hx0] at c0
  have HX0 := Lib.hid hx0
  clear h ok hI hx0 hgl
  go_enter Try.func62, Try.ntmps62
  go_wp2_with fail
  go_loopg [5, 6] (W.length - 1) (fun gk s5 s6 wr => ∃ (k p n : Nat) (y : Int), k + gk = W.length ∧ 1 ≤ k ∧ s5 = .int .i64 y ∧ s6 = .int .i64 k ∧ FMin M W k p ∧ W[p]! = y ∧ w.drewN n = wr)
  case atStart => exact ⟨1, 0, 0, x0, by omega, Nat.le_refl _, rfl, rfl, ⟨by omega, fun j hj => by omega, fun j hj => by rw [show j = 0 by omega]; exact Int.le_refl _⟩, HX0.out, rfl⟩
  case round =>
    clear c0
    obtain ⟨k, p, n, y, hk, hk1, rfl, rfl, hm, hpy, rfl⟩ := hrel
    have HK := Lib.hid hk
    have HM := Lib.hid hm
    have HPY := Lib.hid hpy
    have hk2 : k ≤ W.length := by omega
    clear hk hm hpy
    by_cases hlt : k < W.length
    · have ck := HI.out.cell hlt
      obtain ⟨x, hx⟩ : ∃ x, W[k]! = x := ⟨_, rfl⟩
      rw [hx] at ck
      have hxb : (1 ≤ x ∧ x ≤ M.length) ∧ (0 ≤ lv M x ∧ lv M x ≤ 9223372036854775807) := by
        obtain ⟨i, h1, h2, _, h4, h5⟩ := OK.out.of hlt
        rw [hx] at h2 h4 h5
        exact ⟨by omega, h4, h5⟩
      have hyb : (1 ≤ y ∧ y ≤ M.length) ∧ (0 ≤ lv M y ∧ lv M y ≤ 9223372036854775807) := by
        obtain ⟨i, h1, h2, _, h4, h5⟩ := OK.out.of (j := p) (Nat.lt_trans HM.out.1 hlt)
        rw [HPY.out] at h2 h4 h5
        exact ⟨by omega, h4, h5⟩
      have HXB := Lib.hid hxb
      have HYB := Lib.hid hyb
      have HX := Lib.hid hx
      clear hx hxb hyb
      go_wp2_with fail
      refine (take_less (w.drewN n) _ M W (HH.out.drewN n) bx hbx x y HXB.out.1 HYB.out.1 HXB.out.2 HYB.out.2).mono ?_
      rintro e w1 ⟨rfl, n1, rfl⟩
      obtain ⟨z, hz⟩ : ∃ z, lv M x - lv M y = z := ⟨_, rfl⟩
      rw [hz]
      have HZ := Lib.hid hz
      clear hz
      by_cases hz0 : z < 0
      · go_wp2_with fail
        go_roundg (gk - 1)
        case measure => have := HK.out; omega
        case rel =>
          refine ⟨k + 1, k, n + n1, x, by have := HK.out; omega, by omega, rfl, by go_num, ⟨by omega, fun j hj => ?_, fun j hj => ?_⟩, HX.out, rfl⟩
          · have h1 := HM.out.2.2 j hj
            have h2 := HZ.out
            rw [HPY.out] at h1
            rw [HX.out]
            omega
          · by_cases e : j = k
            · rw [e]; exact Int.le_refl _
            · have h1 := HM.out.2.2 j (by omega)
              have h2 := HZ.out
              rw [HPY.out] at h1
              rw [HX.out]
              omega
      · go_wp2_with fail
        go_roundg (gk - 1)
        case measure => have := HK.out; omega
        case rel =>
          refine ⟨k + 1, p, n + n1, y, by have := HK.out; omega, by omega, rfl, by go_num, ⟨Nat.lt_succ_of_lt HM.out.1, HM.out.2.1, fun j hj => ?_⟩, HPY.out, rfl⟩
          by_cases e : j = k
          · have h2 := HZ.out
            rw [e, HPY.out, HX.out]
            omega
          · exact HM.out.2.2 j (by omega)
    · go_wp2_with fail
      go_ret
      have hke : k = W.length := by omega
      refine ⟨p, by rw [HPY.out]; rfl, by rw [← hke]; exact HM.out, n, rfl⟩

end Go.Proofs.Ytnbpnpodpnlamaa
