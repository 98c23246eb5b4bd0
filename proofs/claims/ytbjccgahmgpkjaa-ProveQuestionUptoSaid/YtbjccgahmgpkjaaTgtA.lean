/- The checks of a clause's literals walked, the program's and the reference's. -/
import Derived.Test.YtbjccgahmgpkjaaCirL
namespace Go.Proofs.Ytbjccgahmgpkjaa
open Go.RowKit
set_option linter.unusedVariables false

/-- Is a literal out of bounds? -/
def outB (most x : Int) : Bool := decide (x < 0) || decide (most < x / 2)

set_option maxHeartbeats 1000000 in
theorem lcheck1 (w : World) (a b : Nat) (most x : Int) (h1 : w.cell? ⟨a, 0, none⟩ = some (.bool false)) (h2 : w.cell? ⟨b, 0, none⟩ = some (.int .i64 most)) (hr : R64 x) :
    Calls Try.prog 45 #[.int .i64 x, .pointer (some ⟨a, 0, none⟩), .pointer (some ⟨b, 0, none⟩)] w fun e w' => e = .returned (.bool (outB most x)) ∧ Fr [] w w' := by
  unfold R64 at hr
  obtain ⟨hr1, hr2⟩ := hr
  have e1 := Ext.cell h1
  have e2 := Ext.cell h2
  have hK : Hid (∀ s, outB most x = s → Ending.returned (.bool s) = .returned (.bool (outB most x))) := fun s h => by rw [h]
  by_cases l0 : x < 0
  · have d0 : decide (x < 0) = true := decide_eq_true l0
    have HB : Hid (outB most x = true) := (by simp [outB, d0] : outB most x = true)
    have KV := Lib.hid (fun W => lvar_neg W x l0)
    go_enter Try.func45, Try.ntmps45
    go_wp2_with fail
    refine wp_region_ext (by kernel_rfl) (by kernel_rfl) ?_
    repeat (go_big_quiet_step (exact call_same (KV.out _)))
    refine wpQuiet_nil ?_
    rintro w2 ⟨u2, hu2⟩
    have HF_w2 : Hid (Fr [] w w2) := hu2 ▸ u2.fr
    clear hu2 u2
    go_wp2_with fail
    go_ret
    exact ⟨hK.out _ HB.out, HF_w2.out⟩
  · have d0 : decide (x < 0) = false := decide_eq_false l0
    have KV := Lib.hid (fun W => lvar_nn W x (by omega) hr2)
    obtain ⟨q, HQ⟩ : ∃ q, Hid (decide (most < x / 2) = q) := ⟨_, rfl⟩
    have HB : Hid (outB most x = q) := (by simp only [outB, d0, HQ.out, Bool.false_or] : outB most x = q)
    have dq := HQ.out
    cases q with
    | true =>
      go_enter Try.func45, Try.ntmps45
      go_wp2_with fail
      refine wp_region_ext (by kernel_rfl) (by kernel_rfl) ?_
      repeat (go_big_quiet_step (exact call_same (KV.out _)))
      refine wpQuiet_nil ?_
      rintro w2 ⟨u2, hu2⟩
      have HF_w2 : Hid (Fr [] w w2) := hu2 ▸ u2.fr
      clear hu2 u2
      go_wp2_with fail
      go_ret
      exact ⟨hK.out _ HB.out, HF_w2.out⟩
    | false =>
      go_enter Try.func45, Try.ntmps45
      go_wp2_with fail
      refine wp_region_ext (by kernel_rfl) (by kernel_rfl) ?_
      repeat (go_big_quiet_step (exact call_same (KV.out _)))
      refine wpQuiet_nil ?_
      rintro w2 ⟨u2, hu2⟩
      have HF_w2 : Hid (Fr [] w w2) := hu2 ▸ u2.fr
      clear hu2 u2
      go_wp2_with fail
      go_ret
      exact ⟨hK.out _ HB.out, HF_w2.out⟩

/-- Are all within? -/
def inB (most : Int) (xs : List Int) : Bool := xs.all fun x => decide (0 ≤ x) && decide (x ≤ 2 * most + 1)
theorem out_in (most : Int) (xs : List Int) : (xs.any (outB most)) = !inB most xs := by
  unfold inB
  rw [List.not_all_eq_any_not]
  congr 1
  funext x
  unfold outB
  rw [Bool.eq_iff_iff]
  simp
  omega

/-- The answer's number. -/
def lcI (b : Bool) : Int := if b then 0 else 4

set_option maxHeartbeats 1000000 in
theorem lcheck_calls (w : World) (most : Int) (A : Option Addr) (c : Nat) (xs : List Int) (h0 : 0 ≤ most) (h1 : most ≤ 2048) (hx : Rd w A xs) (hr : Ra xs) (hl : xs.length ≤ 17592186044416) :
    Calls Try.prog 21 #[.int .i64 most, .slice A xs.length c] w fun e w' => e = .returned (.int .i64 (lcI (inB most xs))) ∧ Fr [] w w' := by
  have hmf : ∀ (fn : Fn) (first cap : Array Value) (w : World), (Instr.makeFunc fn first cap).run Try.prog w = .ok (.func fn first cap) w := fun _ _ _ _ => rfl
  have d0 : decide (most < 0) = false := decide_eq_false (by omega)
  have d1 : decide (2048 < most) = false := decide_eq_false (by omega)
  have hK : Hid (∀ s, lcI (inB most xs) = s → Ending.returned (.int .i64 s) = .returned (.int .i64 (lcI (inB most xs)))) := fun s h => by rw [h]
  have HX := Lib.hid hx
  have HR := Lib.hid hr
  clear hx hr
  go_enter Try.func21, Try.ntmps21
  go_upto_region 2 with fail
  obtain ⟨W0, hW0⟩ : ∃ W, (w.alloc (.cells #[.int .i64 most] 3)).alloc (.cells #[.bool false] 4) = W := ⟨_, rfl⟩
  rw [hW0]
  have HF0 : Hid (Fr [] w W0) := hW0 ▸ ((box_fr _ _).then_ (box_fr _ _))
  have hb : At W0 w.heap.size 3 #[.int .i64 most] := hW0 ▸ (At.new w _ _).alloc _
  have ha : At W0 (w.heap.size + 1) 4 #[.bool false] := by
    rw [← hW0]
    have := At.new (w.alloc (.cells #[.int .i64 most] 3)) 4 #[.bool false]
    simpa using this
  have KC := Lib.hid (contains_ints W0 A c xs 45 #[.pointer (some ⟨w.heap.size + 1, 0, none⟩), .pointer (some ⟨w.heap.size, 0, none⟩)] (outB most) enters45 (HX.out.keep HF0.out) HR.out hl
    (fun W hW x _ hx => lcheck1 W _ _ most x (hW.cellS (by rw [ha.cell]; rfl)) (hW.cellS (by rw [hb.cell]; rfl)) hx))
  clear hW0 ha hb
  go_wp2_with fail
  refine KC.out.mono ?_
  rw [out_in]
  obtain ⟨q, HQ⟩ : ∃ q, Hid (inB most xs = q) := ⟨_, rfl⟩
  rw [HQ.out]
  rintro e w2 ⟨rfl, hf⟩
  have HF := Lib.hid (HF0.out.then_ hf)
  clear hf
  cases q with
  | true =>
    go_wp2_with fail
    go_ret
    exact ⟨hK.out _ (by rw [HQ.out]; rfl), HF.out⟩
  | false =>
    go_wp2_with fail
    go_ret
    exact ⟨hK.out _ (by rw [HQ.out]; rfl), HF.out⟩

set_option maxHeartbeats 1000000 in
theorem within_calls (w : World) (most : Int) (A : Option Addr) (c : Nat) (xs : List Int) (h0 : 0 ≤ most) (h1 : most ≤ 2048) (hx : Rd w A xs) (hr : Ra xs) (hl : xs.length ≤ 17592186044416) :
    Calls Try.prog 8 #[.int .i64 most, .slice A xs.length c] w fun e w' => e = .returned (.bool (inB most xs)) ∧ w = w' := by
  have d0 : decide (most < 0) = false := decide_eq_false (by omega)
  have d1 : decide (2048 < most) = false := decide_eq_false (by omega)
  have hK : Hid (∀ s, inB most xs = s → Ending.returned (.bool s) = .returned (.bool (inB most xs))) := fun s h => by rw [h]
  have HX := Lib.hid hx
  have HR := Lib.hid hr
  clear hx hr
  go_enter Try.func8, Try.ntmps8
  go_wp2_with fail
  go_loopg [5] xs.length (fun g i wr => ∃ k : Nat, k + g = xs.length ∧ i = .int .i64 k ∧ w = wr ∧ AllTo xs (fun x => decide (0 ≤ x) && decide (x ≤ 2 * most + 1)) k)
  case atStart => exact ⟨0, by omega, rfl, rfl, AllTo.zero _ _⟩
  case round =>
    obtain ⟨k, hk, rfl, rfl, hn⟩ := hrel
    have HK := Lib.hid hk
    have HN := Lib.hid hn
    have hkn : k ≤ xs.length := by omega
    clear hk hn
    by_cases hlt : k < xs.length
    · obtain ⟨b, o, x, hA, he, cx, hx1, hx2⟩ := HX.out.one HR.out hlt
      subst hA
      by_cases l0 : x < 0
      · have t0 : decide (x < 0) = true := decide_eq_true l0
        have HB : Hid ((decide (0 ≤ x) && decide (x ≤ 2 * most + 1)) = false) := (by simp; omega : (decide (0 ≤ x) && decide (x ≤ 2 * most + 1)) = false)
        go_wp2_with fail
        go_ret
        exact ⟨hK.out _ (all_not hlt (by rw [he.out]; exact HB.out)), rfl⟩
      · have t0 : decide (x < 0) = false := decide_eq_false l0
        by_cases l1 : 2 * most + 1 < x
        · have t1 : decide (2 * most + 1 < x) = true := decide_eq_true l1
          have HB : Hid ((decide (0 ≤ x) && decide (x ≤ 2 * most + 1)) = false) := (by simp; omega : (decide (0 ≤ x) && decide (x ≤ 2 * most + 1)) = false)
          go_wp2_with fail
          go_ret
          exact ⟨hK.out _ (all_not hlt (by rw [he.out]; exact HB.out)), rfl⟩
        · have t1 : decide (2 * most + 1 < x) = false := decide_eq_false l1
          have HB : Hid ((decide (0 ≤ x) && decide (x ≤ 2 * most + 1)) = true) := (by simp; omega : (decide (0 ≤ x) && decide (x ≤ 2 * most + 1)) = true)
          go_wp2_with fail
          go_roundg (gk - 1)
          case measure => have := HK.out; omega
          case rel => exact ⟨k + 1, by have := HK.out; omega, by go_num, rfl, HN.out.step (by rw [he.out]; exact HB.out)⟩
    · have HT := Lib.hid (HN.out.all hlt)
      clear HK HN
      go_wp2_with fail
      go_ret
      exact ⟨hK.out _ HT.out, rfl⟩

end Go.Proofs.Ytbjccgahmgpkjaa
