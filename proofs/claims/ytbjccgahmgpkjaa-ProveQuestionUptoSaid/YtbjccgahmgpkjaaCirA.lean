/- Small functions on literals walked. -/
import Derived.Test.YtbjccgahmgpkjaaRefE
import Derived.Laws.BitsLemmas
namespace Go.Proofs.Ytbjccgahmgpkjaa
open Go.RowKit
set_option linter.unusedVariables false

theorem wraps_i64_63 (n : Int) (h₀ : 0 ≤ n) (h₁ : n < 2 ^ 63) : IntKind.i64.wrap n = n := by rw [IntKind.wrap_i64]; omega
theorem xor_one (a : Nat) : a ^^^ 1 = if a % 2 = 1 then a - 1 else a + 1 := by
  have h1 : (a ^^^ 1) / 2 = a / 2 := by
    rw [Nat.xor_div_two]
    simp
  have h2 : (a ^^^ 1) % 2 = 1 ↔ ¬ (a % 2 = 1 ↔ 1 % 2 = 1) := Nat.xor_mod_two_eq_one
  split <;> omega
theorem bits_and1 {l : Int} (h : 0 ≤ l) (h2 : l ≤ 9223372036854775807) : bits BinOp.and IntKind.i64 l 1 = l % 2 := by
  have := bits_mask .i64 63 (by decide) wraps_i64_63 1 (by decide) l h (by omega)
  simpa using this
theorem bits_xor1 {l : Int} (h : 0 ≤ l) (h2 : l ≤ 9223372036854775807) : bits BinOp.xor IntKind.i64 l 1 = if l % 2 = 1 then l - 1 else l + 1 := by
  obtain ⟨n, rfl⟩ := Int.eq_ofNat_of_zero_le h
  have this : bits .xor .i64 (n : Int) ((1 : Nat) : Int) = ((n ^^^ 1 : Nat) : Int) := by
    have hn : n < 2 ^ 63 := by omega
    have hx : n ^^^ 1 < 2 ^ 63 := Nat.xor_lt_two_pow hn (by decide)
    have ha' : n % 2 ^ IntKind.i64.bits = n := Nat.mod_eq_of_lt (Nat.lt_of_lt_of_le hn (by decide))
    simp only [bits, BitVec.ofInt_natCast, BitVec.toNat_xor, BitVec.toNat_ofNat, ha']
    exact wraps_i64_63 _ (Int.natCast_nonneg _) (by exact_mod_cast hx)
  rw [xor_one] at this
  rw [show (1 : Int) = ((1 : Nat) : Int) from rfl, this]
  split <;> split <;> omega

theorem lvar_nn (w : World) (l : Int) (h : 0 ≤ l) (h2 : l ≤ 9223372036854775807) :
    Calls Try.prog 46 #[.int .i64 l] w fun e w' => e = .returned (.int .i64 (l / 2)) ∧ w = w' := by
  go_enter Try.func46, Try.ntmps46
  go_wp2_with fail
  go_ret
  exact ⟨rfl, rfl⟩
theorem lvar_neg (w : World) (l : Int) (h : l < 0) :
    Calls Try.prog 46 #[.int .i64 l] w fun e w' => e = .returned (.int .i64 0) ∧ w = w' := by
  go_enter Try.func46, Try.ntmps46
  go_wp2_with fail
  go_ret
  exact ⟨rfl, rfl⟩
theorem lneg_nn (w : World) (l : Int) (h : 0 ≤ l) (h2 : l ≤ 9223372036854775807) :
    Calls Try.prog 69 #[.int .i64 l] w fun e w' => e = .returned (.bool (l % 2 == 1)) ∧ w = w' := by
  have HB := Lib.hid (bits_and1 h h2)
  go_enter Try.func69, Try.ntmps69
  go_wp2_with fail
  go_ret
  exact ⟨by rw [← HB.out]; rfl, rfl⟩
/-- A literal's opposite. -/
def notI (l : Int) : Int := if l % 2 = 1 then l - 1 else l + 1
theorem lnot_nn (w : World) (l : Int) (h : 0 ≤ l) (h2 : l ≤ 9223372036854775807) :
    Calls Try.prog 51 #[.int .i64 l] w fun e w' => e = .returned (.int .i64 (notI l)) ∧ w = w' := by
  have HB := Lib.hid (bits_xor1 h h2)
  go_enter Try.func51, Try.ntmps51
  go_wp2_with fail
  go_ret
  exact ⟨by rw [notI, ← HB.out]; rfl, rfl⟩
theorem lmake_no (w : World) (v : Int) (h : 0 ≤ v) (h2 : v ≤ 4096) :
    Calls Try.prog 52 #[.int .i64 v, .bool false] w fun e w' => e = .returned (.int .i64 (2 * v)) ∧ w = w' := by
  have d0 : decide (v < 0) = false := decide_eq_false (by omega)
  have d1 : decide (1099511627776 < v) = false := decide_eq_false (by omega)
  go_enter Try.func52, Try.ntmps52
  go_wp2_with fail
  go_ret
  exact ⟨rfl, rfl⟩

theorem rvar_nn (w : World) (l : Int) (h : 0 ≤ l) (h2 : l ≤ 9223372036854775807) :
    Calls Try.prog 32 #[.int .i64 l] w fun e w' => e = .returned (.int .i64 (l / 2)) ∧ w = w' := by
  go_enter Try.func32, Try.ntmps32
  go_wp2_with fail
  go_ret
  exact ⟨rfl, rfl⟩
theorem rneg_nn (w : World) (l : Int) (h : 0 ≤ l) (h2 : l ≤ 9223372036854775807) :
    Calls Try.prog 33 #[.int .i64 l] w fun e w' => e = .returned (.bool (l % 2 == 1)) ∧ w = w' := by
  by_cases h0 : 0 < l
  · have d0 : decide (0 < l) = true := decide_eq_true h0
    go_enter Try.func33, Try.ntmps33
    go_wp2_with fail
    go_ret
    exact ⟨rfl, rfl⟩
  · obtain rfl : l = 0 := by omega
    go_enter Try.func33, Try.ntmps33
    go_wp2_with fail
    go_ret
    exact ⟨rfl, rfl⟩
theorem rbit (w : World) (b : Bool) :
    Calls Try.prog 31 #[.bool b] w fun e w' => e = .returned (.string ⟨#[if b then 49 else 48]⟩) ∧ w = w' := by
  cases b
  · go_enter Try.func31, Try.ntmps31
    go_wp2_with fail
    go_ret
    exact ⟨rfl, rfl⟩
  · go_enter Try.func31, Try.ntmps31
    go_wp2_with fail
    go_ret
    exact ⟨rfl, rfl⟩

end Go.Proofs.Ytbjccgahmgpkjaa
