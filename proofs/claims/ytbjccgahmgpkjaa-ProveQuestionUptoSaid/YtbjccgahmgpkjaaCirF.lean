/- Where a kind's letter stands, the checker's count and rank, walked. -/
import Derived.Test.YtbjccgahmgpkjaaCirE
import Derived.Lib.Bytealg
import Derived.Laws.Externs
namespace Go.Proofs.Ytbjccgahmgpkjaa
open Go.RowKit
set_option linter.unusedVariables false

/-- Where a letter stands among the kinds. -/
def posI (c : UInt8) : Int := Lib.indexByte [105, 108, 111, 98, 99] c

theorem toList1 (c : UInt8) : (ByteArray.mk #[c]).toList = [c] := by
  rw [ByteArray.toList_eq]

set_option maxRecDepth 100000 in
theorem ixbyte (w : World) (c : UInt8) :
    Calls Try.prog 84 #[.string ⟨#[105, 108, 111, 98, 99]⟩, .int .u8 c.toNat] w fun e w' => e = .returned (.int .i64 (posI c)) ∧ w = w' := by
  go_enter Try.func84, Try.ntmps84
  go_wp2_with fail
  rw [run_callFunc_extern Try.func93 (by kernel_rfl) (by kernel_rfl) (by kernel_rfl) (e := Extern.BytealgIndexByte.indexByte) (by kernel_rfl), Lib.run_indexByteString]
  simp only [Result.andThen]
  rw [Oper.upon_value]
  go_wp2
  go_ret
  exact ⟨by simp [posI], rfl⟩

set_option maxRecDepth 100000 in
set_option maxHeartbeats 1000000 in
theorem slindex (w : World) (c : UInt8) :
    Calls Try.prog 77 #[.string ⟨#[105, 108, 111, 98, 99]⟩, .string ⟨#[c]⟩] w fun e w' => e = .returned (.int .i64 (posI c)) ∧ w = w' := by
  go_enter Try.func77, Try.ntmps77
  go_wp2_with fail
  refine (ixbyte _ c).mono ?_
  rintro e w' ⟨rfl, rfl⟩
  go_wp2_with fail
  go_ret
  exact ⟨rfl, rfl⟩
theorem strindex (w : World) (c : UInt8) :
    Calls Try.prog 70 #[.string ⟨#[105, 108, 111, 98, 99]⟩, .string ⟨#[c]⟩] w fun e w' => e = .returned (.int .i64 (posI c)) ∧ w = w' := by
  go_enter Try.func70, Try.ntmps70
  go_wp2_with fail
  refine (slindex _ c).mono ?_
  rintro e w' ⟨rfl, rfl⟩
  go_wp2_with fail
  go_ret
  exact ⟨rfl, rfl⟩
theorem strcontains (w : World) (c : UInt8) :
    Calls Try.prog 59 #[.string ⟨#[105, 108, 111, 98, 99]⟩, .string ⟨#[c]⟩] w fun e w' => e = .returned (.bool (decide (0 ≤ posI c))) ∧ w = w' := by
  go_enter Try.func59, Try.ntmps59
  go_wp2_with fail
  refine (strindex _ c).mono ?_
  rintro e w' ⟨rfl, rfl⟩
  go_wp2_with fail
  go_ret
  exact ⟨rfl, rfl⟩
end Go.Proofs.Ytbjccgahmgpkjaa
