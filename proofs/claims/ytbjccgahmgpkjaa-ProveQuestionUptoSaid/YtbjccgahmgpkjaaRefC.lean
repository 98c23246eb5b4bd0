/- The reference's count and rank walked. -/
import Derived.Test.YtbjccgahmgpkjaaRefB
namespace Go.Proofs.Ytbjccgahmgpkjaa
open Go.RowKit
set_option linter.unusedVariables false

def cnt (C : Pc) (k : ByteArray) : Int :=
  if (k.toList == [105]) = true then C.ins.length else if (k.toList == [108]) = true then C.lat.length else if (k.toList == [111]) = true then C.outs.length else if (k.toList == [98]) = true then C.bads.length else if (k.toList == [99]) = true then C.invs.length else -1
def rk (k : ByteArray) : Int := if (k.toList == [105]) = true then 0 else if (k.toList == [108]) = true then 1 else if (k.toList == [111]) = true then 2 else if (k.toList == [98]) = true then 3 else if (k.toList == [99]) = true then 4 else -1
theorem flip_eq {a b : List UInt8} {c : Bool} (h : (a == b) = c) : (b == a) = c := by rw [← h]; exact BEq.comm
theorem seq_or (a b : List UInt8) : (a == b) = true ∨ (a == b) = false := by cases (a == b) <;> simp

set_option maxHeartbeats 1000000 in
theorem rcount_calls (w : World) (H : Hd) (C : Pc) (s : ByteArray) :
    Calls Try.prog 53 #[cval H C, .string s] w fun e w' => e = .returned (.int .i64 (cnt C s)) ∧ Fr [] w w' := by
  have hK : Hid (∀ x, cnt C s = x → Ending.returned (.int .i64 x) = .returned (.int .i64 (cnt C s))) := fun s h => by rw [h]
  obtain ⟨mx, ins, lat, outs, bads, invs, ands, nms⟩ := C
  obtain ⟨iA, iC, lA, lC, oA, oC, bA, bC, vA, vC, gA, gC, nA, nC⟩ := H
  simp only [cval, cvs] at *
  rcases seq_or s.toList [105] with g0 | g0
  · have HC := Lib.hid (show cnt ⟨mx, ins, lat, outs, bads, invs, ands, nms⟩ s = _ from by simp only [cnt, g0, if_true]; rfl)
    go_enter Try.func53, Try.ntmps53
    go_wp2_with fail
    go_ret
    exact ⟨hK.out _ HC.out, box_fr _ _⟩
  rcases seq_or s.toList [108] with g1 | g1
  · have HC := Lib.hid (show cnt ⟨mx, ins, lat, outs, bads, invs, ands, nms⟩ s = _ from by simp only [cnt, g0, g1, if_true, if_false, Bool.false_eq_true]; rfl)
    go_enter Try.func53, Try.ntmps53
    go_wp2_with fail
    go_ret
    exact ⟨hK.out _ HC.out, box_fr _ _⟩
  rcases seq_or s.toList [111] with g2 | g2
  · have HC := Lib.hid (show cnt ⟨mx, ins, lat, outs, bads, invs, ands, nms⟩ s = _ from by simp only [cnt, g0, g1, g2, if_true, if_false, Bool.false_eq_true]; rfl)
    go_enter Try.func53, Try.ntmps53
    go_wp2_with fail
    go_ret
    exact ⟨hK.out _ HC.out, box_fr _ _⟩
  rcases seq_or s.toList [98] with g3 | g3
  · have HC := Lib.hid (show cnt ⟨mx, ins, lat, outs, bads, invs, ands, nms⟩ s = _ from by simp only [cnt, g0, g1, g2, g3, if_true, if_false, Bool.false_eq_true]; rfl)
    go_enter Try.func53, Try.ntmps53
    go_wp2_with fail
    go_ret
    exact ⟨hK.out _ HC.out, box_fr _ _⟩
  rcases seq_or s.toList [99] with g4 | g4
  · have HC := Lib.hid (show cnt ⟨mx, ins, lat, outs, bads, invs, ands, nms⟩ s = _ from by simp only [cnt, g0, g1, g2, g3, g4, if_true, if_false, Bool.false_eq_true]; rfl)
    go_enter Try.func53, Try.ntmps53
    go_wp2_with fail
    go_ret
    exact ⟨hK.out _ HC.out, box_fr _ _⟩
  have HC := Lib.hid (show cnt ⟨mx, ins, lat, outs, bads, invs, ands, nms⟩ s = _ from by simp only [cnt, g0, g1, g2, g3, g4, if_false, Bool.false_eq_true]; rfl)
  go_enter Try.func53, Try.ntmps53
  go_wp2_with fail
  go_ret
  exact ⟨hK.out _ HC.out, box_fr _ _⟩

set_option maxHeartbeats 1000000 in
theorem rrank_calls (w : World) (s : ByteArray) :
    Calls Try.prog 54 #[.string s] w fun e w' => e = .returned (.int .i64 (rk s)) ∧ Fr [] w w' := by
  have hK : Hid (∀ x, rk s = x → Ending.returned (.int .i64 x) = .returned (.int .i64 (rk s))) := fun s h => by rw [h]
  rcases seq_or s.toList [105] with g0 | g0
  · have HC := Lib.hid (show rk s = _ from by simp only [rk, g0, if_true]; rfl)
    have f0 := flip_eq g0
    go_enter Try.func54, Try.ntmps54
    go_wp2_with fail
    go_loop [4] (fun i => ∃ k : Nat, k ≤ 0 ∧ i = .int .i64 k) (fun i => 0 - (intOf i).toNat)
    case atStart => exact ⟨0, Nat.zero_le _, rfl⟩
    case round =>
      obtain ⟨k, hk, rfl⟩ := hrel
      obtain rfl : k = 0 := by omega
      go_wp2_with fail
      go_ret
      exact ⟨hK.out _ HC.out, box_fr _ _⟩
  rcases seq_or s.toList [108] with g1 | g1
  · have HC := Lib.hid (show rk s = _ from by simp only [rk, g0, g1, if_true, if_false, Bool.false_eq_true]; rfl)
    have f0 := flip_eq g0
    have f1 := flip_eq g1
    go_enter Try.func54, Try.ntmps54
    go_wp2_with fail
    go_loop [4] (fun i => ∃ k : Nat, k ≤ 1 ∧ i = .int .i64 k) (fun i => 1 - (intOf i).toNat)
    case atStart => exact ⟨0, Nat.zero_le _, rfl⟩
    case round =>
      obtain ⟨k, hk, rfl⟩ := hrel
      rcases (by omega : k = 0 ∨ k = 1) with rfl | rfl
      · go_wp2_with fail
        go_round
        case rel => exact ⟨1, by omega, by go_num⟩
        case measure => simp [intOf]
      · go_wp2_with fail
        go_ret
        exact ⟨hK.out _ HC.out, box_fr _ _⟩
  rcases seq_or s.toList [111] with g2 | g2
  · have HC := Lib.hid (show rk s = _ from by simp only [rk, g0, g1, g2, if_true, if_false, Bool.false_eq_true]; rfl)
    have f0 := flip_eq g0
    have f1 := flip_eq g1
    have f2 := flip_eq g2
    go_enter Try.func54, Try.ntmps54
    go_wp2_with fail
    go_loop [4] (fun i => ∃ k : Nat, k ≤ 2 ∧ i = .int .i64 k) (fun i => 2 - (intOf i).toNat)
    case atStart => exact ⟨0, Nat.zero_le _, rfl⟩
    case round =>
      obtain ⟨k, hk, rfl⟩ := hrel
      rcases (by omega : k = 0 ∨ k = 1 ∨ k = 2) with rfl | rfl | rfl
      · go_wp2_with fail
        go_round
        case rel => exact ⟨1, by omega, by go_num⟩
        case measure => simp [intOf]
      · go_wp2_with fail
        go_round
        case rel => exact ⟨2, by omega, by go_num⟩
        case measure => simp [intOf]
      · go_wp2_with fail
        go_ret
        exact ⟨hK.out _ HC.out, box_fr _ _⟩
  rcases seq_or s.toList [98] with g3 | g3
  · have HC := Lib.hid (show rk s = _ from by simp only [rk, g0, g1, g2, g3, if_true, if_false, Bool.false_eq_true]; rfl)
    have f0 := flip_eq g0
    have f1 := flip_eq g1
    have f2 := flip_eq g2
    have f3 := flip_eq g3
    go_enter Try.func54, Try.ntmps54
    go_wp2_with fail
    go_loop [4] (fun i => ∃ k : Nat, k ≤ 3 ∧ i = .int .i64 k) (fun i => 3 - (intOf i).toNat)
    case atStart => exact ⟨0, Nat.zero_le _, rfl⟩
    case round =>
      obtain ⟨k, hk, rfl⟩ := hrel
      rcases (by omega : k = 0 ∨ k = 1 ∨ k = 2 ∨ k = 3) with rfl | rfl | rfl | rfl
      · go_wp2_with fail
        go_round
        case rel => exact ⟨1, by omega, by go_num⟩
        case measure => simp [intOf]
      · go_wp2_with fail
        go_round
        case rel => exact ⟨2, by omega, by go_num⟩
        case measure => simp [intOf]
      · go_wp2_with fail
        go_round
        case rel => exact ⟨3, by omega, by go_num⟩
        case measure => simp [intOf]
      · go_wp2_with fail
        go_ret
        exact ⟨hK.out _ HC.out, box_fr _ _⟩
  rcases seq_or s.toList [99] with g4 | g4
  · have HC := Lib.hid (show rk s = _ from by simp only [rk, g0, g1, g2, g3, g4, if_true, if_false, Bool.false_eq_true]; rfl)
    have f0 := flip_eq g0
    have f1 := flip_eq g1
    have f2 := flip_eq g2
    have f3 := flip_eq g3
    have f4 := flip_eq g4
    go_enter Try.func54, Try.ntmps54
    go_wp2_with fail
    go_loop [4] (fun i => ∃ k : Nat, k ≤ 4 ∧ i = .int .i64 k) (fun i => 4 - (intOf i).toNat)
    case atStart => exact ⟨0, Nat.zero_le _, rfl⟩
    case round =>
      obtain ⟨k, hk, rfl⟩ := hrel
      rcases (by omega : k = 0 ∨ k = 1 ∨ k = 2 ∨ k = 3 ∨ k = 4) with rfl | rfl | rfl | rfl | rfl
      · go_wp2_with fail
        go_round
        case rel => exact ⟨1, by omega, by go_num⟩
        case measure => simp [intOf]
      · go_wp2_with fail
        go_round
        case rel => exact ⟨2, by omega, by go_num⟩
        case measure => simp [intOf]
      · go_wp2_with fail
        go_round
        case rel => exact ⟨3, by omega, by go_num⟩
        case measure => simp [intOf]
      · go_wp2_with fail
        go_round
        case rel => exact ⟨4, by omega, by go_num⟩
        case measure => simp [intOf]
      · go_wp2_with fail
        go_ret
        exact ⟨hK.out _ HC.out, box_fr _ _⟩
  have HC := Lib.hid (show rk s = _ from by simp only [rk, g0, g1, g2, g3, g4, if_false, Bool.false_eq_true]; rfl)
  have f0 := flip_eq g0
  have f1 := flip_eq g1
  have f2 := flip_eq g2
  have f3 := flip_eq g3
  have f4 := flip_eq g4
  go_enter Try.func54, Try.ntmps54
  go_wp2_with fail
  go_loop [4] (fun i => ∃ k : Nat, k ≤ 5 ∧ i = .int .i64 k) (fun i => 5 - (intOf i).toNat)
  case atStart => exact ⟨0, Nat.zero_le _, rfl⟩
  case round =>
    obtain ⟨k, hk, rfl⟩ := hrel
    rcases (by omega : k = 0 ∨ k = 1 ∨ k = 2 ∨ k = 3 ∨ k = 4 ∨ k = 5) with rfl | rfl | rfl | rfl | rfl | rfl
    · go_wp2_with fail
      go_round
      case rel => exact ⟨1, by omega, by go_num⟩
      case measure => simp [intOf]
    · go_wp2_with fail
      go_round
      case rel => exact ⟨2, by omega, by go_num⟩
      case measure => simp [intOf]
    · go_wp2_with fail
      go_round
      case rel => exact ⟨3, by omega, by go_num⟩
      case measure => simp [intOf]
    · go_wp2_with fail
      go_round
      case rel => exact ⟨4, by omega, by go_num⟩
      case measure => simp [intOf]
    · go_wp2_with fail
      go_round
      case rel => exact ⟨5, by omega, by go_num⟩
      case measure => simp [intOf]
    · go_wp2_with fail
      go_ret
      exact ⟨hK.out _ HC.out, box_fr _ _⟩

end Go.Proofs.Ytbjccgahmgpkjaa
