/-  -/
import Derived.Test.YtjchilcpflfcnaaSgL
set_option linter.unusedVariables false
namespace Go.Proofs.Ytjchilcpflfcnaa
open Go.RowKit
theorem nan_calls (w : World) (a : Int) : Calls Try.prog 84 #[.int .i64 a] w fun e w' => e = .returned (.bool false) ∧ w = w' := by
 have h : (a != a) = false := by simp
 go_enter Try.func84, Try.ntmps84
 go_wp2_with fail
 go_ret
 exact ⟨by simp, rfl⟩
def cmpI (a b : Int) : Int := if a < b then -1 else if b < a then 1 else 0
theorem compare_calls (w : World) (a b : Int) : Calls Try.prog 62 #[.int .i64 a, .int .i64 b] w fun e w' => e = .returned (.int .i64 (cmpI a b)) ∧ w = w' := by
 have KN := Lib.hid (fun x => nan_calls w x)
 have hK : Hid (∀ s, cmpI a b = s → Ending.returned (.int .i64 s) = .returned (.int .i64 (cmpI a b))) := fun s h => by rw [h]
 go_enter Try.func62, Try.ntmps62
 go_wp2_with fail
 refine (KN.out _).mono ?_
 rintro e w1 ⟨rfl, rfl⟩
 go_wp2_with fail
 refine (KN.out _).mono ?_
 rintro e w1 ⟨rfl, rfl⟩
 by_cases h1 : a < b
 ·have d1 : decide (a < b) = true := decide_eq_true h1
  have HV : Hid (cmpI a b = -1) := (by rw [cmpI, if_pos h1] : cmpI a b = -1)
  go_wp2_with fail
  go_ret
  exact ⟨hK.out _ HV.out, rfl⟩
 ·have d1 : decide (a < b) = false := decide_eq_false h1
  by_cases h2 : b < a
  ·have d2 : decide (b < a) = true := decide_eq_true h2
   have HV : Hid (cmpI a b = 1) := (by rw [cmpI, if_neg h1, if_pos h2] : cmpI a b = 1)
   go_wp2_with fail
   go_ret
   exact ⟨hK.out _ HV.out, rfl⟩
  ·have d2 : decide (b < a) = false := decide_eq_false h2
   have HV : Hid (cmpI a b = 0) := (by rw [cmpI, if_neg h1, if_neg h2] : cmpI a b = 0)
   go_wp2_with fail
   go_ret
   exact ⟨hK.out _ HV.out, rfl⟩
def absF (a : Int) : Int := if a < wrap64 (-a) then wrap64 (-a) else a
theorem absF_calls (w : World) (a : Int) : Calls Try.prog 39 #[.int .i64 a] w fun e w' => e = .returned (.int .i64 (absF a)) ∧ w = w' := by
 go_enter Try.func39, Try.ntmps39
 go_wp2_with fail
 all_goals (go_ret; first | exact ⟨by rw [absF, if_pos (by assumption)]; rfl, rfl⟩ | exact ⟨by rw [absF, if_neg (by omega)]; rfl, rfl⟩)
def orI (a b : Int) : Int := if a = 0 then b else a
set_option maxHeartbeats 1000000 in
theorem or_calls (w : World) (g : Nat) (a b : Int) (h0 : w.cell? ⟨g, 0, none⟩ = some (.int .i64 a)) (h1 : w.cell? ⟨g, 1, none⟩ = some (.int .i64 b)) :
  Calls Try.prog 61 #[.slice (some ⟨g, 0, none⟩) 2 2] w fun e w' => e = .returned (.int .i64 (orI a b)) ∧ w = w' := by
 have hK : Hid (∀ s, orI a b = s → Ending.returned (.int .i64 s) = .returned (.int .i64 (orI a b))) := fun s h => by rw [h]
 have H0 := Lib.hid h0
 have H1 := Lib.hid h1
 clear h0 h1
 go_enter Try.func61, Try.ntmps61
 go_wp2_with fail
 go_loopg [8] 2 (fun gk i wr => wr = w ∧ ((gk = 2 ∧ i = .int .i64 0) ∨ (gk = 1 ∧ i = .int .i64 1 ∧ a = 0) ∨ (gk = 0 ∧ i = .int .i64 2 ∧ a = 0 ∧ b = 0)))
 case atStart => exact ⟨rfl, .inl ⟨rfl, rfl⟩⟩
 case round =>
  obtain ⟨rfl, hc⟩ := hrel
  rcases hc with ⟨rfl, rfl⟩ | ⟨rfl, rfl, rfl⟩ | ⟨rfl, rfl, rfl, rfl⟩
  ·have h0 := H0.out
   by_cases ha : a = 0
   ·have hb : (a != 0) = false := by simp [ha]
    go_wp2_with fail
    go_roundg 1
    case measure => decide
    case rel => exact ⟨rfl, .inr (.inl ⟨rfl, rfl, ha⟩)⟩
   ·have hb : (a != 0) = true := by simp [ha]
    have HV : Hid (orI a b = a) := (by rw [orI, if_neg ha] : orI a b = a)
    go_wp2_with fail
    go_ret
    exact ⟨hK.out _ HV.out, rfl⟩
  ·have h1 := H1.out
   by_cases ha : b = 0
   ·have hb : (b != 0) = false := by simp [ha]
    go_wp2_with fail
    go_roundg 0
    case measure => decide
    case rel => exact ⟨rfl, .inr (.inr ⟨by first | rfl | trivial, by first | rfl | trivial, by first | rfl | trivial, ha⟩)⟩
   ·have hb : (b != 0) = true := by simp [ha]
    have HV : Hid (orI 0 b = b) := (by rw [orI, if_pos rfl] : orI 0 b = b)
    go_wp2_with fail
    go_ret
    exact ⟨hK.out _ HV.out, rfl⟩
  ·go_wp2_with fail
   go_ret
   exact ⟨rfl, rfl⟩
def ordF (a b : Int) : Int := orI (cmpI (absF a) (absF b)) (cmpI a b)
set_option maxHeartbeats 1000000 in
theorem order_calls (w : World) (a b : Int) : Calls Try.prog 42 #[.int .i64 a, .int .i64 b] w fun e w' => e = .returned (.int .i64 (ordF a b)) ∧ w' = w.alloc (.cells #[.int .i64 (cmpI (absF a) (absF b)), .int .i64 (cmpI a b)] 3) := by
 have KA := Lib.hid (fun x => absF_calls w x)
 have KC := Lib.hid (fun x y => compare_calls w x y)
 have hn := At.new w 3 #[.int .i64 (cmpI (absF a) (absF b)), .int .i64 (cmpI a b)]
 have KO := Lib.hid (or_calls (w.alloc (.cells #[.int .i64 (cmpI (absF a) (absF b)), .int .i64 (cmpI a b)] 3)) w.heap.size (cmpI (absF a) (absF b)) (cmpI a b) (by rw [hn.cell]; rfl) (by rw [hn.cell]; rfl))
 have hK : Hid (Ending.returned (.int .i64 (orI (cmpI (absF a) (absF b)) (cmpI a b))) = .returned (.int .i64 (ordF a b))) := rfl
 clear hn
 go_enter Try.func42, Try.ntmps42
 go_wp2_with fail
 refine (KA.out _).mono ?_
 rintro e w1 ⟨rfl, rfl⟩
 go_wp2_with fail
 refine (KA.out _).mono ?_
 rintro e w1 ⟨rfl, rfl⟩
 go_wp2_with fail
 refine (KC.out _ _).mono ?_
 rintro e w1 ⟨rfl, rfl⟩
 go_wp2_with fail
 refine (KC.out _ _).mono ?_
 rintro e w1 ⟨rfl, rfl⟩
 go_wp2_with fail
 refine KO.out.mono ?_
 rintro e w1 ⟨rfl, rfl⟩
 go_wp2_with fail
 go_ret
 exact ⟨hK.out, rfl⟩
end Go.Proofs.Ytjchilcpflfcnaa
