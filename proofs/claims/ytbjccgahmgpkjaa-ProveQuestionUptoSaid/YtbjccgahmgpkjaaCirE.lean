/- The checker's text walked. -/
import Derived.Test.YtbjccgahmgpkjaaCirD
import Derived.Lib.ConvBytes
namespace Go.Proofs.Ytbjccgahmgpkjaa
open Go.RowKit
set_option linter.unusedVariables false

theorem text1_calls (w : World) (c : UInt8) :
    Calls Try.prog 72 #[.int .u8 c.toNat] w fun e w' => e = .returned (.bool (badCh c)) ∧ w = w' := by
  have hK : Hid (∀ s, badCh c = s → Ending.returned (.bool s) = .returned (.bool (badCh c))) := fun s h => by rw [h]
  by_cases h1 : (c.toNat : Int) < 33
  · have d1 : decide ((c.toNat : Int) < 33) = true := decide_eq_true h1
    have HB : Hid (badCh c = true) := (by simp [badCh, d1] : badCh c = true)
    go_enter Try.func72, Try.ntmps72
    go_wp2_with fail
    go_ret
    exact ⟨hK.out _ HB.out, rfl⟩
  · have d1 : decide ((c.toNat : Int) < 33) = false := decide_eq_false h1
    by_cases h2 : 126 < (c.toNat : Int)
    · have d2 : decide (126 < (c.toNat : Int)) = true := decide_eq_true h2
      have HB : Hid (badCh c = true) := (by simp [badCh, d2] : badCh c = true)
      go_enter Try.func72, Try.ntmps72
      go_wp2_with fail
      go_ret
      exact ⟨hK.out _ HB.out, rfl⟩
    · have d2 : decide (126 < (c.toNat : Int)) = false := decide_eq_false h2
      have HB : Hid (badCh c = false) := (by simp [badCh, d1, d2] : badCh c = false)
      go_enter Try.func72, Try.ntmps72
      go_wp2_with fail
      go_ret
      exact ⟨hK.out _ HB.out, rfl⟩
theorem enters72 : ∀ args w, (callFunc 72 args).run Try.prog w = .ok (.enter 72 args) w := enters_of Try.func72 (by kernel_rfl) rfl

set_option maxHeartbeats 1000000 in
theorem index_bytes (w : World) (g c : Nat) (l : List UInt8) (h : ∀ j : Nat, j < l.length → w.cell? ⟨g, j, none⟩ = some (.int .u8 (l[j]!).toNat)) (hl : l.length ≤ 17592186044416) :
    Calls Try.prog 78 #[.slice (some ⟨g, 0, none⟩) l.length c, .func (.func 72) #[] #[]] w (IxP (l.any badCh) w) := by
  have HH := Lib.hid h
  have YES : Hid (∀ (n : Nat) W, n ≤ 17592186044416 → l.any badCh = true → Fr [] w W → IxP (l.any badCh) w (.returned (.int .i64 (n : Int))) W) := fun n W h1 h2 h3 => ⟨n, rfl, by omega, by omega, by rw [h2]; exact decide_eq_true (by omega), h3⟩
  have NO : Hid (∀ W, l.any badCh = false → Fr [] w W → IxP (l.any badCh) w (.returned (.int .i64 (-1))) W) := fun W h2 h3 => ⟨-1, rfl, by omega, by omega, by rw [h2]; rfl, h3⟩
  have eg := enters72
  clear h
  go_enter Try.func78, Try.ntmps78
  go_wp2_with fail
  go_loop [8] (fun i => ∃ k : Nat, k ≤ l.length ∧ i = .int .i64 k ∧ NoneTo l badCh k) (fun i => l.length - (intOf i).toNat)
  case atStart => exact ⟨0, Nat.zero_le _, rfl, NoneTo.zero _ _⟩
  case round =>
    obtain ⟨k, hk, rfl, hn⟩ := hrel
    have HN := Lib.hid hn
    clear hn
    by_cases hlt : k < l.length
    · have cx := HH.out k hlt
      obtain ⟨x, he⟩ : ∃ x, Hid (l[k]! = x) := ⟨_, rfl⟩
      rw [he.out] at cx
      have HC := Lib.hid (text1_calls w x)
      go_wp2_with fail
      refine HC.out.mono ?_
      obtain ⟨q, HQ⟩ : ∃ q, Hid (badCh x = q) := ⟨_, rfl⟩
      rw [HQ.out]
      rintro e w2 ⟨rfl, rfl⟩
      cases q with
      | true =>
        go_wp2_with fail
        go_ret
        exact YES.out k _ (by omega) (any_yes _ _ k hlt (by rw [he.out]; exact HQ.out)) (Fr.refl _ _)
      | false =>
        go_wp2_with fail
        go_round
        case rel => exact ⟨k + 1, by omega, by go_num, HN.out.step (by rw [he.out]; exact HQ.out)⟩
        case measure => simp [intOf]; omega
    · have HT := Lib.hid (HN.out.all hlt)
      go_wp2_with fail
      go_ret
      exact NO.out _ HT.out (Fr.refl _ _)

set_option maxHeartbeats 1000000 in
theorem contains_bytes (w : World) (g c : Nat) (l : List UInt8) (h : ∀ j : Nat, j < l.length → w.cell? ⟨g, j, none⟩ = some (.int .u8 (l[j]!).toNat)) (hl : l.length ≤ 17592186044416) :
    Calls Try.prog 71 #[.slice (some ⟨g, 0, none⟩) l.length c, .func (.func 72) #[] #[]] w fun e w' => e = .returned (.bool (l.any badCh)) ∧ Fr [] w w' := by
  have HC := Lib.hid (index_bytes w g c l h hl)
  clear h
  go_enter Try.func71, Try.ntmps71
  go_wp2_with fail
  refine HC.out.mono ?_
  rintro e w2 ⟨n, rfl, h1, h2, h3, hf⟩
  have H3 := Lib.hid h3
  have HF := Lib.hid hf
  clear h3 hf
  go_wp2_with fail
  go_ret
  exact ⟨by rw [← H3.out]; rfl, HF.out⟩

theorem bytes_fr (w : World) (e : TypeId) (s : ByteArray) : Fr [] w (Lib.bytesWorld w e s) :=
  ⟨rfl, rfl, rfl, by rw [Lib.bytesWorld_size]; omega, fun k hk _ => Lib.bytesWorld_at_old w e s k hk⟩

/-- May a text be? -/
def textB (s : ByteArray) : Bool := !s.toList.isEmpty && decide ((s.size : Int) ≤ 32) && !txtBad s

set_option maxHeartbeats 1000000 in
theorem text_calls (w : World) (s : ByteArray) (hs : s.size ≤ maxLen) :
    Calls Try.prog 61 #[.string s] w fun e w' => e = .returned (.bool (textB s)) ∧ Fr [] w w' := by
  unfold maxLen at hs
  have hK : Hid (∀ x, textB s = x → Ending.returned (.bool x) = .returned (.bool (textB s))) := fun s h => by rw [h]
  by_cases h1 : s.toList.isEmpty = true
  · have HB : Hid (textB s = false) := (by simp [textB, h1] : textB s = false)
    go_enter Try.func61, Try.ntmps61
    go_wp2_with fail
    go_ret
    exact ⟨hK.out _ HB.out, Fr.refl _ _⟩
  · have h1b := Bool.eq_false_iff.2 h1
    by_cases h2 : (s.size : Int) ≤ 32
    · have d2 : decide ((s.size : Int) ≤ 32) = true := decide_eq_true h2
      have HC := Lib.hid (contains_bytes (Lib.bytesWorld w 5 s) w.heap.size (grownCap w s.size 0 5) s.data.toList (fun j hj => by
        rw [Lib.bytesWorld_cell w 5 s j hj, List.getElem!_eq_getElem?_getD, List.getD_eq_getElem?_getD, List.getElem?_eq_getElem hj]; rfl) (by simp; omega))
      have HB : Hid (textB s = !(s.data.toList.any badCh)) := (by simp [textB, h1b, d2, txtBad] : textB s = !(s.data.toList.any badCh))
      have hcv := Lib.run_convert_string_bytes (P := Try.prog) w 9 94 5 s Try.underlying9 Try.underlying94 Try.underlying5
      have HF := Lib.hid (bytes_fr w 5 s)
      rw [show s.data.toList.length = s.size from rfl] at HC
      go_enter Try.func61, Try.ntmps61
      go_wp2_with fail
      refine HC.out.mono ?_
      obtain ⟨q, HQ⟩ : ∃ q, Hid (s.data.toList.any badCh = q) := ⟨_, rfl⟩
      rw [HQ.out]
      rintro e w2 ⟨rfl, hf⟩
      have HF2 := Lib.hid hf
      clear hf
      go_wp2_with fail
      go_ret
      exact ⟨hK.out _ (by rw [HB.out, HQ.out]), HF.out.then_ HF2.out⟩
    · have d2 : decide ((s.size : Int) ≤ 32) = false := decide_eq_false h2
      have HB : Hid (textB s = false) := (by simp [textB, d2] : textB s = false)
      go_enter Try.func61, Try.ntmps61
      go_wp2_with fail
      go_ret
      exact ⟨hK.out _ HB.out, Fr.refl _ _⟩

end Go.Proofs.Ytbjccgahmgpkjaa
