/- Texts of bits: bit, Holds, Bits walked. -/
import Derived.Test.YtbjccgahmgpkjaaRunA
import Derived.Test.YtbjccgahmgpkjaaTgtA
namespace Go.Proofs.Ytbjccgahmgpkjaa
open Go.RowKit
set_option linter.unusedVariables false

/-- A bit's octet. -/
def bitC (b : Bool) : UInt8 := if b then 49 else 48
theorem bit_calls (w : World) (b : Bool) :
    Calls Try.prog 31 #[.bool b] w fun e w' => e = .returned (.string (tx [bitC b])) ∧ Fr [] w w' := by
  cases b with
  | true =>
    go_enter Try.func31, Try.ntmps31
    go_wp2_with fail
    go_ret
    exact ⟨rfl, Fr.refl _ _⟩
  | false =>
    go_enter Try.func31, Try.ntmps31
    go_wp2_with fail
    go_ret
    exact ⟨rfl, Fr.refl _ _⟩

set_option maxHeartbeats 1000000 in
theorem holds_calls (w : World) (L : List UInt8) (A : Option Addr) (c : Nat) (xs : List Int) (hx : Rd w A xs) (hr : Ra xs) (hl : xs.length ≤ 17592186044416) (hin : ∀ y ∈ xs, 0 ≤ y ∧ y ≤ 9000) (hL : L.length ≤ 4096) :
    Calls Try.prog 13 #[.string (tx L), .slice A xs.length c] w fun e w' => e = .returned (.bool (xs.any (trL L))) ∧ Fr [] w w' := by
  have hK : Hid (∀ s, xs.any (trL L) = s → Ending.returned (.bool s) = .returned (.bool (xs.any (trL L)))) := fun s h => by rw [h]
  have HX := Lib.hid hx
  have HR := Lib.hid hr
  have HIN := Lib.hid hin
  have KT := Lib.hid (fun W l h0 h1 => true_calls W L l h0 h1 hL)
  clear hx hr hin
  obtain ⟨s, hs⟩ : ∃ s, tx L = s := ⟨_, rfl⟩
  rw [hs] at KT ⊢
  clear hs
  go_enter Try.func13, Try.ntmps13
  go_wp2_with fail
  go_loopg [5] xs.length (fun g i wr => ∃ k : Nat, k + g = xs.length ∧ i = .int .i64 k ∧ Fr [] w wr ∧ NoneTo xs (trL L) k)
  case atStart => exact ⟨0, by omega, rfl, Fr.refl _ _, NoneTo.zero _ _⟩
  case round =>
    obtain ⟨k, hk, rfl, hf, hn⟩ := hrel
    have HK := Lib.hid hk
    have HF := Lib.hid hf
    have HN := Lib.hid hn
    have hkn : k ≤ xs.length := by omega
    clear hk hf hn
    by_cases hlt : k < xs.length
    · obtain ⟨b, o, x, hA, he, cx, hx1, hx2⟩ := (HX.out.keep HF.out).one HR.out hlt
      subst hA
      have hxr : 0 ≤ x ∧ x ≤ 9000 := HIN.out x (by rw [← he.out, List.getElem!_eq_getElem?_getD, List.getElem?_eq_getElem hlt]; simp)
      obtain ⟨q, HQ⟩ : ∃ q, Hid (trL L x = q) := ⟨_, rfl⟩
      have HC := Lib.hid (KT.out wr x hxr.1 hxr.2)
      rw [HQ.out] at HC
      go_wp2_with fail
      refine HC.out.mono ?_
      rintro e w2 ⟨rfl, hf⟩
      have HF2 := Lib.hid (HF.out.then_ hf)
      clear hf cx
      cases q with
      | true =>
        go_wp2_with fail
        go_ret
        exact ⟨hK.out _ (any_yes _ _ k hlt (by rw [he.out]; exact HQ.out)), HF2.out⟩
      | false =>
        go_wp2_with fail
        go_roundg (gk - 1)
        case measure => have := HK.out; omega
        case rel => exact ⟨k + 1, by have := HK.out; omega, by go_num, HF2.out, HN.out.step (by rw [he.out]; exact HQ.out)⟩
    · have HT : Hid (xs.any (trL L) = false) := HN.out.all hlt
      clear HN HK
      go_wp2_with fail
      go_ret
      exact ⟨hK.out _ HT.out, HF.out⟩

def bitOk (c : UInt8) : Bool := c == 48 || c == 49
def bitsB (s : ByteArray) (n : Nat) : Bool := s.data.toList.all bitOk && decide (s.size = n)

set_option maxHeartbeats 1000000 in
theorem bits_calls (w : World) (s : ByteArray) (n : Nat) (hs : s.size ≤ maxLen) (hn : n ≤ 17592186044416) :
    Calls Try.prog 29 #[.string s, .int .i64 n] w fun e w' => e = .returned (.bool (bitsB s n)) ∧ Fr [] w w' := by
  have hK : Hid (∀ b, bitsB s n = b → Ending.returned (.bool b) = .returned (.bool (bitsB s n))) := fun s h => by rw [h]
  have hsz : s.data.toList.length = s.size := Array.length_toList
  rw [maxLen] at hs
  go_enter Try.func29, Try.ntmps29
  go_wp2_with fail
  go_loopg [5] s.size (fun g i wr => ∃ k : Nat, k + g = s.size ∧ i = .int .i64 k ∧ Fr [] w wr ∧ AllTo s.data.toList bitOk k)
  case atStart => exact ⟨0, by omega, rfl, Fr.refl _ _, AllTo.zero _ _⟩
  case round =>
    obtain ⟨k, hk, rfl, hf, hn⟩ := hrel
    have HK := Lib.hid hk
    have HF := Lib.hid hf
    have HN := Lib.hid hn
    have hkn : k ≤ s.size := by omega
    clear hk hf hn
    by_cases hlt : k < s.size
    · have hld : k < s.data.toList.length := by omega
      have hcl : s.data.toList[k]! = s[k] := by
        rw [List.getElem!_eq_getElem?_getD, List.getElem?_eq_getElem hld]
        rfl
      by_cases h8 : (s[k].toNat : Int) = 48
      · have d1 : ((s[k].toNat : Int) != 48) = false := by rw [bne_eq_false_iff_eq]; exact h8
        have HB : Hid (bitOk (s.data.toList[k]!) = true) := (by
          rw [hcl]
          have : s[k] = 48 := UInt8.toNat_inj.1 (by have : (48 : UInt8).toNat = 48 := rfl; omega)
          rw [this]; rfl : bitOk (s.data.toList[k]!) = true)
        clear hcl h8
        go_wp2_with fail
        go_roundg (gk - 1)
        case measure => have := HK.out; omega
        case rel => exact ⟨k + 1, by have := HK.out; omega, by go_num, HF.out, HN.out.step HB.out⟩
      · have d1 : ((s[k].toNat : Int) != 48) = true := by rw [bne_iff_ne]; exact h8
        obtain ⟨q, HQ⟩ : ∃ q : Bool, Hid (((s[k].toNat : Int) == 49) = q) := ⟨((s[k].toNat : Int) == 49), Lib.hid rfl⟩
        have d2 : ((s[k].toNat : Int) != 49) = !q := by rw [bne, HQ.out]
        have HB : Hid (bitOk (s.data.toList[k]!) = q) := (by
          rw [hcl, ← HQ.out, bitOk]
          have h1 : (s[k] == 48) = false := by
            rw [beq_eq_false_iff_ne]
            intro h; rw [h] at h8; exact h8 rfl
          rw [h1, Bool.false_or, Bool.eq_iff_iff]
          simp only [beq_iff_eq]
          constructor
          · intro h; rw [h]; rfl
          · intro h
            apply UInt8.toNat_inj.1
            have : (49 : UInt8).toNat = 49 := rfl
            omega : bitOk (s.data.toList[k]!) = q)
        clear hcl h8
        cases q with
        | true =>
          simp only [Bool.not_true] at d2
          go_wp2_with fail
          go_roundg (gk - 1)
          case measure => have := HK.out; omega
          case rel => exact ⟨k + 1, by have := HK.out; omega, by go_num, HF.out, HN.out.step HB.out⟩
        | false =>
          simp only [Bool.not_false] at d2
          go_wp2_with fail
          go_ret
          exact ⟨hK.out _ (by rw [bitsB, all_not hld HB.out]; rfl), HF.out⟩
    · have HT : Hid (s.data.toList.all bitOk = true) := HN.out.all (by omega)
      have HBN : Hid (bitsB s n = decide (s.size = n)) := (by rw [bitsB, HT.out, Bool.true_and] : bitsB s n = decide (s.size = n))
      clear HN HK HT
      by_cases hq : s.size = n
      · have d : ((s.size : Int) == (n : Int)) = true := by rw [beq_iff_eq]; omega
        go_wp2_with fail
        go_ret
        exact ⟨hK.out _ (by rw [HBN.out]; simp [hq]), HF.out⟩
      · have d : ((s.size : Int) == (n : Int)) = false := by rw [beq_eq_false_iff_ne]; omega
        go_wp2_with fail
        go_ret
        exact ⟨hK.out _ (by rw [HBN.out]; simp [hq]), HF.out⟩

end Go.Proofs.Ytbjccgahmgpkjaa
