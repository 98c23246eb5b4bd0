/- Texts of bits: Bits, set, True, bit, Holds walked. -/
import Derived.Test.YtbjccgahmgpkjaaCirB
import Derived.Laws.IdiomStrings
namespace Go.Proofs.Ytbjccgahmgpkjaa
open Go.RowKit
set_option linter.unusedVariables false

/-- A text out of octets. -/
def tx (l : List UInt8) : ByteArray := ⟨l.toArray⟩
theorem tx_size (l : List UInt8) : (tx l).size = l.length := by simp [tx, ByteArray.size]
theorem tx_get (l : List UInt8) (i : Nat) (h : i < (tx l).size) : (tx l)[i] = l[i]'(by rw [← tx_size]; exact h) := rfl

set_option maxHeartbeats 1000000 in
theorem set_calls (w : World) (l : List UInt8) (i : Nat) (c : UInt8) (hi : i < l.length) (hs : l.length ≤ 4096) :
    Calls Try.prog 30 #[.string (tx l), .int .i64 i, .int .u8 (c.toNat : Int)] w fun e w' => e = .returned (.string (tx (l.set i c))) ∧ Fr [] w w' := by
  have hz := tx_size l
  obtain ⟨s, hse⟩ : ∃ s, tx l = s := ⟨_, rfl⟩
  have HE : Hid (s.extract 0 i ++ ⟨#[c]⟩ ++ s.extract (i + 1) l.length = tx (l.set i c)) := by
    rw [← hse]
    refine Lib.hid (ByteArray.ext (Array.toList_inj.1 ?_))
    simp [tx, ByteArray.data_append, ByteArray.data_extract, List.set_eq_take_append_cons_drop, hi]
    rw [List.take_of_length_le (by simp)]
  rw [hse] at hz ⊢
  have h1 : i ≤ s.size := by omega
  have h2 : i + 1 ≤ s.size := by omega
  have h3 : s.size ≤ 4096 := by omega
  have hcv := run_convert_bytes_back (P := Try.prog) (w.alloc (.cells #[.int .u8 (c.toNat : Int)] 5)).drew 94 9 5 ⟨w.heap.size, 0, none⟩ 1 [c] Try.underlying94 Try.underlying5 Try.underlying9 (fun j hj => by
    simp at hj
    subst hj
    simp [Addr.add])
  simp at hcv
  clear hse
  go_enter Try.func30, Try.ntmps30
  go_wp2_with fail
  go_region
  go_wp2_with fail
  go_ret
  rw [HE.out]
  exact ⟨rfl, ((Fr.refl [] w).alloc _).drew⟩

/-- Is a literal true? -/
def trL (L : List UInt8) (l : Int) : Bool := (L[(l / 2).toNat]? == some 49) != (l % 2 == 1)

set_option maxHeartbeats 1000000 in
theorem true_calls (w : World) (L : List UInt8) (l : Int) (h0 : 0 ≤ l) (h1 : l ≤ 9000) (hL : L.length ≤ 4096) :
    Calls Try.prog 12 #[.string (tx L), .int .i64 l] w fun e w' => e = .returned (.bool (trL L l)) ∧ Fr [] w w' := by
  obtain ⟨n, hn⟩ : ∃ n : Nat, l / 2 = n := ⟨(l / 2).toNat, by omega⟩
  have hz := tx_size L
  have hnn : (l / 2).toNat = n := by omega
  obtain ⟨r, hr⟩ : ∃ r, (l % 2 == 1) = r := ⟨_, rfl⟩
  have KV := Lib.hid (rvar_nn w l h0 (by omega))
  have KN := Lib.hid (fun W => rneg_nn W l h0 (by omega))
  rw [hn] at KV
  rw [hr] at KN
  unfold trL
  rw [hnn, hr]
  by_cases hlt : n < L.length
  · have hls : n < (tx L).size := by omega
    obtain ⟨q, hq⟩ : ∃ q, (((tx L)[n].toNat : Int) == 49) = q := ⟨_, rfl⟩
    have HQ : Hid ((L[n]? == some 49) = q) := (by
      have e : (tx L)[n] = L[n]'hlt := rfl
      have key : ((tx L)[n].toNat : Int) = ((L[n]'hlt).toNat : Int) := congrArg (fun x : UInt8 => (x.toNat : Int)) e
      rw [← hq, key, List.getElem?_eq_getElem hlt]
      rw [Bool.eq_iff_iff]
      simp only [beq_iff_eq, Option.some.injEq]
      constructor
      · intro h; rw [h]; rfl
      · intro h
        apply UInt8.toNat_inj.1
        have : (49 : UInt8).toNat = 49 := rfl
        omega : (L[n]? == some 49) = q)
    rw [HQ.out]
    clear HQ hn hnn hr
    generalize tx L = s at hz hls hq ⊢
    go_enter Try.func12, Try.ntmps12
    go_wp2_with fail
    refine KV.out.mono ?_
    rintro e w1 ⟨rfl, rfl⟩
    cases q with
    | true =>
      go_wp2_with fail
      refine (KN.out _).mono ?_
      rintro e w1 ⟨rfl, rfl⟩
      go_wp2_with fail
      go_ret
      exact ⟨by cases r <;> rfl, Fr.refl _ _⟩
    | false =>
      go_wp2_with fail
      refine (KN.out _).mono ?_
      rintro e w1 ⟨rfl, rfl⟩
      go_wp2_with fail
      go_ret
      exact ⟨by cases r <;> rfl, Fr.refl _ _⟩
  · have hq : (L[n]? == some 49) = false := by rw [List.getElem?_eq_none (by omega)]; rfl
    have hl2 : decide ((n : Int) < (L.length : Int)) = false := decide_eq_false (by omega)
    rw [hq]
    clear hq hn hnn hr
    generalize tx L = s at hz ⊢
    have hl3 : ¬ n < s.size := by omega
    go_enter Try.func12, Try.ntmps12
    go_wp2_with fail
    refine KV.out.mono ?_
    rintro e w1 ⟨rfl, rfl⟩
    go_wp2_with fail
    refine (KN.out _).mono ?_
    rintro e w1 ⟨rfl, rfl⟩
    go_wp2_with fail
    go_ret
    exact ⟨by cases r <;> rfl, Fr.refl _ _⟩

end Go.Proofs.Ytbjccgahmgpkjaa
