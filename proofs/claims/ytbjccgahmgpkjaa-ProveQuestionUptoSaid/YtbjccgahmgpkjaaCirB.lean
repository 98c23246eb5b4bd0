/- The first of a list for which something holds, walked, whatever is asked. -/
import Derived.Test.YtbjccgahmgpkjaaCirA
namespace Go.Proofs.Ytbjccgahmgpkjaa
open Go.RowKit
set_option linter.unusedVariables false

/-- What is asked of each number: it answers p, makes new memory only. -/
def Asks (w : World) (g : Nat) (cb : Array Value) (p : Int → Bool) (xs : List Int) : Prop := ∀ W, Fr [] w W → ∀ x, x ∈ xs → R64 x →
  Calls Try.prog g (#[.int .i64 x] ++ cb) W fun e w' => e = .returned (.bool (p x)) ∧ Fr [] W w'

theorem mem_get {α : Type} [Inhabited α] {l : List α} {k : Nat} (h : k < l.length) : l[k]! ∈ l := by
  rw [List.getElem!_eq_getElem?_getD, List.getElem?_eq_getElem h]
  exact List.getElem_mem h

/-- IndexFunc's answer: at least 0 just if there is one. -/
def IxP (b : Bool) (w : World) (e : Ending) (w' : World) : Prop := ∃ n : Int, e = .returned (.int .i64 n) ∧ -1 ≤ n ∧ n ≤ 9223372036854775807 ∧ decide (0 ≤ n) = b ∧ Fr [] w w'

set_option maxHeartbeats 1000000 in
theorem index_ints (w : World) (A : Option Addr) (c : Nat) (xs : List Int) (g : Nat) (cb : Array Value) (p : Int → Bool) (eg : ∀ args w, (callFunc g args).run Try.prog w = .ok (.enter g args) w) (h : Rd w A xs) (hr : Ra xs) (hl : xs.length ≤ 17592186044416) (hp : Asks w g cb p xs) :
    Calls Try.prog 63 #[.slice A xs.length c, .func (.func g) #[] cb] w (IxP (xs.any p) w) := by
  have HH := Lib.hid h
  have HR := Lib.hid hr
  have HP := Lib.hid hp
  have YES : Hid (∀ (n : Nat) W, n ≤ 17592186044416 → xs.any p = true → Fr [] w W → IxP (xs.any p) w (.returned (.int .i64 (n : Int))) W) := fun n W h1 h2 h3 => ⟨n, rfl, by omega, by omega, by rw [h2]; exact decide_eq_true (by omega), h3⟩
  have NO : Hid (∀ W, xs.any p = false → Fr [] w W → IxP (xs.any p) w (.returned (.int .i64 (-1))) W) := fun W h2 h3 => ⟨-1, rfl, by omega, by omega, by rw [h2]; rfl, h3⟩
  clear h hr hp
  go_enter Try.func63, Try.ntmps63
  go_wp2_with fail
  go_loopg [8] xs.length (fun g i wr => ∃ k : Nat, k + g = xs.length ∧ i = .int .i64 k ∧ Fr [] w wr ∧ NoneTo xs p k)
  case atStart => exact ⟨0, by omega, rfl, Fr.refl _ _, NoneTo.zero _ _⟩
  case round =>
    obtain ⟨k, hk, rfl, hx, hn⟩ := hrel
    have HK := Lib.hid hk
    have HX := Lib.hid hx
    have HN := Lib.hid hn
    have hkn : k ≤ xs.length := by omega
    clear hk hx hn
    by_cases hlt : k < xs.length
    · obtain ⟨b, o, x, hA, he, cx, hx1, hx2⟩ := (HH.out.keep HX.out).one HR.out hlt
      subst hA
      obtain ⟨q, HQ⟩ : ∃ q, Hid (p x = q) := ⟨_, rfl⟩
      have HC := Lib.hid (HP.out wr HX.out x (by rw [← he.out]; exact mem_get hlt) ⟨hx1, hx2⟩)
      go_wp2_with fail
      refine HC.out.mono ?_
      rw [HQ.out]
      rintro e w2 ⟨rfl, hf⟩
      have HF := Lib.hid (HX.out.then_ hf)
      clear hf
      cases q with
      | true =>
        go_wp2_with fail
        go_ret
        exact YES.out k _ (by omega) (any_yes _ _ k hlt (by rw [he.out]; exact HQ.out)) HF.out
      | false =>
        go_wp2_with fail
        go_roundg (gk - 1)
        case measure => have := HK.out; omega
        case rel => exact ⟨k + 1, by have := HK.out; omega, by go_num, HF.out, HN.out.step (by rw [he.out]; exact HQ.out)⟩
    · have HT := Lib.hid (HN.out.all hlt)
      clear HN HK
      go_wp2_with fail
      go_ret
      exact NO.out _ HT.out HX.out

set_option maxHeartbeats 1000000 in
theorem contains_ints (w : World) (A : Option Addr) (c : Nat) (xs : List Int) (g : Nat) (cb : Array Value) (p : Int → Bool) (eg : ∀ args w, (callFunc g args).run Try.prog w = .ok (.enter g args) w) (h : Rd w A xs) (hr : Ra xs) (hl : xs.length ≤ 17592186044416) (hp : Asks w g cb p xs) :
    Calls Try.prog 44 #[.slice A xs.length c, .func (.func g) #[] cb] w fun e w' => e = .returned (.bool (xs.any p)) ∧ Fr [] w w' := by
  have HC := Lib.hid (index_ints w A c xs g cb p eg h hr hl hp)
  clear h hr hp
  go_enter Try.func44, Try.ntmps44
  go_wp2_with fail
  refine HC.out.mono ?_
  rintro e w2 ⟨n, rfl, h1, h2, h3, hf⟩
  have H3 := Lib.hid h3
  have HF := Lib.hid hf
  clear h3 hf
  go_wp2_with fail
  go_ret
  exact ⟨by rw [← H3.out]; rfl, HF.out⟩

end Go.Proofs.Ytbjccgahmgpkjaa
