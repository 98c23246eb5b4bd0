/- The reference's known and all walked; small functions on literals. -/
import Derived.Test.YtbjccgahmgpkjaaRefA
namespace Go.Proofs.Ytbjccgahmgpkjaa
open Go.RowKit
set_option linter.unusedVariables false

/-- Is a literal one of something? -/
def litB (C : Pc) (l : Int) : Bool := decide (0 ≤ l) && knownB C (l / 2)

theorem kd_not {C : Pc} {v : Int} (h : knownB C v = false) : kd C v = ⟨#[]⟩ := by
  simp only [knownB, Bool.or_eq_false_iff, decide_eq_false_iff_not] at h
  obtain ⟨⟨⟨h1, h2⟩, h3⟩, h4⟩ := h
  rw [kd, if_neg h1, if_neg (by rw [h2]; decide), if_neg (by rw [h3]; decide), if_neg (by rw [h4]; decide)]
theorem kd_yes {C : Pc} {v : Int} (h : knownB C v = true) : ∃ c, kd C v = ⟨#[c]⟩ := by
  unfold kd
  by_cases h1 : v = 0
  · rw [if_pos h1]; exact ⟨_, rfl⟩
  · rw [if_neg h1]
    by_cases h2 : C.ins.any (hit v) = true
    · rw [if_pos h2]; exact ⟨_, rfl⟩
    · rw [if_neg h2]
      by_cases h3 : C.lat.any (fun x => hit v x.a) = true
      · rw [if_pos h3]; exact ⟨_, rfl⟩
      · rw [if_neg h3]
        by_cases h4 : C.ands.any (fun x => hit v x.a) = true
        · rw [if_pos h4]; exact ⟨_, rfl⟩
        · simp only [knownB, Bool.or_eq_true, decide_eq_true_eq] at h
          exact absurd h (by simp only [h1, h2, h3, h4, or_self, not_false_iff, Bool.false_eq_true])
theorem kind_no (w : World) (H : Hd) (C : Pc) (v : Int) (h : CiAt w H C) (hk : knownB C v = false) :
    Calls Try.prog 9 #[cval H C, .int .i64 v] w fun e w' => e = .returned (.string ⟨#[]⟩) ∧ Fr [] w w' := by
  rw [← kd_not hk]
  exact kind_calls w H C v h
theorem kind_yes (w : World) (H : Hd) (C : Pc) (v : Int) (h : CiAt w H C) (hk : knownB C v = true) (c : UInt8) (hc : kd C v = ⟨#[c]⟩) :
    Calls Try.prog 9 #[cval H C, .int .i64 v] w fun e w' => e = .returned (.string ⟨#[c]⟩) ∧ Fr [] w w' := by
  rw [← hc]
  exact kind_calls w H C v h

set_option maxHeartbeats 1000000 in
theorem rknown_calls (w : World) (H : Hd) (C : Pc) (l : Int) (h : CiAt w H C) (hr : R64 l) :
    Calls Try.prog 27 #[cval H C, .int .i64 l] w fun e w' => e = .returned (.bool (litB C l)) ∧ Fr [] w w' := by
  have HH := Lib.hid h
  have HS := Lib.hid (Cx.start w H C)
  obtain ⟨hr1, hr2⟩ := hr
  have hK : Hid (∀ s, litB C l = s → Ending.returned (.bool s) = .returned (.bool (litB C l))) := fun s h => by rw [h]
  clear h
  by_cases h0 : 0 ≤ l
  · have HL : Hid (∀ b, knownB C (l / 2) = b → litB C l = b) := fun b hb => by simp [litB, h0, hb]
    by_cases hk : knownB C (l / 2) = true
    · obtain ⟨c, hc⟩ := kd_yes hk
      have HC := Lib.hid hc
      have HQ := Lib.hid hk
      clear hc hk
      have KC := Lib.hid (fun W hW => kind_yes W H C (l / 2) hW HQ.out c HC.out)
      obtain ⟨mx, ins, lat, outs, bads, invs, ands, nms⟩ := C
      obtain ⟨iA, iC, lA, lC, oA, oC, bA, bC, vA, vC, gA, gC, nA, nC⟩ := H
      simp only [cval, cvs] at *
      go_enter Try.func27, Try.ntmps27
      go_wp2_with fail
      refine (KC.out _ (HH.out.keep HS.out.fr)).mono ?_
      rintro e w1 ⟨rfl, hf⟩
      go_wp2_with fail
      go_ret
      exact ⟨hK.out _ (HL.out _ HQ.out), HS.out.fr.then_ hf⟩
    · have HQ := Lib.hid (Bool.eq_false_iff.2 hk)
      clear hk
      have KC := Lib.hid (fun W hW => kind_no W H C (l / 2) hW HQ.out)
      obtain ⟨mx, ins, lat, outs, bads, invs, ands, nms⟩ := C
      obtain ⟨iA, iC, lA, lC, oA, oC, bA, bC, vA, vC, gA, gC, nA, nC⟩ := H
      simp only [cval, cvs] at *
      go_enter Try.func27, Try.ntmps27
      go_wp2_with fail
      refine (KC.out _ (HH.out.keep HS.out.fr)).mono ?_
      rintro e w1 ⟨rfl, hf⟩
      go_wp2_with fail
      go_ret
      exact ⟨hK.out _ (HL.out _ HQ.out), HS.out.fr.then_ hf⟩
  · have HL : Hid (litB C l = false) := (by simp [litB, h0] : litB C l = false)
    obtain ⟨mx, ins, lat, outs, bads, invs, ands, nms⟩ := C
    obtain ⟨iA, iC, lA, lC, oA, oC, bA, bC, vA, vC, gA, gC, nA, nC⟩ := H
    simp only [cval, cvs] at *
    go_enter Try.func27, Try.ntmps27
    go_wp2_with fail
    go_ret
    exact ⟨hK.out _ HL.out, HS.out.fr⟩

/-- All of a list are literals of something, and there are not too many. -/
def allB (C : Pc) (l : List Int) : Bool := l.all (litB C) && decide ((l.length : Int) ≤ 64)

/-- All of the first k. -/
def AllTo {α : Type} [Inhabited α] (l : List α) (p : α → Bool) (k : Nat) : Prop := ∀ j : Nat, j < k → p l[j]! = true
theorem AllTo.zero {α : Type} [Inhabited α] (l : List α) (p : α → Bool) : AllTo l p 0 := fun j hj => absurd hj (Nat.not_lt_zero _)
theorem AllTo.step {α : Type} [Inhabited α] {l : List α} {p : α → Bool} {k : Nat} (h : AllTo l p k) (hk : p l[k]! = true) : AllTo l p (k + 1) := fun j hj => by
  by_cases e : j = k
  · subst e; exact hk
  · exact h j (by omega)
theorem AllTo.all {α : Type} [Inhabited α] {l : List α} {p : α → Bool} {k : Nat} (h : AllTo l p k) (hk : ¬ k < l.length) : l.all p = true := by
  rw [List.all_eq_true]
  intro x hx
  obtain ⟨j, hj, e⟩ := List.mem_iff_getElem.1 hx
  have := h j (by omega)
  simpa [List.getElem!_eq_getElem?_getD, List.getElem?_eq_getElem hj, e] using this
theorem all_not {α : Type} [Inhabited α] {l : List α} {p : α → Bool} {k : Nat} (hk : k < l.length) (h : p l[k]! = false) : l.all p = false := by
  rw [Bool.eq_false_iff]
  intro hh
  have := List.all_eq_true.1 hh l[k] (List.getElem_mem hk)
  simp only [List.getElem!_eq_getElem?_getD, List.getElem?_eq_getElem hk, Option.getD_some] at h
  rw [h] at this
  cases this

set_option maxHeartbeats 1000000 in
theorem rall_calls (w : World) (H : Hd) (C : Pc) (A : Option Addr) (c : Nat) (xs : List Int) (h : CiAt w H C) (hx : Rd w A xs) (hr : Ra xs) (hl : xs.length ≤ 17592186044416) :
    Calls Try.prog 28 #[cval H C, .slice A xs.length c] w fun e w' => e = .returned (.bool (allB C xs)) ∧ Fr [] w w' := by
  have HH := Lib.hid h
  have HR := Lib.hid hx
  have HA := Lib.hid hr
  have HS := Lib.hid (Cx.start w H C)
  have hK : Hid (∀ s, allB C xs = s → Ending.returned (.bool s) = .returned (.bool (allB C xs))) := fun s h => by rw [h]
  clear h hx hr
  have KC := Lib.hid (fun W l hW hl => rknown_calls W H C l hW hl)
  obtain ⟨mx, ins, lat, outs, bads, invs, ands, nms⟩ := C
  obtain ⟨iA, iC, lA, lC, oA, oC, bA, bC, vA, vC, gA, gC, nA, nC⟩ := H
  simp only [cval, cvs] at *
  go_enter Try.func28, Try.ntmps28
  go_wp2_with fail
  go_loopg [5] xs.length (fun g i wr => ∃ k : Nat, k + g = xs.length ∧ i = .int .i64 k ∧ Cx w wr ⟨iA, iC, lA, lC, oA, oC, bA, bC, vA, vC, gA, gC, nA, nC⟩ ⟨mx, ins, lat, outs, bads, invs, ands, nms⟩ ∧ AllTo xs (litB ⟨mx, ins, lat, outs, bads, invs, ands, nms⟩) k)
  case atStart => exact ⟨0, by omega, rfl, HS.out, AllTo.zero _ _⟩
  case round =>
    obtain ⟨k, hk, rfl, hx, hn⟩ := hrel
    have HK := Lib.hid hk
    have HX := Lib.hid hx
    have HN := Lib.hid hn
    obtain ⟨c0, c1, c2, c3, c4, c5, c6, c7⟩ := hx.cells
    clear hk hx hn
    simp only at c0 c1 c2 c3 c4 c5 c6 c7
    by_cases hlt : k < xs.length
    · obtain ⟨b, o, x, hA, he, cx, hx1, hx2⟩ := (HR.out.keep HX.out.fr).one HA.out hlt
      subst hA
      have ex := Ext.cell cx
      obtain ⟨e0, e1, e2, e3, e4, e5, e6, e7⟩ := HX.out.ext; simp only at e0 e1 e2 e3 e4 e5 e6 e7
      by_cases hq : litB ⟨mx, ins, lat, outs, bads, invs, ands, nms⟩ x = true
      · have HQ := Lib.hid hq
        have KQ : Hid (∀ W, CiAt W ⟨iA, iC, lA, lC, oA, oC, bA, bC, vA, vC, gA, gC, nA, nC⟩ ⟨mx, ins, lat, outs, bads, invs, ands, nms⟩ → Calls Try.prog 27 #[cval ⟨iA, iC, lA, lC, oA, oC, bA, bC, vA, vC, gA, gC, nA, nC⟩ ⟨mx, ins, lat, outs, bads, invs, ands, nms⟩, .int .i64 x] W fun e w' => e = .returned (.bool true) ∧ Fr [] W w') := fun W hW => by
          rw [← HQ.out]; exact KC.out W x hW ⟨hx1, hx2⟩
        clear hq
        go_wp2_with fail
        refine wp_region_ext (by kernel_rfl) (by kernel_rfl) ?_
        repeat (go_big_quiet_step (exact call_ext (KQ.out _ (HH.out.keep (HX.out.fr.then_ (Ext.fr _))))))
        refine wpQuiet_nil ?_
        rintro w2 ⟨u2, hu2⟩
        have HF_w2 : Hid (Fr [] wr w2) := hu2 ▸ u2.fr
        clear hu2 u2
        clear c0 c1 c2 c3 c4 c5 c6 c7 cx ex e0 e1 e2 e3 e4 e5 e6 e7
        go_wp2_with fail
        go_roundg (gk - 1)
        case measure => have := HK.out; omega
        case rel => exact ⟨k + 1, by have := HK.out; omega, by go_num, HX.out.keep HF_w2.out, HN.out.step (by rw [he.out]; exact HQ.out)⟩
      · have HQ := Lib.hid (Bool.eq_false_iff.2 hq)
        have KQ : Hid (∀ W, CiAt W ⟨iA, iC, lA, lC, oA, oC, bA, bC, vA, vC, gA, gC, nA, nC⟩ ⟨mx, ins, lat, outs, bads, invs, ands, nms⟩ → Calls Try.prog 27 #[cval ⟨iA, iC, lA, lC, oA, oC, bA, bC, vA, vC, gA, gC, nA, nC⟩ ⟨mx, ins, lat, outs, bads, invs, ands, nms⟩, .int .i64 x] W fun e w' => e = .returned (.bool false) ∧ Fr [] W w') := fun W hW => by
          rw [← HQ.out]; exact KC.out W x hW ⟨hx1, hx2⟩
        clear hq
        go_wp2_with fail
        refine wp_region_ext (by kernel_rfl) (by kernel_rfl) ?_
        repeat (go_big_quiet_step (exact call_ext (KQ.out _ (HH.out.keep (HX.out.fr.then_ (Ext.fr _))))))
        refine wpQuiet_nil ?_
        rintro w2 ⟨u2, hu2⟩
        have HF_w2 : Hid (Fr [] wr w2) := hu2 ▸ u2.fr
        clear hu2 u2
        clear c0 c1 c2 c3 c4 c5 c6 c7 cx ex e0 e1 e2 e3 e4 e5 e6 e7
        go_wp2_with fail
        go_ret
        exact ⟨hK.out _ (by rw [allB, all_not hlt (by rw [he.out]; exact HQ.out)]; rfl), HX.out.fr.then_ HF_w2.out⟩
    · have HT := Lib.hid (HN.out.all hlt)
      clear HK
      go_wp2_with fail
      go_ret
      exact ⟨hK.out _ (by rw [allB, HT.out, Bool.true_and]), HX.out.fr⟩

end Go.Proofs.Ytbjccgahmgpkjaa
