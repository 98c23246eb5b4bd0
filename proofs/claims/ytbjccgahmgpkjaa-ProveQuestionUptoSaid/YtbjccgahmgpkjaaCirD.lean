/- need, define, known, all, and the check of literals, walked. -/
import Derived.Test.YtbjccgahmgpkjaaCirC
namespace Go.Proofs.Ytbjccgahmgpkjaa
open Go.RowKit
set_option linter.unusedVariables false

/-- The panic of what is not so. -/
def Fault : Ending := .panicked [{ v := .iface 29 (.int .i64 9), recovered := false }]

theorem need_yes (w : World) : Calls Try.prog 39 #[.bool true] w fun e w' => e = .returned (.tuple #[]) ∧ w = w' := by
  go_enter Try.func39, Try.ntmps39
  go_wp2_with fail
  go_end0
  exact ⟨rfl, rfl⟩
theorem need_no (w : World) : Calls Try.prog 39 #[.bool false] w fun e w' => e = Fault ∧ w = w' := by
  go_enter Try.func39, Try.ntmps39
  go_wp2_with fail
  exact ⟨rfl, rfl, rfl⟩

/-- The checker's map lies in block b, its struct in block g. -/
structure Ms (w : World) (g b n : Nat) (f : Int → List UInt8) : Prop where
  at_ : At w g 98 #[.map (some b)]
  met : Met w b n f
theorem Ms.keep {w w' : World} {g b n : Nat} {f : Int → List UInt8} (h : Ms w g b n f) (hf : Fr [] w w') : Ms w' g b n f := ⟨h.at_.keep hf, h.met.keep hf⟩

def defB (f : Int → List UInt8) (l most : Int) : Bool := decide (2 ≤ l) && decide (l % 2 = 0) && decide (l / 2 ≤ most) && (f (l / 2)).isEmpty

set_option maxHeartbeats 1000000 in
theorem define_ok (w : World) (g b n : Nat) (f : Int → List UInt8) (l most : Int) (k : ByteArray) (h : Ms w g b n f) (hgb : g ≠ b) (hr : R64 l) (hd : defB f l most = true) (hk : k.size ≤ 1) (hn : n < 140737488355328) :
    Calls Try.prog 57 #[.pointer (some ⟨g, 0, none⟩), .int .i64 l, .int .i64 most, .string k] w fun e w' => e = .returned (.tuple #[]) ∧ Ms w' g b (n + 1) (fun x => if x = l / 2 then k.data.toList else f x) ∧ Fr [b] w w' := by
  simp only [defB, Bool.and_eq_true, decide_eq_true_eq] at hd
  obtain ⟨⟨⟨h1, h2⟩, h3⟩, h4⟩ := hd
  unfold R64 at hr
  obtain ⟨hr1, hr2⟩ := hr
  have HM := Lib.hid h
  have hc := h.at_.cell 0
  simp at hc
  have hlk := h.met.look (v := l / 2) (by unfold R64; omega)
  have e4 : f (l / 2) = [] := List.isEmpty_iff.1 h4
  rw [e4] at hlk
  have HG := Lib.hid hgb
  have H2 : (l % 2 == 1) = false := by rw [beq_eq_false_iff_ne]; omega
  have d1 : decide (2 ≤ l) = true := decide_eq_true h1
  have d3 : decide (l / 2 ≤ most) = true := decide_eq_true h3
  clear h h4 e4 h2 hgb
  have l0 : 0 ≤ l := by omega
  go_enter Try.func57, Try.ntmps57
  go_wp2_with fail
  refine (lvar_nn _ l l0 hr2).mono ?_
  rintro e w' ⟨rfl, rfl⟩
  go_wp2_with fail
  refine (lneg_nn _ l l0 hr2).mono ?_
  rintro e w' ⟨rfl, rfl⟩
  go_wp2_with fail
  refine (need_yes _).mono ?_
  rintro e w' ⟨rfl, rfl⟩
  go_wp2_with (at_mapUpdate; refine wpList_met _ rfl _ _ _ rfl b n f rfl HM.out.met (by unfold maxLen; omega) (l / 2) rfl (by unfold R64; omega) k rfl (by unfold maxLen; omega) ?_; intro w2 g1 g2; have G1 := Lib.hid g1; have G2 := Lib.hid g2; clear g1 g2)
  go_end0
  exact ⟨rfl, ⟨G2.out.at_ HM.out.at_ (by simp; exact HG.out), G1.out⟩, G2.out⟩

set_option maxHeartbeats 2000000 in
theorem define_bad (w : World) (g b n : Nat) (f : Int → List UInt8) (l most : Int) (k : ByteArray) (h : Ms w g b n f) (hr : R64 l) (hd : defB f l most = false) :
    Calls Try.prog 57 #[.pointer (some ⟨g, 0, none⟩), .int .i64 l, .int .i64 most, .string k] w fun e w' => e = Fault ∧ w = w' := by
  unfold R64 at hr
  obtain ⟨hr1, hr2⟩ := hr
  have HM := Lib.hid h
  have hc := h.at_.cell 0
  simp at hc
  have HF := Lib.hid (rfl : Fault = Fault)
  by_cases l0 : 0 ≤ l
  · have hlk := h.met.look (v := l / 2) (by unfold R64; omega)
    by_cases h1 : 2 ≤ l
    · have d1 : decide (2 ≤ l) = true := decide_eq_true h1
      by_cases h2 : l % 2 = 0
      · have H2 : (l % 2 == 1) = false := by rw [beq_eq_false_iff_ne]; omega
        by_cases h3 : l / 2 ≤ most
        · have d3 : decide (l / 2 ≤ most) = true := decide_eq_true h3
          have h4 : (f (l / 2)).isEmpty = false := by
            simp only [defB, d1, d3, h2, decide_true, Bool.true_and] at hd
            exact hd
          obtain ⟨c, r, hcr⟩ : ∃ c r, f (l / 2) = c :: r := by
            cases hf : f (l / 2) with
            | nil => rw [hf] at h4; cases h4
            | cons c r => exact ⟨c, r, rfl⟩
          rw [hcr] at hlk
          clear h h4 hcr h2 hd
          go_enter Try.func57, Try.ntmps57
          go_wp2_with fail
          refine (lvar_nn _ l l0 hr2).mono ?_
          rintro e w' ⟨rfl, rfl⟩
          go_wp2_with fail
          refine (lneg_nn _ l l0 hr2).mono ?_
          rintro e w' ⟨rfl, rfl⟩
          go_wp2_with fail
          refine (need_no _).mono ?_
          rintro e w' ⟨rfl, rfl⟩
          unfold Fault
          go_wp2_with fail
          exact ⟨rfl, rfl, rfl⟩
        · have d3 : decide (l / 2 ≤ most) = false := decide_eq_false h3
          clear h h2 hd hlk
          go_enter Try.func57, Try.ntmps57
          go_wp2_with fail
          refine (lvar_nn _ l l0 hr2).mono ?_
          rintro e w' ⟨rfl, rfl⟩
          go_wp2_with fail
          refine (lneg_nn _ l l0 hr2).mono ?_
          rintro e w' ⟨rfl, rfl⟩
          go_wp2_with fail
          refine (need_no _).mono ?_
          rintro e w' ⟨rfl, rfl⟩
          unfold Fault
          go_wp2_with fail
          exact ⟨rfl, rfl, rfl⟩
      · have H2 : (l % 2 == 1) = true := by rw [beq_iff_eq]; omega
        clear h h2 hd hlk
        go_enter Try.func57, Try.ntmps57
        go_wp2_with fail
        refine (lvar_nn _ l l0 hr2).mono ?_
        rintro e w' ⟨rfl, rfl⟩
        go_wp2_with fail
        refine (lneg_nn _ l l0 hr2).mono ?_
        rintro e w' ⟨rfl, rfl⟩
        go_wp2_with fail
        refine (need_no _).mono ?_
        rintro e w' ⟨rfl, rfl⟩
        unfold Fault
        go_wp2_with fail
        exact ⟨rfl, rfl, rfl⟩
    · have d1 : decide (2 ≤ l) = false := decide_eq_false h1
      clear h hd hlk
      go_enter Try.func57, Try.ntmps57
      go_wp2_with fail
      refine (lvar_nn _ l l0 hr2).mono ?_
      rintro e w' ⟨rfl, rfl⟩
      go_wp2_with fail
      refine (need_no _).mono ?_
      rintro e w' ⟨rfl, rfl⟩
      unfold Fault
      go_wp2_with fail
      exact ⟨rfl, rfl, rfl⟩
  · have d1 : decide (2 ≤ l) = false := decide_eq_false (by omega)
    clear h hd
    go_enter Try.func57, Try.ntmps57
    go_wp2_with fail
    refine (lvar_neg _ l (by omega)).mono ?_
    rintro e w' ⟨rfl, rfl⟩
    go_wp2_with fail
    refine (need_no _).mono ?_
    rintro e w' ⟨rfl, rfl⟩
    unfold Fault
    go_wp2_with fail
    exact ⟨rfl, rfl, rfl⟩

/-- Is a literal one of what is defined? -/
def knB (f : Int → List UInt8) (l : Int) : Bool := decide (0 ≤ l) && (decide (l < 2) || !(f (l / 2)).isEmpty)

set_option maxHeartbeats 2000000 in
theorem known_calls (w : World) (g b n : Nat) (f : Int → List UInt8) (l : Int) (h : Ms w g b n f) (hr : R64 l) :
    Calls Try.prog 41 #[.pointer (some ⟨g, 0, none⟩), .int .i64 l] w fun e w' => e = .returned (.bool (knB f l)) ∧ Fr [] w w' := by
  unfold R64 at hr
  obtain ⟨hr1, hr2⟩ := hr
  have HM := Lib.hid h
  have hc := h.at_.cell 0
  simp at hc
  have hK : Hid (∀ s, knB f l = s → Ending.returned (.bool s) = .returned (.bool (knB f l))) := fun s h => by rw [h]
  have e0 := Ext.cell hc
  by_cases l0 : 0 ≤ l
  · have d0 : decide (0 ≤ l) = true := decide_eq_true l0
    have KV := Lib.hid (fun W => lvar_nn W l l0 hr2)
    have hlk : ∀ u : Ext w, (Instr.lookup 96 (.map (some b)) (.int .i64 (l / 2)) false).run Try.prog u.v = .ok (.string ⟨(f (l / 2)).toArray⟩) u.v := fun u => (h.met.keep u.fr).look (v := l / 2) (by unfold R64; omega)
    by_cases h1 : l < 2
    · have d1 : decide (l < 2) = true := decide_eq_true h1
      have HKN : Hid (knB f l = true) := (by simp [knB, d0, d1] : knB f l = true)
      clear h hlk
      go_enter Try.func41, Try.ntmps41
      go_wp2_with fail
      refine wp_region_ext (by kernel_rfl) (by kernel_rfl) ?_
      repeat (go_big_quiet_step (exact call_same (KV.out _)))
      refine wpQuiet_nil ?_
      rintro w2 ⟨u2, hu2⟩
      have HF_w2 : Hid (Fr [] w w2) := hu2 ▸ u2.fr
      clear hu2 u2
      go_wp2_with fail
      go_ret
      exact ⟨hK.out _ HKN.out, HF_w2.out⟩
    · have d1 : decide (l < 2) = false := decide_eq_false h1
      cases hf : f (l / 2) with
      | nil =>
        have HKN : Hid (knB f l = false) := (by simp [knB, d1, hf] : knB f l = false)
        rw [hf] at hlk
        clear h hf
        go_enter Try.func41, Try.ntmps41
        go_wp2_with fail
        refine wp_region_ext (by kernel_rfl) (by kernel_rfl) ?_
        repeat (go_big_quiet_step (exact call_same (KV.out _)))
        refine wpQuiet_nil ?_
        rintro w2 ⟨u2, hu2⟩
        have HF_w2 : Hid (Fr [] w w2) := hu2 ▸ u2.fr
        clear hu2 u2
        go_wp2_with fail
        go_ret
        exact ⟨hK.out _ HKN.out, HF_w2.out⟩
      | cons c r =>
        have HKN : Hid (knB f l = true) := (by simp [knB, d0, hf] : knB f l = true)
        rw [hf] at hlk
        clear h hf
        go_enter Try.func41, Try.ntmps41
        go_wp2_with fail
        refine wp_region_ext (by kernel_rfl) (by kernel_rfl) ?_
        repeat (go_big_quiet_step (exact call_same (KV.out _)))
        refine wpQuiet_nil ?_
        rintro w2 ⟨u2, hu2⟩
        have HF_w2 : Hid (Fr [] w w2) := hu2 ▸ u2.fr
        clear hu2 u2
        go_wp2_with fail
        go_ret
        exact ⟨hK.out _ HKN.out, HF_w2.out⟩
  · have d0 : decide (0 ≤ l) = false := decide_eq_false l0
    have HKN : Hid (knB f l = false) := (by simp [knB, d0] : knB f l = false)
    have KV := Lib.hid (fun W => lvar_neg W l (by omega))
    clear h
    go_enter Try.func41, Try.ntmps41
    go_wp2_with fail
    refine wp_region_ext (by kernel_rfl) (by kernel_rfl) ?_
    repeat (go_big_quiet_step (exact call_same (KV.out _)))
    refine wpQuiet_nil ?_
    rintro w2 ⟨u2, hu2⟩
    have HF_w2 : Hid (Fr [] w w2) := hu2 ▸ u2.fr
    clear hu2 u2
    go_wp2_with fail
    go_ret
    exact ⟨hK.out _ HKN.out, HF_w2.out⟩

theorem enters58 : ∀ args w, (callFunc 58 args).run Try.prog w = .ok (.enter 58 args) w := enters_of Try.func58 (by kernel_rfl) rfl
theorem enters45 : ∀ args w, (callFunc 45 args).run Try.prog w = .ok (.enter 45 args) w := enters_of Try.func45 (by kernel_rfl) rfl

set_option maxHeartbeats 1000000 in
theorem all1_calls (w : World) (p g b n : Nat) (f : Int → List UInt8) (x : Int) (h : Ms w g b n f) (hp : w.cell? ⟨p, 0, none⟩ = some (.pointer (some ⟨g, 0, none⟩))) (hr : R64 x) :
    Calls Try.prog 58 #[.int .i64 x, .pointer (some ⟨p, 0, none⟩)] w fun e w' => e = .returned (.bool (!knB f x)) ∧ Fr [] w w' := by
  have KC := Lib.hid (known_calls w g b n f x h hr)
  clear h hr
  go_enter Try.func58, Try.ntmps58
  go_wp2_with fail
  refine KC.out.mono ?_
  obtain ⟨q, HQ⟩ : ∃ q, Hid (knB f x = q) := ⟨_, rfl⟩
  rw [HQ.out]
  rintro e w' ⟨rfl, hf⟩
  have HF := Lib.hid hf
  clear hf
  go_wp2_with fail
  go_ret
  exact ⟨by rw [HQ.out]; rfl, HF.out⟩

set_option maxHeartbeats 1000000 in
theorem all_calls (w : World) (g b n : Nat) (f : Int → List UInt8) (A : Option Addr) (c : Nat) (xs : List Int) (h : Ms w g b n f) (hx : Rd w A xs) (hr : Ra xs) (hl : xs.length ≤ 17592186044416) :
    Calls Try.prog 42 #[.pointer (some ⟨g, 0, none⟩), .slice A xs.length c] w fun e w' => e = .returned (.bool (xs.all (knB f))) ∧ Fr [] w w' := by
  have hmf : ∀ (fn : Fn) (first cap : Array Value) (w : World), (Instr.makeFunc fn first cap).run Try.prog w = .ok (.func fn first cap) w := fun _ _ _ _ => rfl
  have hf1 := box_fr w (.cells #[.pointer (some ⟨g, 0, none⟩)] 83)
  have KC := Lib.hid (contains_ints (w.alloc (.cells #[.pointer (some ⟨g, 0, none⟩)] 83)) A c xs 58 #[.pointer (some ⟨w.heap.size, 0, none⟩)] (fun x => !knB f x) enters58 (hx.keep hf1) hr hl
    (fun W hW x _ hx => all1_calls W w.heap.size g b n f x (h.keep (hf1.then_ hW)) (hW.cellS (by simp)) hx))
  have HF1 := Lib.hid hf1
  clear h hx hr hf1
  go_enter Try.func42, Try.ntmps42
  go_wp2_with fail
  refine KC.out.mono ?_
  obtain ⟨q, HQ⟩ : ∃ q, Hid ((xs.any fun x => !knB f x) = q) := ⟨_, rfl⟩
  rw [HQ.out]
  rintro e w' ⟨rfl, hf⟩
  have HF := Lib.hid (HF1.out.then_ hf)
  clear hf
  go_wp2_with fail
  go_ret
  exact ⟨by rw [List.all_eq_not_any_not, HQ.out]; rfl, HF.out⟩

end Go.Proofs.Ytbjccgahmgpkjaa
