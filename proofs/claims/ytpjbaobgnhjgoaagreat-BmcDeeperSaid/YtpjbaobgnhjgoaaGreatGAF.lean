/- Parts of a proof. -/
import Derived.Test.YtpjbaobgnhjgoaaGreatGAE
import Derived.Lib.ConvBytes
import Derived.Lib.Bytealg
import Derived.Laws.Externs
import Derived.IntWalk
import Derived.StillTailTactics
import Derived.Recover
set_option linter.unusedVariables false
set_option linter.unusedSimpArgs false
set_option maxHeartbeats 8000000
set_option maxRecDepth 100000
namespace Go.Proofs.YtpjbaobgnhjgoaaGreat
open Go.RowKit
def eh : Ending := .panicked [{ v := .iface 36 (.int .i64 9), recovered := false }]
theorem fQ (w : World) : Calls Tryz.prog 45 #[.bool true] w fun e w' => e = .returned (.tuple #[]) ∧ w = w' := by
 go_enter Tryz.func45, Tryz.ntmps45
 go_wp2_with fail
 go_end0
 exact ⟨rfl, rfl⟩
theorem dE (w : World) : Calls Tryz.prog 45 #[.bool false] w fun e w' => e = eh ∧ w = w' := by
 go_enter Tryz.func45, Tryz.ntmps45
 go_wp2_with fail
 exact ⟨rfl, rfl, rfl⟩
structure Ms (w : World) (g b n : Nat) (f : Int → List UInt8) : Prop where
 at_ : At w g 119 #[.map (some b)]
 met : Met w b n f
theorem Ms.keep {w w' : World} {g b n : Nat} {f : Int → List UInt8} (h : Ms w g b n f) (hf : Fr [] w w') : Ms w' g b n f := ⟨h.at_.keep hf, h.met.keep hf⟩
def sr (f : Int → List UInt8) (l eu : Int) : Bool := decide (2 ≤ l) && decide (l % 2 = 0) && decide (l / 2 ≤ eu) && (f (l / 2)).isEmpty
theorem qJ (w : World) (g b n : Nat) (f : Int → List UInt8) (l eu : Int) (k : ByteArray) (h : Ms w g b n f) (Yi : g ≠ b) (hr : dB l) (hd : sr f l eu = true) (hk : k.size ≤ 1) (hn : n < 140737488355328) :
  Calls Tryz.prog 82 #[.pointer (some ⟨g, 0, none⟩), .int .i64 l, .int .i64 eu, .string k] w fun e w' => e = .returned (.tuple #[]) ∧ Ms w' g b (n + 1) (fun x => if x = l / 2 then k.data.toList else f x) ∧ Fr [b] w w' := by
 simp only [sr, aD, decide_eq_true_eq] at hd
 obtain ⟨⟨⟨h1, h2⟩, h3⟩, h4⟩ := hd
 unfold dB at hr
 obtain ⟨FU, lW⟩ := hr
 have HM := aa h
 have hc := h.at_.cell 0
 simp at hc
 have jb := h.met.look (v := l / 2) (by unfold dB; omega)
 have e4 : f (l / 2) = [] := List.isEmpty_iff.1 h4
 rw [e4] at jb
 have HG := aa Yi
 have H2 : (l % 2 == 1) = false := by rw [beq_eq_false_iff_ne]; omega
 have d1 : decide (2 ≤ l) = true := decide_eq_true h1
 have d3 : decide (l / 2 ≤ eu) = true := decide_eq_true h3
 clear h h4 e4 h2 Yi
 have l0 : 0 ≤ l := by omega
 go_enter Tryz.func82, Tryz.ntmps82
 go_wp2_with fail
 refine (ii _ l l0 lW).mono ?_
 rintro e w' ⟨rfl, rfl⟩
 go_wp2_with fail
 refine (pD _ l l0 lW).mono ?_
 rintro e w' ⟨rfl, rfl⟩
 go_wp2_with fail
 refine (fQ _).mono ?_
 rintro e w' ⟨rfl, rfl⟩
 go_wp2_with (at_mapUpdate; refine CM _ rfl _ _ _ rfl b n f rfl HM.out.met (by unfold maxLen; omega) (l / 2) rfl (by unfold dB; omega) k rfl (by unfold maxLen; omega) ?_; intro w2 g1 g2; have G1 := aa g1; have G2 := aa g2; clear g1 g2)
 go_end0
 exact ⟨rfl, ⟨G2.out.at_ HM.out.at_ (by simp; exact HG.out), G1.out⟩, G2.out⟩
theorem oH (w : World) (g b n : Nat) (f : Int → List UInt8) (l eu : Int) (k : ByteArray) (h : Ms w g b n f) (hr : dB l) (hd : sr f l eu = false) :
  Calls Tryz.prog 82 #[.pointer (some ⟨g, 0, none⟩), .int .i64 l, .int .i64 eu, .string k] w fun e w' => e = eh ∧ w = w' := by
 unfold dB at hr
 obtain ⟨FU, lW⟩ := hr
 have HM := aa h
 have hc := h.at_.cell 0
 simp at hc
 have HF := aa (rfl : eh = eh)
 by_cases l0 : 0 ≤ l
 ·have jb := h.met.look (v := l / 2) (by unfold dB; omega)
  by_cases h1 : 2 ≤ l
  ·have d1 : decide (2 ≤ l) = true := decide_eq_true h1
   by_cases h2 : l % 2 = 0
   ·have H2 : (l % 2 == 1) = false := by rw [beq_eq_false_iff_ne]; omega
    by_cases h3 : l / 2 ≤ eu
    ·have d3 : decide (l / 2 ≤ eu) = true := decide_eq_true h3
     have h4 : (f (l / 2)).isEmpty = false := by
      simp only [sr, d1, d3, h2, decide_true, Bool.true_and] at hd
      exact hd
     obtain ⟨c, r, hcr⟩ : ∃ c r, f (l / 2) = c :: r := by
      cases hf : f (l / 2) with
      | nil => rw [hf] at h4; cases h4
      | cons c r => exact ⟨c, r, rfl⟩
     rw [hcr] at jb
     clear h h4 hcr h2 hd
     go_enter Tryz.func82, Tryz.ntmps82
     go_wp2_with fail
     refine (ii _ l l0 lW).mono ?_
     rintro e w' ⟨rfl, rfl⟩
     go_wp2_with fail
     refine (pD _ l l0 lW).mono ?_
     rintro e w' ⟨rfl, rfl⟩
     go_wp2_with fail
     refine (dE _).mono ?_
     rintro e w' ⟨rfl, rfl⟩
     unfold eh
     go_wp2_with fail
     exact ⟨rfl, rfl, rfl⟩
    ·have d3 : decide (l / 2 ≤ eu) = false := decide_eq_false h3
     clear h h2 hd jb
     go_enter Tryz.func82, Tryz.ntmps82
     go_wp2_with fail
     refine (ii _ l l0 lW).mono ?_
     rintro e w' ⟨rfl, rfl⟩
     go_wp2_with fail
     refine (pD _ l l0 lW).mono ?_
     rintro e w' ⟨rfl, rfl⟩
     go_wp2_with fail
     refine (dE _).mono ?_
     rintro e w' ⟨rfl, rfl⟩
     unfold eh
     go_wp2_with fail
     exact ⟨rfl, rfl, rfl⟩
   ·have H2 : (l % 2 == 1) = true := by rw [beq_iff_eq]; omega
    clear h h2 hd jb
    go_enter Tryz.func82, Tryz.ntmps82
    go_wp2_with fail
    refine (ii _ l l0 lW).mono ?_
    rintro e w' ⟨rfl, rfl⟩
    go_wp2_with fail
    refine (pD _ l l0 lW).mono ?_
    rintro e w' ⟨rfl, rfl⟩
    go_wp2_with fail
    refine (dE _).mono ?_
    rintro e w' ⟨rfl, rfl⟩
    unfold eh
    go_wp2_with fail
    exact ⟨rfl, rfl, rfl⟩
  ·have d1 : decide (2 ≤ l) = false := decide_eq_false h1
   clear h hd jb
   go_enter Tryz.func82, Tryz.ntmps82
   go_wp2_with fail
   refine (ii _ l l0 lW).mono ?_
   rintro e w' ⟨rfl, rfl⟩
   go_wp2_with fail
   refine (dE _).mono ?_
   rintro e w' ⟨rfl, rfl⟩
   unfold eh
   go_wp2_with fail
   exact ⟨rfl, rfl, rfl⟩
 ·have d1 : decide (2 ≤ l) = false := decide_eq_false (by omega)
  clear h hd
  go_enter Tryz.func82, Tryz.ntmps82
  go_wp2_with fail
  refine (tU _ l (by omega)).mono ?_
  rintro e w' ⟨rfl, rfl⟩
  go_wp2_with fail
  refine (dE _).mono ?_
  rintro e w' ⟨rfl, rfl⟩
  unfold eh
  go_wp2_with fail
  exact ⟨rfl, rfl, rfl⟩
def rg (f : Int → List UInt8) (l : Int) : Bool := decide (0 ≤ l) && (decide (l < 2) || !(f (l / 2)).isEmpty)
theorem jY (w : World) (g b n : Nat) (f : Int → List UInt8) (l : Int) (h : Ms w g b n f) (hr : dB l) :
  Calls Tryz.prog 47 #[.pointer (some ⟨g, 0, none⟩), .int .i64 l] w fun e w' => e = .returned (.bool (rg f l)) ∧ Fr [] w w' := by
 unfold dB at hr
 obtain ⟨FU, lW⟩ := hr
 have HM := aa h
 have hc := h.at_.cell 0
 simp at hc
 have hK : Hid (∀ s, rg f l = s → Ending.returned (.bool s) = .returned (.bool (rg f l))) := fun s h => by rw [h]
 have e0 := Ext.cell hc
 by_cases l0 : 0 ≤ l
 ·have d0 : decide (0 ≤ l) = true := decide_eq_true l0
  have KV := aa (fun W => ii W l l0 lW)
  have jb : ∀ u : Ext w, (Instr.lookup 117 (.map (some b)) (.int .i64 (l / 2)) false).run Tryz.prog u.v = .ok (.string ⟨(f (l / 2)).toArray⟩) u.v := fun u => (h.met.keep u.fr).look (v := l / 2) (by unfold dB; omega)
  by_cases h1 : l < 2
  ·have d1 : decide (l < 2) = true := decide_eq_true h1
   have CH : Hid (rg f l = true) := (by simp [rg, d0, d1] : rg f l = true)
   clear h jb
   go_enter Tryz.func47, Tryz.ntmps47
   go_wp2_with fail
   refine al (by kernel_rfl) (by kernel_rfl) ?_
   repeat (go_big_quiet_step (exact aV (KV.out _)))
   refine wpQuiet_nil ?_
   rintro w2 ⟨u2, bJ⟩
   have aT : Hid (Fr [] w w2) := bJ ▸ u2.fr
   clear bJ u2
   go_wp2_with fail
   go_ret
   exact ⟨hK.out _ CH.out, aT.out⟩
  ·have d1 : decide (l < 2) = false := decide_eq_false h1
   cases hf : f (l / 2) with
   | nil =>
    have CH : Hid (rg f l = false) := (by simp [rg, d1, hf] : rg f l = false)
    rw [hf] at jb
    clear h hf
    go_enter Tryz.func47, Tryz.ntmps47
    go_wp2_with fail
    refine al (by kernel_rfl) (by kernel_rfl) ?_
    repeat (go_big_quiet_step (exact aV (KV.out _)))
    refine wpQuiet_nil ?_
    rintro w2 ⟨u2, bJ⟩
    have aT : Hid (Fr [] w w2) := bJ ▸ u2.fr
    clear bJ u2
    go_wp2_with fail
    go_ret
    exact ⟨hK.out _ CH.out, aT.out⟩
   | cons c r =>
    have CH : Hid (rg f l = true) := (by simp [rg, d0, hf] : rg f l = true)
    rw [hf] at jb
    clear h hf
    go_enter Tryz.func47, Tryz.ntmps47
    go_wp2_with fail
    refine al (by kernel_rfl) (by kernel_rfl) ?_
    repeat (go_big_quiet_step (exact aV (KV.out _)))
    refine wpQuiet_nil ?_
    rintro w2 ⟨u2, bJ⟩
    have aT : Hid (Fr [] w w2) := bJ ▸ u2.fr
    clear bJ u2
    go_wp2_with fail
    go_ret
    exact ⟨hK.out _ CH.out, aT.out⟩
 ·have d0 : decide (0 ≤ l) = false := decide_eq_false l0
  have CH : Hid (rg f l = false) := (by simp [rg, d0] : rg f l = false)
  have KV := aa (fun W => tU W l (by omega))
  clear h
  go_enter Tryz.func47, Tryz.ntmps47
  go_wp2_with fail
  refine al (by kernel_rfl) (by kernel_rfl) ?_
  repeat (go_big_quiet_step (exact aV (KV.out _)))
  refine wpQuiet_nil ?_
  rintro w2 ⟨u2, bJ⟩
  have aT : Hid (Fr [] w w2) := bJ ▸ u2.fr
  clear bJ u2
  go_wp2_with fail
  go_ret
  exact ⟨hK.out _ CH.out, aT.out⟩
theorem ME : ∀ args w, (callFunc 84 args).run Tryz.prog w = .ok (.enter 84 args) w := enters_of Tryz.func84 (by kernel_rfl) rfl
theorem MF : ∀ args w, (callFunc 89 args).run Tryz.prog w = .ok (.enter 89 args) w := enters_of Tryz.func89 (by kernel_rfl) rfl
theorem EQ (w : World) (p g b n : Nat) (f : Int → List UInt8) (x : Int) (h : Ms w g b n f) (hp : w.cell? ⟨p, 0, none⟩ = some (.pointer (some ⟨g, 0, none⟩))) (hr : dB x) :
  Calls Tryz.prog 84 #[.int .i64 x, .pointer (some ⟨p, 0, none⟩)] w fun e w' => e = .returned (.bool (!rg f x)) ∧ Fr [] w w' := by
 have KC := aa (jY w g b n f x h hr)
 clear h hr
 go_enter Tryz.func84, Tryz.ntmps84
 go_wp2_with fail
 refine KC.out.mono ?_
 obtain ⟨q, HQ⟩ : ∃ q, Hid (rg f x = q) := ⟨_, rfl⟩
 rw [HQ.out]
 rintro e w' ⟨rfl, hf⟩
 have HF := aa hf
 clear hf
 go_wp2_with fail
 go_ret
 exact ⟨by rw [HQ.out]; rfl, HF.out⟩
theorem qL (w : World) (g b n : Nat) (f : Int → List UInt8) (A : Option Addr) (c : Nat) (xs : List Int) (h : Ms w g b n f) (hx : Rd w A xs) (hr : Ra xs) (hl : xs.length ≤ 17592186044416) :
  Calls Tryz.prog 48 #[.pointer (some ⟨g, 0, none⟩), .slice A xs.length c] w fun e w' => e = .returned (.bool (xs.all (rg f))) ∧ Fr [] w w' := by
 have hmf : ∀ (fn : Fn) (first cap : Array Value) (w : World), (Instr.makeFunc fn first cap).run Tryz.prog w = .ok (.func fn first cap) w := fun _ _ _ _ => rfl
 have cE := dO w (.cells #[.pointer (some ⟨g, 0, none⟩)] 87)
 have KC := aa (fT (w.alloc (.cells #[.pointer (some ⟨g, 0, none⟩)] 87)) A c xs 84 #[.pointer (some ⟨w.heap.size, 0, none⟩)] (fun x => !rg f x) ME (hx.keep cE) hr hl
  (fun W hW x _ hx => EQ W w.heap.size g b n f x (h.keep (cE.ag hW)) (hW.av (by simp)) hx))
 have dv := aa cE
 clear h hx hr cE
 go_enter Tryz.func48, Tryz.ntmps48
 go_wp2_with fail
 refine KC.out.mono ?_
 obtain ⟨q, HQ⟩ : ∃ q, Hid ((xs.any fun x => !rg f x) = q) := ⟨_, rfl⟩
 rw [HQ.out]
 rintro e w' ⟨rfl, hf⟩
 have HF := aa (dv.out.ag hf)
 clear hf
 go_wp2_with fail
 go_ret
 exact ⟨by rw [List.all_eq_not_any_not, HQ.out]; rfl, HF.out⟩
theorem zT (w : World) (c : UInt8) :
  Calls Tryz.prog 122 #[.int .u8 c.toNat] w fun e w' => e = .returned (.bool (fe c)) ∧ w = w' := by
 have hK : Hid (∀ s, fe c = s → Ending.returned (.bool s) = .returned (.bool (fe c))) := fun s h => by rw [h]
 by_cases h1 : (c.toNat : Int) < 33
 ·have d1 : decide ((c.toNat : Int) < 33) = true := decide_eq_true h1
  have HB : Hid (fe c = true) := (by simp [fe, d1] : fe c = true)
  go_enter Tryz.func122, Tryz.ntmps122
  go_wp2_with fail
  go_ret
  exact ⟨hK.out _ HB.out, rfl⟩
 ·have d1 : decide ((c.toNat : Int) < 33) = false := decide_eq_false h1
  by_cases h2 : 126 < (c.toNat : Int)
  ·have d2 : decide (126 < (c.toNat : Int)) = true := decide_eq_true h2
   have HB : Hid (fe c = true) := (by simp [fe, d2] : fe c = true)
   go_enter Tryz.func122, Tryz.ntmps122
   go_wp2_with fail
   go_ret
   exact ⟨hK.out _ HB.out, rfl⟩
  ·have d2 : decide (126 < (c.toNat : Int)) = false := decide_eq_false h2
   have HB : Hid (fe c = false) := (by simp [fe, d1, d2] : fe c = false)
   go_enter Tryz.func122, Tryz.ntmps122
   go_wp2_with fail
   go_ret
   exact ⟨hK.out _ HB.out, rfl⟩
theorem MD : ∀ args w, (callFunc 122 args).run Tryz.prog w = .ok (.enter 122 args) w := enters_of Tryz.func122 (by kernel_rfl) rfl
theorem Ax (w : World) (g c : Nat) (l : List UInt8) (h : ∀ j : Nat, j < l.length → w.cell? ⟨g, j, none⟩ = some (.int .u8 (l[j]!).toNat)) (hl : l.length ≤ 17592186044416) :
  Calls Tryz.prog 153 #[.slice (some ⟨g, 0, none⟩) l.length c, .func (.func 122) #[] #[]] w (JO (l.any fe) w) := by
 have HH := aa h
 have rI : Hid (∀ (n : Nat) W, n ≤ 17592186044416 → l.any fe = true → Fr [] w W → JO (l.any fe) w (.returned (.int .i64 (n : Int))) W) := fun n W h1 h2 h3 => ⟨n, rfl, by omega, by omega, by rw [h2]; exact decide_eq_true (by omega), h3⟩
 have NO : Hid (∀ W, l.any fe = false → Fr [] w W → JO (l.any fe) w (.returned (.int .i64 (-1))) W) := fun W h2 h3 => ⟨-1, rfl, by omega, by omega, by rw [h2]; rfl, h3⟩
 have eg := MD
 clear h
 go_enter Tryz.func153, Tryz.ntmps153
 go_wp2_with fail
 go_loop [8] (fun i => ∃ k : Nat, k ≤ l.length ∧ i = .int .i64 k ∧ ev l fe k) (fun i => l.length - (intOf i).toNat)
 case atStart => exact ⟨0, bV _, rfl, ev.zero _ _⟩
 case round =>
  obtain ⟨k, hk, rfl, hn⟩ := hrel
  have HN := aa hn
  clear hn
  by_cases bM : k < l.length
  ·have cx := HH.out k bM
   obtain ⟨x, he⟩ : ∃ x, Hid (l[k]! = x) := ⟨_, rfl⟩
   rw [he.out] at cx
   have HC := aa (zT w x)
   go_wp2_with fail
   refine HC.out.mono ?_
   obtain ⟨q, HQ⟩ : ∃ q, Hid (fe x = q) := ⟨_, rfl⟩
   rw [HQ.out]
   rintro e w2 ⟨rfl, rfl⟩
   cases q with
   | true =>
    go_wp2_with fail
    go_ret
    exact rI.out k _ (by omega) (sY _ _ k bM (by rw [he.out]; exact HQ.out)) (Fr.refl _ _)
   | false =>
    go_wp2_with fail
    go_round
    case rel => exact ⟨k + 1, by omega, by go_num, HN.out.step (by rw [he.out]; exact HQ.out)⟩
    case measure => simp [intOf]; omega
  ·have HT := aa (HN.out.all bM)
   go_wp2_with fail
   go_ret
   exact NO.out _ HT.out (Fr.refl _ _)
theorem uQ (w : World) (g c : Nat) (l : List UInt8) (h : ∀ j : Nat, j < l.length → w.cell? ⟨g, j, none⟩ = some (.int .u8 (l[j]!).toNat)) (hl : l.length ≤ 17592186044416) :
  Calls Tryz.prog 121 #[.slice (some ⟨g, 0, none⟩) l.length c, .func (.func 122) #[] #[]] w fun e w' => e = .returned (.bool (l.any fe)) ∧ Fr [] w w' := by
 have HC := aa (Ax w g c l h hl)
 clear h
 go_enter Tryz.func121, Tryz.ntmps121
 go_wp2_with fail
 refine HC.out.mono ?_
 rintro e w2 ⟨n, rfl, h1, h2, h3, hf⟩
 have H3 := aa h3
 have HF := aa hf
 clear h3 hf
 go_wp2_with fail
 go_ret
 exact ⟨by rw [← H3.out]; rfl, HF.out⟩
theorem MN (w : World) (e : TypeId) (s : ByteArray) : Fr [] w (Lib.bytesWorld w e s) :=
 ⟨rfl, rfl, rfl, by rw [Lib.bytesWorld_size]; omega, fun k hk _ => Lib.bytesWorld_at_old w e s k hk⟩
def jr (s : ByteArray) : Bool := !s.toList.isEmpty && decide ((s.size : Int) ≤ 32) && !CQ s
theorem CR (w : World) (s : ByteArray) (hs : s.size ≤ maxLen) :
  Calls Tryz.prog 87 #[.string s] w fun e w' => e = .returned (.bool (jr s)) ∧ Fr [] w w' := by
 unfold maxLen at hs
 have hK : Hid (∀ x, jr s = x → Ending.returned (.bool x) = .returned (.bool (jr s))) := fun s h => by rw [h]
 by_cases h1 : s.toList.isEmpty = true
 ·have HB : Hid (jr s = false) := (by simp [jr, h1] : jr s = false)
  go_enter Tryz.func87, Tryz.ntmps87
  go_wp2_with fail
  go_ret
  exact ⟨hK.out _ HB.out, Fr.refl _ _⟩
 ·have h1b := Bool.eq_false_iff.2 h1
  by_cases h2 : (s.size : Int) ≤ 32
  ·have d2 : decide ((s.size : Int) ≤ 32) = true := decide_eq_true h2
   have HC := aa (uQ (Lib.bytesWorld w 5 s) w.heap.size (grownCap w s.size 0 5) s.data.toList (fun j hj => by
    rw [Lib.bytesWorld_cell w 5 s j hj, ae, List.getD_eq_getElem?_getD, af hj]; rfl) (by simp; omega))
   have HB : Hid (jr s = !(s.data.toList.any fe)) := (by simp [jr, h1b, d2, CQ] : jr s = !(s.data.toList.any fe))
   have hcv := Lib.run_convert_string_bytes (P := Tryz.prog) w 9 98 5 s Tryz.underlying9 Tryz.underlying98 Tryz.underlying5
   have HF := aa (MN w 5 s)
   rw [show s.data.toList.length = s.size from rfl] at HC
   go_enter Tryz.func87, Tryz.ntmps87
   go_wp2_with fail
   refine HC.out.mono ?_
   obtain ⟨q, HQ⟩ : ∃ q, Hid (s.data.toList.any fe = q) := ⟨_, rfl⟩
   rw [HQ.out]
   rintro e w2 ⟨rfl, hf⟩
   have cJ := aa hf
   clear hf
   go_wp2_with fail
   go_ret
   exact ⟨hK.out _ (by rw [HB.out, HQ.out]), HF.out.ag cJ.out⟩
  ·have d2 : decide ((s.size : Int) ≤ 32) = false := decide_eq_false h2
   have HB : Hid (jr s = false) := (by simp [jr, d2] : jr s = false)
   go_enter Tryz.func87, Tryz.ntmps87
   go_wp2_with fail
   go_ret
   exact ⟨hK.out _ HB.out, Fr.refl _ _⟩
def dD (c : UInt8) : Int := Lib.indexByte [105, 108, 111, 98, 99] c
theorem Ft (c : UInt8) : (ByteArray.mk #[c]).toList = [c] := by
 rw [ByteArray.toList_eq]
theorem SZ (w : World) (c : UInt8) :
  Calls Tryz.prog 170 #[.string ⟨#[105, 108, 111, 98, 99]⟩, .int .u8 c.toNat] w fun e w' => e = .returned (.int .i64 (dD c)) ∧ w = w' := by
 go_enter Tryz.func170, Tryz.ntmps170
 go_wp2_with fail
 rw [run_callFunc_extern Tryz.func185 (by kernel_rfl) (by kernel_rfl) (by kernel_rfl) (e := Extern.BytealgIndexByte.indexByte) (by kernel_rfl), Lib.run_indexByteString]
 simp only [Result.andThen]
 rw [Oper.upon_value]
 go_wp2
 go_ret
 exact ⟨by simp [dD], rfl⟩
theorem Ox (w : World) (c : UInt8) :
  Calls Tryz.prog 152 #[.string ⟨#[105, 108, 111, 98, 99]⟩, .string ⟨#[c]⟩] w fun e w' => e = .returned (.int .i64 (dD c)) ∧ w = w' := by
 go_enter Tryz.func152, Tryz.ntmps152
 go_wp2_with fail
 refine (SZ _ c).mono ?_
 rintro e w' ⟨rfl, rfl⟩
 go_wp2_with fail
 go_ret
 exact ⟨rfl, rfl⟩
theorem zX (w : World) (c : UInt8) :
  Calls Tryz.prog 120 #[.string ⟨#[105, 108, 111, 98, 99]⟩, .string ⟨#[c]⟩] w fun e w' => e = .returned (.int .i64 (dD c)) ∧ w = w' := by
 go_enter Tryz.func120, Tryz.ntmps120
 go_wp2_with fail
 refine (Ox _ c).mono ?_
 rintro e w' ⟨rfl, rfl⟩
 go_wp2_with fail
 go_ret
 exact ⟨rfl, rfl⟩
theorem zY (w : World) (c : UInt8) :
  Calls Tryz.prog 85 #[.string ⟨#[105, 108, 111, 98, 99]⟩, .string ⟨#[c]⟩] w fun e w' => e = .returned (.bool (decide (0 ≤ dD c))) ∧ w = w' := by
 go_enter Tryz.func85, Tryz.ntmps85
 go_wp2_with fail
 refine (zX _ c).mono ?_
 rintro e w' ⟨rfl, rfl⟩
 go_wp2_with fail
 go_ret
 exact ⟨rfl, rfl⟩
def lG (C : Pc) (k : ByteArray) : Int :=
 if (k.toList == [105]) = true then C.ins.length else if (k.toList == [108]) = true then C.aX.length else if (k.toList == [111]) = true then C.outs.length else if (k.toList == [98]) = true then C.aO.length else C.aN.length
theorem yh (w : World) (H : Hd) (C : Pc) (s : ByteArray) :
  Calls Tryz.prog 86 #[dn H C, .string s] w fun e w' => e = .returned (.int .i64 (lG C s)) ∧ Fr [] w w' := by
 have hK : Hid (∀ x, lG C s = x → Ending.returned (.int .i64 x) = .returned (.int .i64 (lG C s))) := fun s h => by rw [h]
 obtain ⟨mx, ins, aX, outs, aO, aN, au, bO⟩ := C
 obtain ⟨iA, iC, lA, lC, oA, oC, bA, bC, vA, vC, gA, gC, nA, nC⟩ := H
 simp only [dn, gH] at *
 rcases xZ s.toList [105] with g0 | g0
 ·have HC := aa (show lG ⟨mx, ins, aX, outs, aO, aN, au, bO⟩ s = _ from by simp only [lG, g0, if_true]; rfl)
  go_enter Tryz.func86, Tryz.ntmps86
  go_wp2_with fail
  go_ret
  exact ⟨hK.out _ HC.out, dO _ _⟩
 rcases xZ s.toList [108] with g1 | g1
 ·have HC := aa (show lG ⟨mx, ins, aX, outs, aO, aN, au, bO⟩ s = _ from by simp only [lG, g0, g1, if_true, if_false, df]; rfl)
  go_enter Tryz.func86, Tryz.ntmps86
  go_wp2_with fail
  go_ret
  exact ⟨hK.out _ HC.out, dO _ _⟩
 rcases xZ s.toList [111] with g2 | g2
 ·have HC := aa (show lG ⟨mx, ins, aX, outs, aO, aN, au, bO⟩ s = _ from by simp only [lG, g0, g1, g2, if_true, if_false, df]; rfl)
  go_enter Tryz.func86, Tryz.ntmps86
  go_wp2_with fail
  go_ret
  exact ⟨hK.out _ HC.out, dO _ _⟩
 rcases xZ s.toList [98] with g3 | g3
 ·have HC := aa (show lG ⟨mx, ins, aX, outs, aO, aN, au, bO⟩ s = _ from by simp only [lG, g0, g1, g2, g3, if_true, if_false, df]; rfl)
  go_enter Tryz.func86, Tryz.ntmps86
  go_wp2_with fail
  go_ret
  exact ⟨hK.out _ HC.out, dO _ _⟩
 have HC := aa (show lG ⟨mx, ins, aX, outs, aO, aN, au, bO⟩ s = _ from by simp only [lG, g0, g1, g2, g3, if_false, df]; rfl)
 go_enter Tryz.func86, Tryz.ntmps86
 go_wp2_with fail
 go_ret
 exact ⟨hK.out _ HC.out, dO _ _⟩
theorem OG (c : UInt8) : -1 ≤ dD c ∧ dD c ≤ 4 := by
 simp only [dD, Lib.indexByte]
 repeat' split
 all_goals simp_all
def kc (k : ByteArray) : UInt8 := k.data.toList.headD 0
def pq (x : Nm) : Int := dD (kc x.k) * 2048 + x.i
theorem CX (w : World) (c : UInt8) (i : Int) (t : ByteArray) (h0 : 0 ≤ i) (h1 : i ≤ 17592186044416) :
  Calls Tryz.prog 88 #[.agg #[.string ⟨#[c]⟩, .int .i64 i, .string t]] w fun e w' => e = .returned (.int .i64 (dD c * 2048 + i)) ∧ Fr [] w w' := by
 obtain ⟨p1, p2⟩ := OG c
 have KI := aa (fun W => zX W c)
 generalize dD c = p at *
 obtain ⟨W1, ik⟩ : ∃ W, w.alloc (.cells #[.string ⟨#[c]⟩, .int .i64 i, .string t] 122) = W := ⟨_, rfl⟩
 have hO : At W1 w.heap.size 122 #[.string ⟨#[c]⟩, .int .i64 i, .string t] := ik ▸ At.new _ _ _
 have dv : Hid (Fr [] w W1) := ik ▸ dO _ _
 have c0 := hO.cell 0
 have c1 := hO.cell 1
 simp at c0 c1
 have e0 := Ext.cell c0
 have e1 := Ext.cell c1
 have HW := aa ik
 have m0 : IntKind.i64.wrap (p * 2048) = p * 2048 := IntWalk.i64_in _ (by omega)
 have m1 : IntKind.i64.wrap (p * 2048 + i) = p * 2048 + i := IntWalk.i64_in _ (by omega)
 clear ik hO c0 c1
 go_enter Tryz.func88, Tryz.ntmps88
 go_upto_region 1 with fail
 rw [HW.out]
 refine al (by kernel_rfl) (by kernel_rfl) ?_
 repeat (go_big_quiet_step (exact aV (KI.out _)))
 refine wpQuiet_nil ?_
 rintro w2 ⟨u2, bJ⟩
 have aT : Hid (Fr [] W1 w2) := bJ ▸ u2.fr
 clear bJ u2
 go_wp2_with fail
 go_ret
 exact ⟨rfl, dv.out.ag aT.out⟩
theorem Fy {k : ByteArray} (h : (k.size : Int) = 1) : ∃ c, k = ⟨#[c]⟩ := by
 obtain ⟨⟨l⟩⟩ := k
 have hl : l.length = 1 := by
  simp [ByteArray.size] at h
  omega
 match l, hl with
 | [c], _ => exact ⟨c, rfl⟩
theorem QA {w : World} {H : Hd} {C : Pc} (h : iE w H C) (k : ByteArray) : lG C k ≤ 17592186044416 := by
 have h1 := h.iL
 have h2 := h.lL
 have h3 := h.oL
 have h4 := h.bL
 have h5 := h.vL
 unfold lG
 split
 ·omega
 ·split
  ·omega
  ·split
   ·omega
   ·split <;> omega
def qx (C : Pc) (x : Nm) : Bool := decide ((x.k.size : Int) = 1) && decide (0 ≤ dD (kc x.k)) && decide (0 ≤ x.i) && decide (x.i < lG C x.k) && jr x.t
def eC (C : Pc) (k : Nat) : Prop := ∀ j : Nat, j < k → qx C C.bO[j]! = true ∧ (0 < j → pq C.bO[j - 1]! < pq C.bO[j]!)
theorem eC.zero (C : Pc) : eC C 0 := fun j hj => absurd hj (aG _)
theorem eC.step {C : Pc} {k : Nat} (h : eC C k) (h1 : qx C C.bO[k]! = true) (h2 : 0 < k → pq C.bO[k - 1]! < pq C.bO[k]!) : eC C (k + 1) := fun j hj => by
 by_cases e : j = k
 ·subst e; exact ⟨h1, h2⟩
 ·exact h j (by omega)
def NmP (C : Pc) (w : World) (e : Ending) (w' : World) : Prop := ∃ b : Bool, e = .returned (.bool b) ∧ (b = true ↔ eC C C.bO.length) ∧ Fr [] w w'
theorem Ak (w : World) (H : Hd) (C : Pc) (h : iE w H C) :
  Calls Tryz.prog 49 #[dn H C] w (NmP C w) := by
 have HH := aa h
 have hnL := h.nL
 have Cg := aa (fun k => QA h k)
 clear h
 have NO : Hid (∀ W, ¬ eC C C.bO.length → Fr [] w W → NmP C w (.returned (.bool false)) W) := fun W h1 h2 => ⟨false, rfl, by simp [h1], h2⟩
 have rI : Hid (∀ W, eC C C.bO.length → Fr [] w W → NmP C w (.returned (.bool true)) W) := fun W h1 h2 => ⟨true, rfl, by simp [h1], h2⟩
 have HS := aa (Cx.start w H C)
 have KC := aa (fun W s => yh W H C s)
 have RK := aa (fun W c i t h0 h1 => CX W c i t h0 h1)
 have NBD : Hid (∀ k : Nat, k < C.bO.length → qx C C.bO[k]! = false → ¬ eC C C.bO.length) := fun k hk hb hn => by
  have := (hn k hk).1
  rw [hb] at this; cases this
 have NBR : Hid (∀ k : Nat, k < C.bO.length → 0 < k → ¬ pq C.bO[k - 1]! < pq C.bO[k]! → ¬ eC C C.bO.length) := fun k hk h0 hb hn => hb ((hn k hk).2 h0)
 obtain ⟨mx, ins, aX, outs, aO, aN, au, bO⟩ := C
 obtain ⟨iA, iC, lA, lC, oA, oC, bA, bC, vA, vC, gA, gC, nA, nC⟩ := H
 simp only [dn, gH] at *
 go_enter Tryz.func49, Tryz.ntmps49
 go_wp2_with fail
 go_loopg [8] bO.length (fun g i wr => ∃ k : Nat, k + g = bO.length ∧ i = .int .i64 k ∧ Cx w wr ⟨iA, iC, lA, lC, oA, oC, bA, bC, vA, vC, gA, gC, nA, nC⟩ ⟨mx, ins, aX, outs, aO, aN, au, bO⟩ ∧ eC ⟨mx, ins, aX, outs, aO, aN, au, bO⟩ k)
 case atStart => exact ⟨0, by omega, rfl, HS.out, eC.zero _⟩
 case round =>
  obtain ⟨k, hk, rfl, hx, hn⟩ := hrel
  have HK := aa hk
  have HX := aa hx
  have HN := aa hn
  have j4 : k ≤ bO.length := by omega
  obtain ⟨c0, c1, c2, c3, c4, c5, c6, c7⟩ := hx.cells
  clear hk hx hn
  simp only at c0 c1 c2 c3 c4 c5 c6 c7
  by_cases bM : k < bO.length
  ·obtain ⟨b, o, x, y, z, hA, he, cx, cy, cz, gP, ⟨gx, kg⟩, ow⟩ := (HH.out.keep HX.out.fr).n.one HH.out.nr bM
   simp only at hA
   subst hA
   go_upto_region 4 with fail
   obtain ⟨W1, ik⟩ : ∃ W, wr.alloc (.cells #[.string x, .int .i64 y, .string z] 122) = W := ⟨_, rfl⟩
   rw [ik]
   have hO : At W1 wr.heap.size 122 #[.string x, .int .i64 y, .string z] := ik ▸ At.new _ _ _
   have dv : Hid (Fr [] wr W1) := ik ▸ dO _ _
   clear ik c0 c1 c2 c3 c4 c5 c6 c7 cx cy cz
   generalize wr.heap.size = ob at hO ⊢
   have hG := aa (HX.out.keep dv.out)
   have HO := aa hO
   clear hO
   obtain ⟨hb, HB⟩ : ∃ hb, Hid (qx ⟨mx, ins, aX, outs, aO, aN, au, bO⟩ ⟨x, y, z⟩ = hb) := ⟨_, rfl⟩
   obtain ⟨tb, HTB⟩ : ∃ tb, Hid (jr z = tb) := ⟨_, rfl⟩
   have KT0 := fun W => CR W z ow
   rw [HTB.out] at KT0
   have KT := aa KT0
   obtain ⟨n, ke⟩ : ∃ n, Hid (lG ⟨mx, ins, aX, outs, aO, aN, au, bO⟩ x = n) := ⟨_, rfl⟩
   have KQ0 := fun W => KC.out W x
   rw [ke.out] at KQ0
   have KQ := aa KQ0
   clear KQ0 KT0
   have NW := gP
   unfold maxLen at NW
   go_cut [42] (fun st wx => st = .bool (!hb) ∧ Fr [] W1 wx)
   case first =>
    have nx : W1.cell? ⟨ob, 0, none⟩ = some (.string x) := by rw [HO.out.cell]; rfl
    have ny : W1.cell? ⟨ob, 1, none⟩ = some (.int .i64 y) := by rw [HO.out.cell]; rfl
    have nz : W1.cell? ⟨ob, 2, none⟩ = some (.string z) := by rw [HO.out.cell]; rfl
    have ex := Ext.cell nx
    have ey := Ext.cell ny
    have ez := Ext.cell nz
    obtain ⟨e0, e1, e2, e3, e4, e5, e6, e7⟩ := hG.out.ext
    simp only at e0 e1 e2 e3 e4 e5 e6 e7
    by_cases s1 : (x.size : Int) = 1
    ·obtain ⟨c, hc⟩ := Fy s1
     subst hc
     have KS := aa (fun W => zY W c)
     clear s1
     by_cases p0 : 0 ≤ dD c
     ·have p0b : decide (0 ≤ dD c) = true := decide_eq_true p0
      have PL : Hid (dD (kc ⟨#[c]⟩) = dD c) := rfl
      by_cases h0 : 0 ≤ y
      ·have d0 : decide (y < 0) = false := decide_eq_false (by omega)
       by_cases h1 : y < n
       ·have d1 : decide (n ≤ y) = false := decide_eq_false (by omega)
        go_wp2_with fail
        refine al (by kernel_rfl) (by kernel_rfl) ?_
        repeat (go_big_quiet_step (first | (go_at_call 85; exact aV (KS.out _)) | (go_at_call 86; exact bN (KQ.out _)) | (go_at_call 87; exact bN (KT.out _))))
        refine wpQuiet_nil ?_
        rintro w2 ⟨u2, bJ⟩
        have aT : Hid (Fr [] W1 w2) := bJ ▸ u2.fr
        clear bJ u2
        go_wp2_with fail
        go_meet
        exact ⟨by rw [← HB.out]; simp [qx, PL.out, p0, h0, ke.out, h1, HTB.out, ByteArray.size], aT.out⟩
       ·have d1 : decide (n ≤ y) = true := decide_eq_true (by omega)
        go_wp2_with fail
        refine al (by kernel_rfl) (by kernel_rfl) ?_
        repeat (go_big_quiet_step (first | (go_at_call 85; exact aV (KS.out _)) | (go_at_call 86; exact bN (KQ.out _)) | (go_at_call 87; exact bN (KT.out _))))
        refine wpQuiet_nil ?_
        rintro w2 ⟨u2, bJ⟩
        have aT : Hid (Fr [] W1 w2) := bJ ▸ u2.fr
        clear bJ u2
        go_wp2_with fail
        go_meet
        exact ⟨by rw [← HB.out]; simp [qx, ke.out, h1], aT.out⟩
      ·have d0 : decide (y < 0) = true := decide_eq_true (by omega)
       go_wp2_with fail
       refine al (by kernel_rfl) (by kernel_rfl) ?_
       repeat (go_big_quiet_step (first | (go_at_call 85; exact aV (KS.out _)) | (go_at_call 86; exact bN (KQ.out _)) | (go_at_call 87; exact bN (KT.out _))))
       refine wpQuiet_nil ?_
       rintro w2 ⟨u2, bJ⟩
       have aT : Hid (Fr [] W1 w2) := bJ ▸ u2.fr
       clear bJ u2
       go_wp2_with fail
       go_meet
       exact ⟨by rw [← HB.out]; simp [qx, show ¬ 0 ≤ y from by omega], aT.out⟩
     ·have p0b : decide (0 ≤ dD c) = false := decide_eq_false p0
      have PL : Hid (dD (kc ⟨#[c]⟩) = dD c) := rfl
      go_wp2_with fail
      refine al (by kernel_rfl) (by kernel_rfl) ?_
      repeat (go_big_quiet_step (first | (go_at_call 85; exact aV (KS.out _)) | (go_at_call 86; exact bN (KQ.out _)) | (go_at_call 87; exact bN (KT.out _))))
      refine wpQuiet_nil ?_
      rintro w2 ⟨u2, bJ⟩
      have aT : Hid (Fr [] W1 w2) := bJ ▸ u2.fr
      clear bJ u2
      go_wp2_with fail
      go_meet
      exact ⟨by rw [← HB.out]; simp [qx, PL.out, p0], aT.out⟩
    ·have s1b : ((x.size : Int) != 1) = true := by simp [s1]
     have S1 := aa s1
     clear s1
     go_wp2_with fail
     refine al (by kernel_rfl) (by kernel_rfl) ?_
     repeat (go_big_quiet_step (fail))
     refine wpQuiet_nil ?_
     rintro w2 ⟨u2, bJ⟩
     have aT : Hid (Fr [] W1 w2) := bJ ▸ u2.fr
     clear bJ u2
     go_wp2_with fail
     go_meet
     exact ⟨by rw [← HB.out]; simp [qx, S1.out], aT.out⟩
   case rest =>
    obtain ⟨rfl, hfc⟩ := hcut
    have HFC := aa hfc
    clear hfc
    have ie := aa (hG.out.keep HFC.out)
    have sB := aa (HO.out.keep HFC.out)
    cases hb with
    | false =>
     go_wp2_with fail
     go_ret
     exact NO.out _ (NBD.out k bM (by rw [he.out]; exact HB.out)) ie.out.fr
    | true =>
     have N1 := HB.out
     simp only [qx, aD, decide_eq_true_eq] at N1
     obtain ⟨⟨⟨⟨s1, p0⟩, h0⟩, h1⟩, _⟩ := N1
     obtain ⟨c, hc⟩ := Fy s1
     have h2 := Cg.out x
     subst hc
     have NV : y ≤ 17592186044416 := by omega
     clear s1 p0 h1 h2
     have nx : wc.cell? ⟨ob, 0, none⟩ = some (.string ⟨#[c]⟩) := by rw [sB.out.cell]; rfl
     have ny : wc.cell? ⟨ob, 1, none⟩ = some (.int .i64 y) := by rw [sB.out.cell]; rfl
     have nz : wc.cell? ⟨ob, 2, none⟩ = some (.string z) := by rw [sB.out.cell]; rfl
     have ex := Ext.cell nx
     have ey := Ext.cell ny
     have ez := Ext.cell nz
     obtain ⟨e0, e1, e2, e3, e4, e5, e6, e7⟩ := ie.out.ext
     simp only at e0 e1 e2 e3 e4 e5 e6 e7
     by_cases LN : 0 < k
     ·obtain ⟨j, rfl⟩ : ∃ j, k = j + 1 := ⟨k - 1, by omega⟩
      obtain ⟨b', o', x', y', z', zx, eG, MJ, oV, YW, S8, ⟨ado, adn⟩, alg⟩ := (HH.out.keep ie.out.fr).n.one HH.out.nr (show j < bO.length by omega)
      simp only [Option.some.injEq, Addr.mk.injEq, and_true] at zx
      obtain ⟨rfl, rfl⟩ := zx
      have N1 := (HN.out j (by omega)).1
      simp only [eG.out] at N1
      simp only [qx, aD, decide_eq_true_eq] at N1
      obtain ⟨⟨⟨⟨s1, p0⟩, F6⟩, h1⟩, _⟩ := N1
      obtain ⟨c', V5⟩ := Fy s1
      have h2 := Cg.out x'
      subst V5
      have alj : y' ≤ 17592186044416 := by omega
      clear s1 p0 h1 h2
      have ex' := Ext.cell MJ
      have ey' := Ext.cell oV
      have ez' := Ext.cell YW
      clear MJ oV YW nx ny nz
      by_cases hr : dD c * 2048 + y ≤ dD c' * 2048 + y'
      ·have dr : decide (dD c * 2048 + y ≤ dD c' * 2048 + y') = true := decide_eq_true hr
       have HR := aa hr
       clear hr
       go_wp2_with fail
       refine al (by kernel_rfl) (by kernel_rfl) ?_
       repeat (go_big_quiet_step (exact bN (RK.out _ _ _ _ (by omega) (by omega))))
       refine wpQuiet_nil ?_
       rintro w2 ⟨u2, bJ⟩
       have aT : Hid (Fr [] wc w2) := bJ ▸ u2.fr
       clear bJ u2
       go_wp2_with fail
       go_ret
       exact NO.out _ (NBR.out (j + 1) bM LN (by rw [eo, he.out, eG.out]; have := HR.out; show dD c * 2048 + y ≤ dD c' * 2048 + y'; omega)) (ie.out.fr.ag aT.out)
      ·have dr : decide (dD c * 2048 + y ≤ dD c' * 2048 + y') = false := decide_eq_false hr
       have HR := aa hr
       clear hr
       go_wp2_with fail
       refine al (by kernel_rfl) (by kernel_rfl) ?_
       repeat (go_big_quiet_step (exact bN (RK.out _ _ _ _ (by omega) (by omega))))
       refine wpQuiet_nil ?_
       rintro w2 ⟨u2, bJ⟩
       have aT : Hid (Fr [] wc w2) := bJ ▸ u2.fr
       clear bJ u2
       go_wp2_with fail
       go_roundg (gk - 1)
       case measure => have := HK.out; omega
       case rel => exact ⟨j + 2, by have := HK.out; omega, by go_num, ie.out.keep aT.out, HN.out.step (by rw [he.out]; exact HB.out) (fun h => by rw [eo, he.out, eG.out]; have := HR.out; show dD c' * 2048 + y' < dD c * 2048 + y; omega)⟩
     ·obtain rfl : k = 0 := by omega
      go_wp2_with fail
      refine al (by kernel_rfl) (by kernel_rfl) ?_
      repeat (go_big_quiet_step (fail))
      refine wpQuiet_nil ?_
      rintro w2 ⟨u2, bJ⟩
      have aT : Hid (Fr [] wc w2) := bJ ▸ u2.fr
      clear bJ u2
      go_wp2_with fail
      go_roundg (gk - 1)
      case measure => have := HK.out; omega
      case rel => exact ⟨1, by have := HK.out; omega, by go_num, ie.out.keep aT.out, HN.out.step (by rw [he.out]; exact HB.out) (fun h => absurd h (Nat.lt_irrefl _))⟩
  ·have HT : Hid (eC ⟨mx, ins, aX, outs, aO, aN, au, bO⟩ bO.length) := (by rw [show bO.length = k from by omega]; exact HN.out : eC ⟨mx, ins, aX, outs, aO, aN, au, bO⟩ bO.length)
   go_wp2_with fail
   go_ret
   exact rI.out _ HT.out HX.out.fr
def Dk (f : Int → List UInt8) (l : List Int) : Prop := ∀ v, dB v → ((f v).isEmpty = true ↔ ∀ x ∈ l, x / 2 ≠ v)
theorem Dk.nil : Dk (fun _ => []) [] := fun v _ => by simp
theorem Dk.step {f : Int → List UInt8} {l : List Int} (h : Dk f l) (x : Int) (s : List UInt8) (hs : s.isEmpty = false) : Dk (fun v => if v = x / 2 then s else f v) (l ++ [x]) := fun v hv => by
 show (if v = x / 2 then s else f v).isEmpty = true ↔ _
 by_cases e : v = x / 2
 ·subst e
  rw [if_pos rfl, hs]
  constructor
  ·intro h; cases h
  ·intro hh
   exact absurd rfl (hh x (by simp))
 ·rw [if_neg e, h v hv]
  constructor
  ·intro hh y hy
   rcases aj.1 hy with hy | hy
   ·exact hh y hy
   ·simp only [an] at hy
    subst hy
    exact fun h => e h.symm
  ·intro hh y hy
   exact hh y (aj.2 (.inl hy))
theorem Ag {C : Pc} {l : List Int} {k : Nat} (h : xy C l k) {x : Int} (hx : x ∈ l.take k) : 2 ≤ x ∧ x % 2 = 0 ∧ x ≤ 2 * C.mx := by
 obtain ⟨j, hj, e⟩ := List.mem_iff_getElem.1 hx
 rw [bk] at hj
 have := h j (by omega)
 simp only [jL, aD, decide_eq_true_eq] at this
 have e2 : l[j]! = x := by
  rw [List.getElem_take] at e
  rw [ae, af (by omega), ← e]
  rfl
 rw [e2] at this
 exact ⟨this.1.1.1, this.1.1.2, this.1.2⟩
theorem EF {C : Pc} {l : List Int} {k : Nat} {f : Int → List UInt8} (h : xy C l k) (hd : Dk f (l.take k)) (hr : dB l[k]!) : sr f l[k]! C.mx = jL C l k := by
 unfold sr jL
 generalize hx : l[k]! = x at *
 by_cases h1 : 2 ≤ x
 ·by_cases h2 : x % 2 = 0
  ·have e3 : decide (x / 2 ≤ C.mx) = decide (x ≤ 2 * C.mx) := by
    by_cases h3 : x ≤ 2 * C.mx
    ·rw [decide_eq_true h3, decide_eq_true (by omega)]
    ·rw [decide_eq_false h3, decide_eq_false (by omega)]
   have e4 : (f (x / 2)).isEmpty = !decide (x ∈ l.take k) := by
    have hR : dB (x / 2) := by
     unfold dB at hr ⊢
     omega
    by_cases hm : x ∈ l.take k
    ·have : (f (x / 2)).isEmpty = false := by
      rw [Bool.eq_false_iff]
      intro h5
      exact (hd _ hR).1 h5 x hm rfl
     rw [this, decide_eq_true hm]
     rfl
    ·have : (f (x / 2)).isEmpty = true := by
      rw [hd _ hR]
      intro y hy h5
      obtain ⟨y1, y2, _⟩ := Ag h hy
      have : y = x := by omega
      exact hm (this ▸ hy)
     rw [this, decide_eq_false hm]
     rfl
   rw [e3, e4]
  ·rw [decide_eq_false h2]; simp
 ·rw [decide_eq_false h1]; simp
theorem Bt (a b : List Int) (k : Nat) (h : k < a.length) : (a ++ b)[k]! = a[k]! := by
 simp only [ae, eS h]
theorem Bs (a b : List Int) (k : Nat) : (a ++ b)[a.length + k]! = b[k]! := by
 simp only [ae, List.getElem?_append_right (Nat.le_add_right _ _), Nat.add_sub_cancel_left]
theorem get_map (l : List T3) (k : Nat) (h : k < l.length) : (l.map fun x => x.a)[k]! = (l[k]!).a := by
 simp [h]
theorem yi (C : Pc) (k : Nat) (h : k < C.ins.length) : (cm C)[k]! = C.ins[k]! := by
 unfold cm
 rw [List.append_assoc, Bt _ _ _ h]
theorem OJ (C : Pc) (k : Nat) (h : k < C.aX.length) : (cm C)[C.ins.length + k]! = (C.aX[k]!).a := by
 unfold cm
 rw [List.append_assoc, Bs, Bt _ _ _ (by simpa using h), get_map _ _ h]
theorem OL (C : Pc) (k : Nat) (h : k < C.au.length) : (cm C)[C.ins.length + C.aX.length + k]! = (C.au[k]!).a := by
 have := Bs (C.ins ++ C.aX.map fun x => x.a) (C.au.map fun x => x.a) k
 rw [ai, ax] at this
 unfold cm
 rw [this, get_map _ _ h]
theorem Kk (C : Pc) : (cm C).length = C.ins.length + C.aX.length + C.au.length := by simp [cm]; omega
structure kT (C : Pc) : Prop where
 own : ∀ j : Nat, j < (cm C).length → jL C (cm C) j = true
 rst : ∀ j : Nat, j < C.aX.length → tG C.aX[j]! = true
 ris : ∀ j : Nat, j < C.au.length → 0 < j → (C.au[j - 1]!).a < (C.au[j]!).a
def DfP (C : Pc) (w : World) (e : Ending) (w' : World) : Prop := ((kT C ∧ ∃ g b n f, e = .returned (.pointer (some ⟨g, 0, none⟩)) ∧ Ms w' g b n f ∧ Dk f (cm C)) ∨ (¬ kT C ∧ e = eh)) ∧ Fr [] w w'
structure Df (w wr : World) (H : Hd) (C : Pc) (g b i : Nat) (f : Int → List UInt8) : Prop where
 cx : Cx w wr H C
 ms : Ms wr g b i f
 dk : Dk f ((cm C).take i)
 upto : xy C (cm C) i
theorem Df.keep {w wr w' : World} {H : Hd} {C : Pc} {g b i : Nat} {f : Int → List UInt8} (h : Df w wr H C g b i f) (hf : Fr [] wr w') : Df w w' H C g b i f := ⟨h.cx.keep hf, h.ms.keep hf, h.dk, h.upto⟩
theorem Df.put {w wr w' : World} {H : Hd} {C : Pc} {g b i : Nat} {f : Int → List UInt8} (h : Df w wr H C g b i f) (hi : i < (cm C).length) (hb : w.heap.size < b) (s : List UInt8) (hs : s.isEmpty = false)
  (ho : jL C (cm C) i = true) (hm : Ms w' g b (i + 1) (fun v => if v = (cm C)[i]! / 2 then s else f v)) (hf : Fr [b] wr w') : Df w w' H C g b (i + 1) (fun v => if v = (cm C)[i]! / 2 then s else f v) :=
 ⟨⟨h.cx.fr.trans hf (fun x hx => .inr (by simp at hx; omega)), hf.at_ h.cx.bx (by simp; omega)⟩, hm, by rw [kn _ _ hi]; exact h.dk.step _ _ hs, h.upto.step ho⟩
theorem GS {x y z : Int} {rb : Bool} (h : tG ⟨x, y, z⟩ = rb) : (rb = true ∧ (z = 0 ∨ (z ≠ 0 ∧ z = 1) ∨ (z ≠ 0 ∧ z ≠ 1 ∧ z = x))) ∨ (rb = false ∧ z ≠ 0 ∧ z ≠ 1 ∧ z ≠ x) := by
 subst h
 by_cases a1 : z = 0
 ·exact .inl ⟨by simp [tG, a1], .inl a1⟩
 ·by_cases a2 : z = 1
  ·exact .inl ⟨by simp [tG, a2], .inr (.inl ⟨a1, a2⟩)⟩
  ·by_cases a3 : z = x
   ·exact .inl ⟨by simp [tG, a3], .inr (.inr ⟨a1, a2, a3⟩)⟩
   ·exact .inr ⟨by simp [tG, a1, a2, a3], a1, a2, a3⟩
theorem Df.start (w : World) (H : Hd) (C : Pc) : Df w (((w.alloc (.cells (gH H C) 27)).alloc (.map #[] 0)).alloc (.cells #[.map (some (w.heap.size + 1))] 119)) H C (w.heap.size + 1 + 1) (w.heap.size + 1) 0 (fun _ => []) := by
 refine ⟨(((Cx.start w H C).keep (dO _ _)).keep (dO _ _)), ⟨?_, ?_⟩, ?_, fun j hj => absurd hj (aG _)⟩
 ·have := At.new ((w.alloc (.cells (gH H C) 27)).alloc (.map #[] 0)) 119 #[.map (some (w.heap.size + 1))]
  simpa using this
 ·have := (Met.new (w.alloc (.cells (gH H C) 27))).keep (dO _ (.cells #[.map (some (w.heap.size + 1))] 119))
  simpa using this
 ·rw [List.take_zero]; exact Dk.nil
theorem vV (w : World) (H : Hd) (C : Pc) (h : iE w H C) (h64 : C.ins.length ≤ 64) (h65 : C.aX.length ≤ 64) (vp : 0 ≤ C.mx) (lX : C.mx ≤ 2048) :
  Calls Tryz.prog 46 #[dn H C] w (DfP C w) := by
 have HH := aa h
 have hgL := h.gL
 clear h
 have NO : Hid (∀ W, ¬ kT C → Fr [] w W → DfP C w eh W) := fun W h1 h2 => ⟨.inr ⟨h1, rfl⟩, h2⟩
 have rI : Hid (∀ W g b n f, kT C → Ms W g b n f → Dk f (cm C) → Fr [] w W → DfP C w (.returned (.pointer (some ⟨g, 0, none⟩))) W) := fun W g b n f h1 h2 h3 h4 => ⟨.inl ⟨h1, g, b, n, f, rfl, h2, h3⟩, h4⟩
 have NOW : Hid (∀ j, j < (cm C).length → jL C (cm C) j = false → ¬ kT C) := fun j hj hb hd => by
  have := hd.own j hj
  rw [hb] at this; cases this
 have NRS : Hid (∀ j, j < C.aX.length → tG C.aX[j]! = false → ¬ kT C) := fun j hj hb hd => by
  have := hd.rst j hj
  rw [hb] at this; cases this
 have NRI : Hid (∀ j, j < C.au.length → 0 < j → ¬ (C.au[j - 1]!).a < (C.au[j]!).a → ¬ kT C) := fun j hj h0 hb hd => hb (hd.ris j hj h0)
 have kQ := aa (fun (h1 : ∀ j : Nat, j < (cm C).length → jL C (cm C) j = true) (h2 : ∀ j : Nat, j < C.aX.length → tG C.aX[j]! = true) (h3 : ∀ j : Nat, j < C.au.length → 0 < j → (C.au[j - 1]!).a < (C.au[j]!).a) => (⟨h1, h2, h3⟩ : kT C))
 have zD := aa (Kk C)
 have HOI := aa (yi C)
 have HOL := aa (OJ C)
 have HOA := aa (OL C)
 have HS := aa (Cx.start w H C)
 obtain ⟨mx, ins, aX, outs, aO, aN, au, bO⟩ := C
 obtain ⟨iA, iC, lA, lC, oA, oC, bA, bC, vA, vC, gA, gC, nA, nC⟩ := H
 simp only [dn, gH] at *
 have vO := @run_makeMap Tryz.prog
 have Vw := aa (Df.start w ⟨iA, iC, lA, lC, oA, oC, bA, bC, vA, vC, gA, gC, nA, nC⟩ ⟨mx, ins, aX, outs, aO, aN, au, bO⟩)
 simp only [gH] at Vw
 go_enter Tryz.func46, Tryz.ntmps46
 go_upto_region 2 with fail
 obtain ⟨W0, Mj⟩ : ∃ W, ((w.alloc (.cells #[.int .i64 mx, .slice iA ins.length iC, .slice lA aX.length lC, .slice oA outs.length oC, .slice bA aO.length bC, .slice vA aN.length vC, .slice gA au.length gC, .slice nA bO.length nC] 27)).alloc (.map #[] 0)).alloc (.cells #[.map (some (w.heap.size + 1))] 119) = W := ⟨_, rfl⟩
 rw [Mj] at Vw ⊢
 obtain ⟨gb, Yi⟩ : ∃ gb, w.heap.size + 1 = gb := ⟨_, rfl⟩
 rw [Yi] at Vw ⊢
 obtain ⟨ga, np⟩ : ∃ ga, gb + 1 = ga := ⟨_, rfl⟩
 rw [np] at Vw ⊢
 have Yj : ga ≠ gb := by omega
 have ug : w.heap.size < gb := by omega
 have oZ := aa Yj
 clear Mj np Yi vO Yj
 have hx := Vw.out.cx
 obtain ⟨c0, c1, c2, c3, c4, c5, c6, c7⟩ := hx.cells
 clear hx
 simp only at c0 c1 c2 c3 c4 c5 c6 c7
 go_wp2_with fail
 clear c0 c1 c2 c3 c4 c5 c6 c7
 go_loopg [16] ins.length (fun g i wr => ∃ (k : Nat) (f : Int → List UInt8), k + g = ins.length ∧ i = .int .i64 k ∧ Df w wr ⟨iA, iC, lA, lC, oA, oC, bA, bC, vA, vC, gA, gC, nA, nC⟩ ⟨mx, ins, aX, outs, aO, aN, au, bO⟩ ga gb k f)
 case atStart => exact ⟨0, _, by omega, rfl, Vw.out⟩
 case round =>
  clear Vw
  obtain ⟨k, f, hk, rfl, hx⟩ := hrel
  have HK := aa hk
  have HX := aa hx
  have j4 : k ≤ ins.length := by omega
  obtain ⟨c0, c1, c2, c3, c4, c5, c6, c7⟩ := hx.cx.cells
  clear hk hx
  simp only at c0 c1 c2 c3 c4 c5 c6 c7
  by_cases bM : k < ins.length
  ·obtain ⟨b, o, x, hA, he, cx, gP, iP⟩ := (HH.out.keep HX.out.cx.fr).i.one HH.out.ir bM
   simp only at hA
   subst hA
   have HO : Hid ((cm ⟨mx, ins, aX, outs, aO, aN, au, bO⟩)[k]! = x) := (HOI.out k bM).trans he.out
   have HJ : Hid (k < (cm ⟨mx, ins, aX, outs, aO, aN, au, bO⟩).length) := (by rw [zD.out]; omega : k < (cm ⟨mx, ins, aX, outs, aO, aN, au, bO⟩).length)
   have NL : Hid (sr f x mx = jL ⟨mx, ins, aX, outs, aO, aN, au, bO⟩ (cm ⟨mx, ins, aX, outs, aO, aN, au, bO⟩) k) := (by have := EF HX.out.upto HX.out.dk (by rw [HO.out]; exact ⟨gP, iP⟩); rw [HO.out] at this; exact this : sr f x mx = jL ⟨mx, ins, aX, outs, aO, aN, au, bO⟩ (cm ⟨mx, ins, aX, outs, aO, aN, au, bO⟩) k)
   obtain ⟨q, HQ⟩ : ∃ q, Hid (jL ⟨mx, ins, aX, outs, aO, aN, au, bO⟩ (cm ⟨mx, ins, aX, outs, aO, aN, au, bO⟩) k = q) := ⟨_, rfl⟩
   go_wp2_with fail
   cases q with
   | true =>
    refine (qJ wr ga gb k f x mx _ HX.out.ms oZ.out ⟨gP, iP⟩ (NL.out.trans HQ.out) (by simp [ByteArray.size]) (by omega)).mono ?_
    rintro e w2 ⟨rfl, hm, hf⟩
    have ie := aa (HX.out.put HJ.out ug [105] rfl HQ.out (by rw [HO.out]; exact hm) hf)
    clear hm hf c0 c1 c2 c3 c4 c5 c6 c7 cx
    go_wp2_with fail
    go_roundg (gk - 1)
    case measure => have := HK.out; omega
    case rel => exact ⟨k + 1, _, by have := HK.out; omega, by go_num, ie.out⟩
   | false =>
    refine (oH wr ga gb k f x mx _ HX.out.ms ⟨gP, iP⟩ (NL.out.trans HQ.out)).mono ?_
    unfold eh
    rintro e w2 ⟨rfl, rfl⟩
    go_wp2_with fail
    exact ⟨rfl, NO.out _ (NOW.out k HJ.out HQ.out) HX.out.cx.fr⟩
  ·obtain rfl : k = ins.length := by omega
   have zE := HX
   clear HX HK j4 bM
   go_wp2_with fail
   clear c0 c1 c2 c3 c4 c5 c6 c7
   go_loopg [29] aX.length (fun g i wr => ∃ (k : Nat) (f : Int → List UInt8), k + g = aX.length ∧ i = .int .i64 k ∧ Df w wr ⟨iA, iC, lA, lC, oA, oC, bA, bC, vA, vC, gA, gC, nA, nC⟩ ⟨mx, ins, aX, outs, aO, aN, au, bO⟩ ga gb (ins.length + k) f ∧ (∀ j, j < k → tG aX[j]! = true))
   case atStart => exact ⟨0, _, by omega, rfl, zE.out, fun j hj => absurd hj (aG _)⟩
   case round =>
    clear zE f
    obtain ⟨k, f, hk, rfl, hx, ja⟩ := hrel
    have HK := aa hk
    have HX := aa hx
    have qd := aa ja
    have j4 : k ≤ aX.length := by omega
    obtain ⟨c0, c1, c2, c3, c4, c5, c6, c7⟩ := hx.cx.cells
    clear hk hx ja
    simp only at c0 c1 c2 c3 c4 c5 c6 c7
    by_cases bM : k < aX.length
    ·obtain ⟨b, o, x, y, z, hA, he, cx, cy, cz, ⟨gP, iP⟩, ⟨gx, kg⟩, _, _⟩ := (HH.out.keep HX.out.cx.fr).l.one HH.out.lr bM
     simp only at hA
     subst hA
     have HO : Hid ((cm ⟨mx, ins, aX, outs, aO, aN, au, bO⟩)[ins.length + k]! = x) := (HOL.out k bM).trans (by rw [he.out])
     have HJ : Hid (ins.length + k < (cm ⟨mx, ins, aX, outs, aO, aN, au, bO⟩).length) := (by rw [zD.out]; omega : ins.length + k < (cm ⟨mx, ins, aX, outs, aO, aN, au, bO⟩).length)
     have NL : Hid (sr f x mx = jL ⟨mx, ins, aX, outs, aO, aN, au, bO⟩ (cm ⟨mx, ins, aX, outs, aO, aN, au, bO⟩) (ins.length + k)) := (by have := EF HX.out.upto HX.out.dk (by rw [HO.out]; exact ⟨gP, iP⟩); rw [HO.out] at this; exact this : sr f x mx = jL ⟨mx, ins, aX, outs, aO, aN, au, bO⟩ (cm ⟨mx, ins, aX, outs, aO, aN, au, bO⟩) (ins.length + k))
     obtain ⟨q, HQ⟩ : ∃ q, Hid (jL ⟨mx, ins, aX, outs, aO, aN, au, bO⟩ (cm ⟨mx, ins, aX, outs, aO, aN, au, bO⟩) (ins.length + k) = q) := ⟨_, rfl⟩
     go_upto_region 10 with fail
     obtain ⟨W1, ik⟩ : ∃ W, wr.alloc (.cells #[.int .i64 x, .int .i64 y, .int .i64 z] 62) = W := ⟨_, rfl⟩
     rw [ik]
     have hO : At W1 wr.heap.size 62 #[.int .i64 x, .int .i64 y, .int .i64 z] := ik ▸ At.new _ _ _
     have hG : Hid (Fr [] wr W1) := ik ▸ dO _ _
     have Zr : Hid (wr.heap.size ≠ gb) := fun e => Nat.lt_irrefl _ (e ▸ HX.out.ms.met.lt)
     clear ik c0 c1 c2 c3 c4 c5 c6 c7 cx cy cz
     generalize wr.heap.size = ob at hO Zr ⊢
     have ie := aa (HX.out.keep hG.out)
     have j7 := aa hO
     have n0 : W1.cell? ⟨ob, 0, none⟩ = some (.int .i64 x) := by rw [hO.cell]; rfl
     clear hO
     obtain ⟨c0, c1, c2, c3, c4, c5, c6, c7⟩ := ie.out.cx.cells
     simp only at c0 c1 c2 c3 c4 c5 c6 c7
     go_wp2_with fail
     cases q with
     | true =>
      refine (qJ W1 ga gb (ins.length + k) f x mx _ ie.out.ms oZ.out ⟨gP, iP⟩ (NL.out.trans HQ.out) (by simp [ByteArray.size]) (by omega)).mono ?_
      rintro e w2 ⟨rfl, hm, hf⟩
      have sB := aa (hf.at_ j7.out (by simp; exact Zr.out))
      have iU := aa (ie.out.put HJ.out ug [108] rfl HQ.out (by rw [HO.out]; exact hm) hf)
      clear hm hf c0 c1 c2 c3 c4 c5 c6 c7 n0
      have n0 : w2.cell? ⟨ob, 0, none⟩ = some (.int .i64 x) := by rw [sB.out.cell]; rfl
      have n2 : w2.cell? ⟨ob, 2, none⟩ = some (.int .i64 z) := by rw [sB.out.cell]; rfl
      obtain ⟨rb, Gy⟩ : ∃ rb, Hid (tG ⟨x, y, z⟩ = rb) := ⟨_, rfl⟩
      go_upto_region 11 with fail
      have hz := GS Gy.out
      rcases hz with ⟨rfl, z0 | ⟨z0, z1⟩ | ⟨z0, z1, z2⟩⟩ | ⟨rfl, z0, z1, z2⟩
      ·have b0 : (z == 0) = true := by simp [z0]
       clear z0
       go_wp2_with fail
       refine (fQ _).mono ?_
       rintro e w3 ⟨rfl, rfl⟩
       go_wp2_with fail
       go_roundg (gk - 1)
       case measure => have := HK.out; omega
       case rel => exact ⟨k + 1, _, by have := HK.out; omega, by go_num, iU.out, fun j hj => by
        by_cases ej : j = k
        ·subst ej; rw [he.out]; exact Gy.out
        ·exact qd.out j (by omega)⟩
      ·have b0 : (z == 0) = false := by simp [z0]
       have b1 : (z == 1) = true := by simp [z1]
       clear z0 z1
       go_wp2_with fail
       refine (fQ _).mono ?_
       rintro e w3 ⟨rfl, rfl⟩
       go_wp2_with fail
       go_roundg (gk - 1)
       case measure => have := HK.out; omega
       case rel => exact ⟨k + 1, _, by have := HK.out; omega, by go_num, iU.out, fun j hj => by
        by_cases ej : j = k
        ·subst ej; rw [he.out]; exact Gy.out
        ·exact qd.out j (by omega)⟩
      ·have b0 : (z == 0) = false := by simp [z0]
       have b1 : (z == 1) = false := by simp [z1]
       have b2 : (z == x) = true := by simp [z2]
       clear z0 z1 z2
       go_wp2_with fail
       refine (fQ _).mono ?_
       rintro e w3 ⟨rfl, rfl⟩
       go_wp2_with fail
       go_roundg (gk - 1)
       case measure => have := HK.out; omega
       case rel => exact ⟨k + 1, _, by have := HK.out; omega, by go_num, iU.out, fun j hj => by
        by_cases ej : j = k
        ·subst ej; rw [he.out]; exact Gy.out
        ·exact qd.out j (by omega)⟩
      ·have b0 : (z == 0) = false := by simp [z0]
       have b1 : (z == 1) = false := by simp [z1]
       have b2 : (z == x) = false := by simp [z2]
       clear z0 z1 z2
       go_wp2_with fail
       refine (dE _).mono ?_
       unfold eh
       rintro e w3 ⟨rfl, rfl⟩
       go_wp2_with fail
       exact ⟨rfl, NO.out _ (NRS.out k bM (by rw [he.out]; exact Gy.out)) iU.out.cx.fr⟩
     | false =>
      refine (oH W1 ga gb (ins.length + k) f x mx _ ie.out.ms ⟨gP, iP⟩ (NL.out.trans HQ.out)).mono ?_
      unfold eh
      rintro e w2 ⟨rfl, rfl⟩
      go_wp2_with fail
      exact ⟨rfl, NO.out _ (NOW.out _ HJ.out HQ.out) ie.out.cx.fr⟩
    ·obtain rfl : k = aX.length := by omega
     have zE := HX
     have HRT := qd
     clear HX HK j4 bM qd
     go_wp2_with fail
     clear c0 c1 c2 c3 c4 c5 c6 c7
     go_loopg [59] au.length (fun g i wr => ∃ (k : Nat) (f : Int → List UInt8), k + g = au.length ∧ i = .int .i64 k ∧ Df w wr ⟨iA, iC, lA, lC, oA, oC, bA, bC, vA, vC, gA, gC, nA, nC⟩ ⟨mx, ins, aX, outs, aO, aN, au, bO⟩ ga gb (ins.length + aX.length + k) f ∧ (∀ j, j < k → 0 < j → (au[j - 1]!).a < (au[j]!).a))
     case atStart => exact ⟨0, _, by omega, rfl, zE.out, fun j hj => absurd hj (aG _)⟩
     case round =>
      clear zE f
      obtain ⟨k, f, hk, rfl, hx, ja⟩ := hrel
      have HK := aa hk
      have HX := aa hx
      have qd := aa ja
      have j4 : k ≤ au.length := by omega
      obtain ⟨c0, c1, c2, c3, c4, c5, c6, c7⟩ := hx.cx.cells
      clear hk hx ja
      simp only at c0 c1 c2 c3 c4 c5 c6 c7
      by_cases bM : k < au.length
      ·obtain ⟨b, o, x, y, z, hA, he, cx, cy, cz, ⟨gP, iP⟩, ⟨gx, kg⟩, _, _⟩ := (HH.out.keep HX.out.cx.fr).g.one HH.out.gr bM
       simp only at hA
       subst hA
       have HO : Hid ((cm ⟨mx, ins, aX, outs, aO, aN, au, bO⟩)[ins.length + aX.length + k]! = x) := (HOA.out k bM).trans (by rw [he.out])
       have HJ : Hid (ins.length + aX.length + k < (cm ⟨mx, ins, aX, outs, aO, aN, au, bO⟩).length) := (by rw [zD.out]; omega : ins.length + aX.length + k < (cm ⟨mx, ins, aX, outs, aO, aN, au, bO⟩).length)
       have NL : Hid (sr f x mx = jL ⟨mx, ins, aX, outs, aO, aN, au, bO⟩ (cm ⟨mx, ins, aX, outs, aO, aN, au, bO⟩) (ins.length + aX.length + k)) := (by have := EF HX.out.upto HX.out.dk (by rw [HO.out]; exact ⟨gP, iP⟩); rw [HO.out] at this; exact this : sr f x mx = jL ⟨mx, ins, aX, outs, aO, aN, au, bO⟩ (cm ⟨mx, ins, aX, outs, aO, aN, au, bO⟩) (ins.length + aX.length + k))
       obtain ⟨q, HQ⟩ : ∃ q, Hid (jL ⟨mx, ins, aX, outs, aO, aN, au, bO⟩ (cm ⟨mx, ins, aX, outs, aO, aN, au, bO⟩) (ins.length + aX.length + k) = q) := ⟨_, rfl⟩
       go_upto_region 16 with fail
       obtain ⟨W1, ik⟩ : ∃ W, wr.alloc (.cells #[.int .i64 x, .int .i64 y, .int .i64 z] 69) = W := ⟨_, rfl⟩
       rw [ik]
       have hO : At W1 wr.heap.size 69 #[.int .i64 x, .int .i64 y, .int .i64 z] := ik ▸ At.new _ _ _
       have hG : Hid (Fr [] wr W1) := ik ▸ dO _ _
       have Zr : Hid (wr.heap.size ≠ gb) := fun e => Nat.lt_irrefl _ (e ▸ HX.out.ms.met.lt)
       clear ik c0 c1 c2 c3 c4 c5 c6 c7 cx cy cz
       generalize wr.heap.size = ob at hO Zr ⊢
       have ie := aa (HX.out.keep hG.out)
       have j7 := aa hO
       have n0 : W1.cell? ⟨ob, 0, none⟩ = some (.int .i64 x) := by rw [hO.cell]; rfl
       clear hO
       obtain ⟨c0, c1, c2, c3, c4, c5, c6, c7⟩ := ie.out.cx.cells
       simp only at c0 c1 c2 c3 c4 c5 c6 c7
       go_wp2_with fail
       cases q with
       | true =>
        refine (qJ W1 ga gb (ins.length + aX.length + k) f x mx _ ie.out.ms oZ.out ⟨gP, iP⟩ (NL.out.trans HQ.out) (by simp [ByteArray.size]) (by omega)).mono ?_
        rintro e w2 ⟨rfl, hm, hf⟩
        have sB := aa (hf.at_ j7.out (by simp; exact Zr.out))
        have iU := aa (ie.out.put HJ.out ug [97] rfl HQ.out (by rw [HO.out]; exact hm) hf)
        clear hm hf c0 c1 c2 c3 c4 c5 c6 c7 n0
        have n0 : w2.cell? ⟨ob, 0, none⟩ = some (.int .i64 x) := by rw [sB.out.cell]; rfl
        obtain ⟨c0, c1, c2, c3, c4, c5, c6, c7⟩ := iU.out.cx.cells
        simp only at c0 c1 c2 c3 c4 c5 c6 c7
        go_upto_region 17 with fail
        by_cases LN : 0 < k
        ·have hkz : ((k : Int) == 0) = false := by rw [beq_eq_false_iff_ne]; omega
         obtain ⟨j, rfl⟩ : ∃ j, k = j + 1 := ⟨k - 1, by omega⟩
         obtain ⟨b', o', x', y', z', zx, eG, MJ, oV, YW, ⟨S8, Xq⟩, _, _, _⟩ := (HH.out.keep iU.out.cx.fr).g.one HH.out.gr (show j < au.length by omega)
         simp only [Option.some.injEq, Addr.mk.injEq, and_true] at zx
         obtain ⟨rfl, rfl⟩ := zx
         clear oV YW
         have wj : IntKind.i64.wrap (j : Int) = j := IntWalk.i64_in _ (by omega)
         have wj1 : IntKind.i64.wrap ((j : Int) + 1 - 1) = j := by rw [Int.add_sub_cancel]; exact wj
         have hj1 : j < au.length := by omega
         have P1 : (j : Int) < (au.length : Int) := by omega
         have V0 : 0 ≤ (j : Int) := by omega
         have alQ : ((j : Int) + 1 == 0) = false := by rw [beq_eq_false_iff_ne]; omega
         clear wj1
         by_cases hr : x' < x
         ·have dr : decide (x' < x) = true := decide_eq_true hr
          have HR := aa hr
          clear hr
          go_still_tail 14, (by kernel_rfl)
          change wpList _ _ _ _ _ w2.drew
          have jH := aa (iU.out.keep (Fr.refl [] w2).drew)
          generalize w2.drew = w4 at jH ⊢
          clear c0 c1 c2 c3 c4 c5 c6 c7 n0 MJ
          go_wp2_with fail
          refine (fQ _).mono ?_
          rintro e w5 ⟨rfl, rfl⟩
          go_wp2_with fail
          have Od : Hid (∀ i, i < j + 2 → 0 < i → (au[i - 1]!).a < (au[i]!).a) := fun i hi h0 => by
           by_cases ei : i = j + 1
           ·subst ei; rw [eo, he.out, eG.out]; exact HR.out
           ·exact qd.out i (by omega) h0
          have ta : Hid (Df w w4 _ ⟨mx, ins, aX, outs, aO, aN, au, bO⟩ ga gb (ins.length + aX.length + (j + 2)) _) := jH.out
          go_roundg (gk - 1)
          case measure => have := HK.out; omega
          case rel =>
           refine ⟨j + 2, _, ?_, ?_, ta.out, Od.out⟩
           ·have := HK.out; omega
           ·go_num
         ·have dr : decide (x' < x) = false := decide_eq_false hr
          have HR : Hid (¬ (au[j + 1 - 1]!).a < (au[j + 1]!).a) := (by rw [eo, he.out, eG.out]; exact hr : ¬ (au[j + 1 - 1]!).a < (au[j + 1]!).a)
          have HND := aa (NRI.out (j + 1) bM LN (Int.not_lt.1 HR.out))
          clear hr
          go_still_tail 14, (by kernel_rfl)
          change wpList _ _ _ _ _ w2.drew
          have jH := aa (iU.out.keep (Fr.refl [] w2).drew)
          generalize w2.drew = w4 at jH ⊢
          clear c0 c1 c2 c3 c4 c5 c6 c7 n0 MJ
          go_wp2_with fail
          refine (dE _).mono ?_
          unfold eh
          rintro e w5 ⟨rfl, rfl⟩
          go_wp2_with fail
          exact ⟨rfl, NO.out _ HND.out jH.out.cx.fr⟩
        ·obtain rfl : k = 0 := by omega
         refine al (by kernel_rfl) (by kernel_rfl) ?_
         repeat (go_big_quiet_step (exact aV (fQ _)))
         refine wpQuiet_nil ?_
         rintro w4 ⟨u2, bJ⟩
         have bZ : Hid (Fr [] w2 w4) := bJ ▸ u2.fr
         clear bJ u2
         have jH := aa (iU.out.keep bZ.out)
         clear c0 c1 c2 c3 c4 c5 c6 c7 n0
         go_wp2_with fail
         go_roundg (gk - 1)
         case measure => have := HK.out; omega
         case rel =>
          refine ⟨1, _, ?_, ?_, jH.out, fun i hi h0 => absurd h0 (by omega)⟩
          ·have := HK.out; omega
          ·go_num
       | false =>
        refine (oH W1 ga gb (ins.length + aX.length + k) f x mx _ ie.out.ms ⟨gP, iP⟩ (NL.out.trans HQ.out)).mono ?_
        unfold eh
        rintro e w2 ⟨rfl, rfl⟩
        go_wp2_with fail
        exact ⟨rfl, NO.out _ (NOW.out _ HJ.out HQ.out) ie.out.cx.fr⟩
      ·obtain rfl : k = au.length := by omega
       have HT : Hid (∀ j : Nat, j < (cm ⟨mx, ins, aX, outs, aO, aN, au, bO⟩).length → jL ⟨mx, ins, aX, outs, aO, aN, au, bO⟩ (cm ⟨mx, ins, aX, outs, aO, aN, au, bO⟩) j = true) := fun j hj => HX.out.upto j (by rw [zD.out] at hj; exact hj)
       have HDK : Hid (Dk f (cm ⟨mx, ins, aX, outs, aO, aN, au, bO⟩)) := (by have := HX.out.dk; rw [← zD.out, fO] at this; exact this : Dk f (cm ⟨mx, ins, aX, outs, aO, aN, au, bO⟩))
       go_wp2_with fail
       go_ret
       exact rI.out _ _ _ _ _ (kQ.out HT.out HRT.out qd.out) HX.out.ms HDK.out HX.out.cx.fr
theorem EN (w : World) : (Instr.typeAssert (.iface 36 (.int .i64 9)) 20 36 true).run Tryz.prog w = .ok (.tuple #[.int .i64 9, .bool true]) w := by kernel_rfl
theorem I1 (w : World) : (Instr.typeAssert .nilIface 20 36 true).run Tryz.prog w = .ok (.tuple #[.int .i64 0, .bool false]) w := by kernel_rfl
theorem su (p : Addr) (x : Value) (Ri : List PanicEntry) (w : World) (hc : w.cell? p = some x) (hz : w.frozen? p = false) :
  CallsD Tryz.prog 44 #[.pointer (some p)] (.panicking ({ v := .iface 36 (.int .i64 9), recovered := false } :: Ri)) w fun e u' w' =>
   e = .returned (.tuple #[]) ∧ u' = .panicking ({ v := .iface 36 (.int .i64 9), recovered := true } :: Ri) ∧ w' = w.setCell p (.int .i64 9) := by
 refine callsD_of_wpS Tryz.func44 rfl fun c₀ cs hu => ?_
 apply wpS_seq
 apply wpS_region
 simp [wpOpsS, go_sem, recoverD, hu, Tryz.ntmps44, Exit.thenS, EN]
 apply wpS_seq
 apply wpS_region
 simp [wpOpsS, go_sem, Exit.thenS]
 refine wpS_cond (t := true) (by simp [Act.eval, Array.replicate]) ?_
 simp only [if_true]
 apply wpS_region
 simp [wpOpsS, go_sem, hc, hz, bodyPostS, results, Tryz.results44]
theorem EK (p : Addr) (w : World) :
  CallsD Tryz.prog 44 #[.pointer (some p)] .returning w fun e u' w' => e = .returned (.tuple #[]) ∧ u' = .returning ∧ w' = w := by
 refine callsD_of_wpS Tryz.func44 rfl fun c₀ cs hu => ?_
 apply wpS_seq
 apply wpS_region
 simp [wpOpsS, go_sem, recoverD, hu, Tryz.ntmps44, Exit.thenS, I1]
 apply wpS_seq
 apply wpS_region
 simp [wpOpsS, go_sem, Exit.thenS]
 refine wpS_cond (t := false) (by simp [Act.eval, Array.replicate]) ?_
 simp only [df, if_false]
 refine wpS_of_wp (wp_skip ?_)
 cases c₀
 simp_all [bodyPostS, results, Tryz.results44]
theorem pu {c : UInt8} (h : 0 ≤ dD c) : c = 105 ∨ c = 108 ∨ c = 111 ∨ c = 98 ∨ c = 99 := by
 by_cases e1 : c = 105
 ·exact .inl e1
 ·by_cases e2 : c = 108
  ·exact .inr (.inl e2)
  ·by_cases e3 : c = 111
   ·exact .inr (.inr (.inl e3))
   ·by_cases e4 : c = 98
    ·exact .inr (.inr (.inr (.inl e4)))
    ·by_cases e5 : c = 99
     ·exact .inr (.inr (.inr (.inr e5)))
     ·exfalso
      have n1 : ((105 : UInt8) == c) = false := by rw [beq_eq_false_iff_ne]; exact fun h => e1 h.symm
      have n2 : ((108 : UInt8) == c) = false := by rw [beq_eq_false_iff_ne]; exact fun h => e2 h.symm
      have n3 : ((111 : UInt8) == c) = false := by rw [beq_eq_false_iff_ne]; exact fun h => e3 h.symm
      have n4 : ((98 : UInt8) == c) = false := by rw [beq_eq_false_iff_ne]; exact fun h => e4 h.symm
      have n5 : ((99 : UInt8) == c) = false := by rw [beq_eq_false_iff_ne]; exact fun h => e5 h.symm
      simp [dD, Lib.indexByte, n1, n2, n3, n4, n5] at h
theorem ub (C : Pc) (k : ByteArray) : (∃ c, k = ⟨#[c]⟩ ∧ 0 ≤ dD c ∧ lG C k = lQ C k ∧ rk k = dD c) ∨ (lQ C k = -1 ∧ ¬ ((k.size : Int) = 1 ∧ 0 ≤ dD (kc k))) := by
 by_cases h : (k.size : Int) = 1 ∧ 0 ≤ dD (kc k)
 ·obtain ⟨c, hc⟩ := Fy h.1
  subst hc
  have hp : 0 ≤ dD c := h.2
  refine .inl ⟨c, rfl, hp, ?_, ?_⟩
  ·rcases pu hp with rfl | rfl | rfl | rfl | rfl <;> simp [lG, lQ]
  ·rcases pu hp with rfl | rfl | rfl | rfl | rfl <;> simp [rk, dD, Lib.indexByte]
 ·refine .inr ⟨?_, h⟩
  have ne : ∀ c : UInt8, 0 ≤ dD c → (k.toList == [c]) = false := fun c hc => by
   rw [beq_eq_false_iff_ne]
   intro e
   apply h
   rw [ByteArray.toList_eq] at e
   have hs : k = ⟨#[c]⟩ := by
    obtain ⟨⟨l⟩⟩ := k
    simp only at e
    rw [e]
   subst hs
   exact ⟨rfl, hc⟩
  have p1 : 0 ≤ dD 105 := by decide
  have p2 : 0 ≤ dD 108 := by decide
  have p3 : 0 ≤ dD 111 := by decide
  have p4 : 0 ≤ dD 98 := by decide
  have p5 : 0 ≤ dD 99 := by decide
  simp [lQ, ne 105 p1, ne 108 p2, ne 111 p3, ne 98 p4, ne 99 p5]
theorem tO (C : Pc) (x : Nm) : qx C x = qV C x := by
 unfold qx qV LW jr
 rcases ub C x.k with ⟨c, hk, hp, hc, _⟩ | ⟨hc, hn⟩
 ·have h1 : decide ((x.k.size : Int) = 1) = true := by rw [hk]; rfl
  have h2 : decide (0 ≤ dD (kc x.k)) = true := by rw [hk]; exact decide_eq_true hp
  rw [h1, h2, hc]
  simp only [Bool.true_and, Bool.and_assoc]
 ·have h1 : (decide ((x.k.size : Int) = 1) && decide (0 ≤ dD (kc x.k))) = false := by
   rw [Bool.eq_false_iff]
   intro h
   simp only [aD, decide_eq_true_eq] at h
   exact hn h
  rw [h1, hc]
  by_cases h0 : 0 ≤ x.i
  ·rw [decide_eq_false (show ¬ x.i < -1 by omega)]
   simp
  ·rw [decide_eq_false h0]
   simp
theorem MK {C : Pc} (h1 : C.ins.length ≤ 64) (h2 : C.aX.length ≤ 64) (h3 : C.outs.length ≤ 64) (h4 : C.aO.length ≤ 64) (h5 : C.aN.length ≤ 64) (k : ByteArray) : lQ C k ≤ 64 := by
 unfold lQ
 split
 ·omega
 ·split
  ·omega
  ·split
   ·omega
   ·split
    ·omega
    ·split <;> omega
theorem tR {C : Pc} {x : Nm} (h : qV C x = true) : ∃ c, x.k = ⟨#[c]⟩ ∧ 0 ≤ dD c ∧ rk x.k = dD c ∧ 0 ≤ x.i ∧ x.i < lQ C x.k := by
 simp only [qV, LW, aD, decide_eq_true_eq] at h
 obtain ⟨⟨⟨⟨h0, h1⟩, _⟩, _⟩, _⟩ := h
 rcases ub C x.k with ⟨c, hk, hp, _, hr⟩ | ⟨hc, _⟩
 ·exact ⟨c, hk, hp, hr, h0, h1⟩
 ·omega
theorem wS {C : Pc} {y x : Nm} (hl : ∀ k, lQ C k ≤ 64) (hy : qV C y = true) (hx : qV C x = true) : (pq y < pq x ↔ sI y x = false) := by
 obtain ⟨c1, k1, p1, r1, i1, j1⟩ := tR hy
 obtain ⟨c2, k2, p2, r2, i2, j2⟩ := tR hx
 have l1 := hl y.k
 have l2 := hl x.k
 have e1 : kc y.k = c1 := by rw [k1]; rfl
 have e2 : kc x.k = c2 := by rw [k2]; rfl
 have ek : (y.k.toList == x.k.toList) = decide (dD c1 = dD c2) := by
  rw [k1, k2, Ft, Ft]
  rcases pu p1 with rfl | rfl | rfl | rfl | rfl <;> rcases pu p2 with rfl | rfl | rfl | rfl | rfl <;> decide
 unfold pq sI
 rw [e1, e2, r1, r2, ek]
 simp only [fc, Bool.and_eq_false_iff, decide_eq_false_iff_not]
 omega
theorem qU {C : Pc} (hl : ∀ k, lQ C k ≤ 64) : eC C C.bO.length ↔ ym C = true := by
 rw [G7]
 constructor
 ·intro h j hj
  obtain ⟨h1, h2⟩ := h j hj
  rw [tO] at h1
  refine ⟨h1, fun h0 => ?_⟩
  have h3 := (h (j - 1) (by omega)).1
  rw [tO] at h3
  exact (wS hl h3 h1).1 (h2 h0)
 ·intro h j hj
  obtain ⟨h1, h2⟩ := h j hj
  refine ⟨by rw [tO]; exact h1, fun h0 => ?_⟩
  exact (wS hl (h (j - 1) (by omega)).1 h1).2 (h2 h0)
theorem OH {C : Pc} (h : ∀ j : Nat, j < (cm C).length → jL C (cm C) j = true) {x : Int} (hx : x ∈ cm C) : 2 ≤ x := by
 have := Ag (k := (cm C).length) h (x := x) (by rw [fO]; exact hx)
 exact this.1
theorem Hf (C : Pc) (h : ∀ x, x ∈ cm C → 2 ≤ x) (v : Int) (hv : v ≠ 0) : ou C v = true ↔ ∃ x ∈ cm C, x / 2 = v := by
 unfold ou
 rw [decide_eq_false hv]
 simp only [Bool.false_or, Bool.or_eq_true, List.any_eq_true]
 have hh : ∀ x, x ∈ cm C → (hit v x = true ↔ x / 2 = v) := fun x hx => by
  have := h x hx
  simp [hit, show 0 ≤ x by omega]
 constructor
 ·rintro ((⟨x, hx, e⟩ | ⟨x, hx, e⟩) | ⟨x, hx, e⟩)
  ·have hm : x ∈ cm C := by unfold cm; simp [hx]
   exact ⟨x, hm, (hh x hm).1 e⟩
  ·have hm : x.a ∈ cm C := by unfold cm; simp only [aj, bE]; exact .inl (.inr ⟨x, hx, rfl⟩)
   exact ⟨x.a, hm, (hh _ hm).1 e⟩
  ·have hm : x.a ∈ cm C := by unfold cm; simp only [aj, bE]; exact .inr ⟨x, hx, rfl⟩
   exact ⟨x.a, hm, (hh _ hm).1 e⟩
 ·rintro ⟨x, hm, e⟩
  have e' := (hh x hm).2 e
  unfold cm at hm
  simp only [aj, bE] at hm
  rcases hm with (hx | ⟨y, hy, rfl⟩) | ⟨y, hy, rfl⟩
  ·exact .inl (.inl ⟨x, hx, e'⟩)
  ·exact .inl (.inr ⟨y, hy, e'⟩)
  ·exact .inr ⟨y, hy, e'⟩
theorem SY {C : Pc} {f : Int → List UInt8} (h : kT C) (hd : Dk f (cm C)) {l : Int} (hr : dB l) : rg f l = fS C l := by
 unfold rg fS
 by_cases h0 : 0 ≤ l
 ·rw [decide_eq_true h0, Bool.true_and, Bool.true_and]
  by_cases h2 : l < 2
  ·have e : l / 2 = 0 := by omega
   rw [decide_eq_true h2, e]
   simp [ou]
  ·rw [decide_eq_false h2, Bool.false_or]
   have hv : l / 2 ≠ 0 := by omega
   have hR : dB (l / 2) := by unfold dB at hr ⊢; omega
   have h3 := Hf C (fun x hx => OH h.own hx) (l / 2) hv
   cases hk : ou C (l / 2) with
   | true =>
    obtain ⟨x, hx, e⟩ := h3.1 hk
    have : (f (l / 2)).isEmpty = false := by
     rw [Bool.eq_false_iff]
     intro h5
     exact (hd _ hR).1 h5 x hx e
    rw [this]; rfl
   | false =>
    have : (f (l / 2)).isEmpty = true := by
     rw [hd _ hR]
     intro x hx e
     have := h3.2 ⟨x, hx, e⟩
     rw [hk] at this; cases this
    rw [this]; rfl
 ·rw [decide_eq_false h0]; rfl
structure ReB (C : Pc) : Prop where
 aX : ∀ j : Nat, j < C.aX.length → fS C (C.aX[j]!).b = true
 au : ∀ j : Nat, j < C.au.length → fS C (C.au[j]!).b = true ∧ fS C (C.au[j]!).c = true ∧ (C.au[j]!).b < (C.au[j]!).a ∧ (C.au[j]!).c < (C.au[j]!).a
 o : C.outs.all (fS C) = true
 b : C.aO.all (fS C) = true
 v : C.aN.all (fS C) = true
 n : eC C C.bO.length
structure QJ (C : Pc) : Prop where
 m0 : 0 ≤ C.mx
 m1 : C.mx ≤ 2048
 i : C.ins.length ≤ 64
 l : C.aX.length ≤ 64
 o : C.outs.length ≤ 64
 b : C.aO.length ≤ 64
 v : C.aN.length ≤ 64
theorem Valid.lens {C : Pc} (h : Valid C) : QJ C := by
 have h1 := h.o
 have h2 := h.b
 have h3 := h.v
 simp only [sz, aD, decide_eq_true_eq] at h1 h2 h3
 exact ⟨h.m0, h.m1, h.i, h.l, by omega, by omega, by omega⟩
theorem Valid.YV {C : Pc} (h : Valid C) : kT C := by
 refine ⟨h.own, fun j hj => ?_, fun j hj h0 => ?_⟩
 ·have := h.aX j hj
  simp only [K0, aD] at this
  exact this.1
 ·have := h.au j hj
  simp only [EO, WK, if_neg (show ¬ j = 0 by omega), aD, decide_eq_true_eq] at this
  exact this.1.1.1.1
theorem Valid.reB {C : Pc} (h : Valid C) : ReB C := by
 have h1 := h.o
 have h2 := h.b
 have h3 := h.v
 have hL := h.lens
 simp only [sz, aD, decide_eq_true_eq] at h1 h2 h3
 refine ⟨fun j hj => ?_, fun j hj => ?_, h1.1, h2.1, h3.1, (qU (fun k => MK hL.i hL.l hL.o hL.b hL.v k)).2 h.n⟩
 ·have := h.aX j hj
  simp only [K0, aD] at this
  exact this.2
 ·have := h.au j hj
  simp only [EO, aD, decide_eq_true_eq] at this
  exact ⟨this.1.2, this.2, this.1.1.1.2, this.1.1.2⟩
theorem JW {C : Pc} (hL : QJ C) (hd : kT C) (hr : ReB C) : Valid C := by
 refine ⟨hL.m0, hL.m1, hL.i, hL.l, (qU (fun k => MK hL.i hL.l hL.o hL.b hL.v k)).1 hr.n, fun j hj => ?_, fun j hj => ?_, hd.own, ?_, ?_, ?_⟩
 ·simp only [K0, aD]
  exact ⟨hd.rst j hj, hr.aX j hj⟩
 ·obtain ⟨h1, h2, h3, h4⟩ := hr.au j hj
  by_cases h0 : j = 0
  ·simp [EO, WK, h0] at h1 h2 h3 h4 ⊢
   subst h0
   exact ⟨⟨⟨h3, h4⟩, h1⟩, h2⟩
  ·have h5 := hd.ris j hj (by omega)
   simp only [EO, WK, if_neg h0, aD, decide_eq_true_eq]
   exact ⟨⟨⟨⟨h5, h3⟩, h4⟩, h1⟩, h2⟩
 ·have := hL.o; simp only [sz, hr.o, Bool.true_and, decide_eq_true_eq]; omega
 ·have := hL.b; simp only [sz, hr.b, Bool.true_and, decide_eq_true_eq]; omega
 ·have := hL.v; simp only [sz, hr.v, Bool.true_and, decide_eq_true_eq]; omega
def SU (x y : Int) : Int := if y > x then y else x
def W6 (a b c d e : Int) : Int := SU (SU (SU (SU a b) c) d) e
theorem SS (x y n : Int) : SU x y ≤ n ↔ x ≤ n ∧ y ≤ n := by unfold SU; split <;> omega
theorem Kt (a b c d e n : Int) : W6 a b c d e ≤ n ↔ (((a ≤ n ∧ b ≤ n) ∧ c ≤ n) ∧ d ≤ n) ∧ e ≤ n := by simp only [W6, SS]
theorem Kc (w : World) (ts : Array TypeId) (t : TypeId) (a b c d e : Int) : (Builtin.max_ ts t #[.int .i64 a, .int .i64 b, .int .i64 c, .int .i64 d, .int .i64 e]).run Tryz.prog w = .ok (.int .i64 (W6 a b c d e)) w := by
 simp [Builtin.max_, Builtin.max2, W6, SU]
structure Kx (w wr : World) (H : Hd) (C : Pc) (r : Nat) : Prop where
 cx : Cx w wr H C
 rs : At wr r 36 #[.int .i64 0]
theorem Kx.keep {w wr w' : World} {H : Hd} {C : Pc} {r : Nat} (h : Kx w wr H C r) (hf : Fr [] wr w') : Kx w w' H C r := ⟨h.cx.keep hf, h.rs.keep hf⟩
theorem Kx.start (w : World) (H : Hd) (C : Pc) : Kx w ((w.alloc (.cells (gH H C) 27)).alloc (.cells #[.int .i64 0] 36)) H C (w.heap.size + 1) := by
 refine ⟨(Cx.start w H C).keep (dO _ _), ?_⟩
 have := At.new (w.alloc (.cells (gH H C) 27)) 36 #[.int .i64 0]
 simpa using this
theorem dI (R : Ending → World → Prop) (tmps : Array Value) (r : Nat) (wx : World) (h2 : tmps.getD 2 undef = .pointer (some ⟨r, 0, none⟩)) (hc : At wx r 36 #[.int .i64 0])
  (hR : R (.returned (.int .i64 9)) (wx.setCell ⟨r, 0, none⟩ (.int .i64 9))) :
  bodyPostD Tryz.prog Tryz.f22 R (Exit.panic [{ v := .iface 36 (.int .i64 9), recovered := false }])
   { tmps := tmps, defers := [{ target := Target.fn (Fn.func 44) #[.pointer (some ⟨r, 0, none⟩)], args := #[] }] } wx := by
 refine leaves_cons (f := 44) (args := #[.pointer (some ⟨r, 0, none⟩)]) (by simp) (by simp [go_sem]) ?_
 refine (su ⟨r, 0, none⟩ (.int .i64 0) [] _ (by rw [hc.cell]; rfl) (hc.frozen 0)).mono ?_
 rintro e u' vg ⟨rfl, rfl, rfl⟩
 have Bk : (wx.setCell ⟨r, 0, none⟩ (.int .i64 9)).cell? ⟨r, 0, none⟩ = some (.int .i64 9) := by
  have := (hc.cV 0 (.int .i64 9)).cell 0
  rw [this]; rfl
 have lW : (results Tryz.f22 tmps).run Tryz.prog (wx.setCell ⟨r, 0, none⟩ (.int .i64 9)) = .ok (.int .i64 9) (wx.setCell ⟨r, 0, none⟩ (.int .i64 9)) := by
  simp only [Array.getD_eq_getD_getElem?] at h2
  simp [results, Tryz.results22, go_sem, h2, Bk]
 exact ⟨_, lW, hR⟩
theorem Qu (R : Ending → World → Prop) (tmps : Array Value) (r : Nat) (wx : World) (h2 : tmps.getD 2 undef = .pointer (some ⟨r, 0, none⟩)) (hc : At wx r 36 #[.int .i64 0])
  (hR : R (.returned (.int .i64 0)) wx) :
  bodyPostD Tryz.prog Tryz.f22 R Exit.ret
   { tmps := tmps, defers := [{ target := Target.fn (Fn.func 44) #[.pointer (some ⟨r, 0, none⟩)], args := #[] }] } wx := by
 refine leaves_cons (f := 44) (args := #[.pointer (some ⟨r, 0, none⟩)]) (by simp) (by simp [go_sem]) ?_
 refine (EK ⟨r, 0, none⟩ _).mono ?_
 rintro e u' vg ⟨rfl, rfl, rfl⟩
 have Bk : vg.cell? ⟨r, 0, none⟩ = some (.int .i64 0) := by rw [hc.cell]; rfl
 have lW : (results Tryz.f22 tmps).run Tryz.prog vg = .ok (.int .i64 0) vg := by
  simp only [Array.getD_eq_getD_getElem?] at h2
  simp [results, Tryz.results22, go_sem, h2, Bk]
 exact ⟨_, lW, hR⟩
theorem EP {f : Int → List UInt8} {C : Pc} {xs : List Int} (hr : Ra xs) (h : ∀ l, dB l → rg f l = fS C l) : xs.all (rg f) = xs.all (fS C) := by
 rw [Bool.eq_iff_iff, List.all_eq_true, List.all_eq_true]
 have hh : ∀ x ∈ xs, rg f x = fS C x := fun x hx => by
  obtain ⟨j, hj, e⟩ := List.mem_iff_getElem.1 hx
  have := hr j hj
  rw [ae, af hj, e] at this
  exact h x this
 exact ⟨fun h1 x hx => by rw [← hh x hx]; exact h1 x hx, fun h1 x hx => by rw [hh x hx]; exact h1 x hx⟩
theorem j6 (w : World) (H : Hd) (C : Pc) (h : iE w H C) :
  Calls Tryz.prog 22 #[dn H C] w (NS C w) := by
 have HH := aa h
 have hmr := h.mr
 have hiL := h.iL
 have hlL := h.lL
 have hoL := h.oL
 have hbL := h.bL
 have hvL := h.vL
 have hgL := h.gL
 unfold dB at hmr
 obtain ⟨lX, rr⟩ := hmr
 clear h
 have Jo : Hid (∀ r wx, w.heap.size < r → Kx w wx H C r → ¬ Valid C → NS C w (.returned (.int .i64 9)) (wx.setCell ⟨r, 0, none⟩ (.int .i64 9))) := fun r wx hr hk hv => UE hv (hk.cx.fr.setCell (.inr (Nat.le_of_lt hr)) _)
 have rI : Hid (∀ r wx, w.heap.size < r → Kx w wx H C r → Valid C → NS C w (.returned (.int .i64 0)) (wx.setCell ⟨r, 0, none⟩ (.int .i64 0))) := fun r wx hr hk hv => QC hv (hk.cx.fr.setCell (.inr (Nat.le_of_lt hr)) _)
 have Ji := aa (Kx.start w H C)
 have VL := aa (fun h : Valid C => h.lens)
 have VD := aa (fun h : Valid C => h.YV)
 have VR := aa (fun h : Valid C => h.reB)
 have VO := aa (fun (h1 : QJ C) (h2 : kT C) (h3 : ReB C) => JW h1 h2 h3)
 have KD := aa (fun W hW h1 h2 h3 h4 => vV W H C hW h1 h2 h3 h4)
 have KN := aa (fun W hW => Ak W H C hW)
 have KL : Hid (∀ (f : Int → List UInt8), kT C → Dk f (cm C) → ∀ l, dB l → rg f l = fS C l) := fun f h1 h2 l hl => SY h1 h2 hl
 have hmf : ∀ (fn : Fn) (first cap : Array Value) (w : World), (Instr.makeFunc fn first cap).run Tryz.prog w = .ok (.func fn first cap) w := fun _ _ _ _ => rfl
 have XW := fun w ts t => Kc w ts t C.ins.length C.aX.length C.outs.length C.aO.length C.aN.length
 simp only [gH] at Ji
 obtain ⟨mx, ins, aX, outs, aO, aN, au, bO⟩ := C
 obtain ⟨iA, iC, lA, lC, oA, oC, bA, bC, vA, vC, gA, gC, nA, nC⟩ := H
 simp only [dn, gH] at *
 go_enter_defers Tryz.func22, Tryz.ntmps22
 go_upto_region 2 with fail
 obtain ⟨W0, Mj⟩ : ∃ W, (w.alloc (.cells #[.int .i64 mx, .slice iA ins.length iC, .slice lA aX.length lC, .slice oA outs.length oC, .slice bA aO.length bC, .slice vA aN.length vC, .slice gA au.length gC, .slice nA bO.length nC] 27)).alloc (.cells #[.int .i64 0] 36) = W := ⟨_, rfl⟩
 rw [Mj] at Ji ⊢
 obtain ⟨r, gU⟩ : ∃ r, w.heap.size + 1 = r := ⟨_, rfl⟩
 rw [gU] at Ji ⊢
 have hr : w.heap.size < r := by omega
 clear Mj gU
 have hx := Ji.out.cx
 obtain ⟨c0, c1, c2, c3, c4, c5, c6, c7⟩ := hx.cells
 clear hx
 simp only at c0 c1 c2 c3 c4 c5 c6 c7
 by_cases m0 : 0 ≤ mx
 ·have d0 : decide (0 ≤ mx) = true := decide_eq_true m0
  by_cases m1 : mx ≤ 2048
  ·have d1 : decide (mx ≤ 2048) = true := decide_eq_true m1
   obtain ⟨M, Oe⟩ : ∃ M, Hid (W6 ins.length aX.length outs.length aO.length aN.length = M) := ⟨_, rfl⟩
   rw [Oe.out] at XW
   by_cases m2 : M ≤ 64
   ·have d2 : decide (M ≤ 64) = true := decide_eq_true m2
    have hm5 := (Kt ins.length aX.length outs.length aO.length aN.length 64).1 (by rw [Oe.out]; exact m2)
    obtain ⟨⟨⟨⟨a1, a2⟩, a3⟩, a4⟩, a5⟩ := hm5
    have b1 : ins.length ≤ 64 := by omega
    have b2 : aX.length ≤ 64 := by omega
    have b3 : outs.length ≤ 64 := by omega
    have b4 : aO.length ≤ 64 := by omega
    have b5 : aN.length ≤ 64 := by omega
    have E9 : Hid (QJ ⟨mx, ins, aX, outs, aO, aN, au, bO⟩) := ⟨m0, m1, b1, b2, b3, b4, b5⟩
    clear a1 a2 a3 a4 a5
    go_wp2_with fail
    refine (fQ _).mono ?_
    rintro e w9 ⟨rfl, rfl⟩
    clear XW hmf
    go_wp2_with fail
    refine (KD.out _ (HH.out.keep Ji.out.cx.fr) b1 b2 m0 m1).mono ?_
    rintro e w1 ⟨YF, hf⟩
    have Cc := aa (Ji.out.keep hf)
    clear hf Ji c0 c1 c2 c3 c4 c5 c6 c7
    rcases YF with ⟨YA, g, b, n, f, rfl, AT, hdk⟩ | ⟨YA, rfl⟩
    ·have HDO := aa YA
     have Sl := aa AT
     have Wk := aa (KL.out f YA hdk)
     clear YA AT hdk
     have hx := Cc.out.cx
     obtain ⟨c0, c1, c2, c3, c4, c5, c6, c7⟩ := hx.cells
     clear hx
     simp only at c0 c1 c2 c3 c4 c5 c6 c7
     go_wp2_with fail
     clear c0 c1 c2 c3 c4 c5 c6 c7
     go_loopg [42] aX.length (fun gg i wr => ∃ k : Nat, k + gg = aX.length ∧ i = .int .i64 k ∧ Kx w wr ⟨iA, iC, lA, lC, oA, oC, bA, bC, vA, vC, gA, gC, nA, nC⟩ ⟨mx, ins, aX, outs, aO, aN, au, bO⟩ r ∧ Ms wr g b n f ∧ (∀ j, j < k → fS ⟨mx, ins, aX, outs, aO, aN, au, bO⟩ (aX[j]!).b = true))
     case atStart => exact ⟨0, by omega, rfl, Cc.out, Sl.out, fun j hj => absurd hj (aG _)⟩
     case round =>
      clear Cc Sl
      obtain ⟨k, hk, rfl, X8, AT, hl⟩ := hrel
      have HK := aa hk
      have HX := aa X8
      have HM := aa AT
      have HL := aa hl
      have j4 : k ≤ aX.length := by omega
      clear hk X8 AT hl
      by_cases bM : k < aX.length
      ·obtain ⟨bb, o, x, y, z, hA, he, cx, cy, cz, _, ⟨gx, kg⟩, _, _⟩ := (HH.out.keep HX.out.cx.fr).l.one HH.out.lr bM
       simp only at hA
       subst hA
       go_upto_region 7 with fail
       obtain ⟨W1, ik⟩ : ∃ W, wr.alloc (.cells #[.int .i64 x, .int .i64 y, .int .i64 z] 62) = W := ⟨_, rfl⟩
       rw [ik]
       have hO : At W1 wr.heap.size 62 #[.int .i64 x, .int .i64 y, .int .i64 z] := ik ▸ At.new _ _ _
       have dv : Hid (Fr [] wr W1) := ik ▸ dO _ _
       clear ik cx cy cz
       generalize wr.heap.size = ob at hO ⊢
       have n1 : W1.cell? ⟨ob, 1, none⟩ = some (.int .i64 y) := by rw [hO.cell]; rfl
       have hG := aa (HX.out.keep dv.out)
       have JT := aa (HM.out.keep dv.out)
       clear hO
       go_wp2_with fail
       refine (jY W1 g b n f y JT.out ⟨gx, kg⟩).mono ?_
       rw [Wk.out y ⟨gx, kg⟩]
       obtain ⟨q, HQ⟩ : ∃ q, Hid (fS ⟨mx, ins, aX, outs, aO, aN, au, bO⟩ y = q) := ⟨_, rfl⟩
       rw [HQ.out]
       rintro e w2 ⟨rfl, hf⟩
       have ie := aa (hG.out.keep hf)
       have E7 := aa (JT.out.keep hf)
       clear hf n1
       cases q with
       | true =>
        go_wp2_with fail
        refine (fQ _).mono ?_
        rintro e w9 ⟨rfl, rfl⟩
        have Vk : Hid (∀ j, j < k + 1 → fS ⟨mx, ins, aX, outs, aO, aN, au, bO⟩ (aX[j]!).b = true) := fun j hj => by
         by_cases ej : j = k
         ·subst ej; rw [he.out]; exact HQ.out
         ·exact HL.out j (by omega)
        go_wp2_with fail
        go_roundg (gk - 1)
        case measure => have := HK.out; omega
        case rel => exact ⟨k + 1, by have := HK.out; omega, by go_num, ie.out, E7.out, Vk.out⟩
       | false =>
        go_wp2_with fail
        refine (dE _).mono ?_
        unfold eh
        rintro e w9 ⟨rfl, rfl⟩
        go_wp2_with fail
        exact dI _ _ r _ rfl ie.out.rs (Jo.out r _ hr ie.out (fun hv => by have := (VR.out hv).aX k bM; rw [he.out] at this; rw [HQ.out] at this; cases this))
      ·obtain rfl : k = aX.length := by omega
       have Cc := HX
       have Sl := HM
       have HRL := HL
       clear HX HM HL HK j4 bM
       have hx := Cc.out.cx
       obtain ⟨c0, c1, c2, c3, c4, c5, c6, c7⟩ := hx.cells
       clear hx
       simp only at c0 c1 c2 c3 c4 c5 c6 c7
       go_wp2_with fail
       clear c0 c1 c2 c3 c4 c5 c6 c7
       go_loopg [55] au.length (fun gg i wr => ∃ k : Nat, k + gg = au.length ∧ i = .int .i64 k ∧ Kx w wr ⟨iA, iC, lA, lC, oA, oC, bA, bC, vA, vC, gA, gC, nA, nC⟩ ⟨mx, ins, aX, outs, aO, aN, au, bO⟩ r ∧ Ms wr g b n f ∧ (∀ j, j < k → fS ⟨mx, ins, aX, outs, aO, aN, au, bO⟩ (au[j]!).b = true ∧ fS ⟨mx, ins, aX, outs, aO, aN, au, bO⟩ (au[j]!).c = true ∧ (au[j]!).b < (au[j]!).a ∧ (au[j]!).c < (au[j]!).a))
       case atStart => exact ⟨0, by omega, rfl, Cc.out, Sl.out, fun j hj => absurd hj (aG _)⟩
       case round =>
        clear Cc Sl
        obtain ⟨k, hk, rfl, X8, AT, hl⟩ := hrel
        have HK := aa hk
        have HX := aa X8
        have HM := aa AT
        have HL := aa hl
        have j4 : k ≤ au.length := by omega
        clear hk X8 AT hl
        by_cases bM : k < au.length
        ·obtain ⟨bb, o, x, y, z, hA, he, cx, cy, cz, _, ⟨gx, kg⟩, ow, Co⟩ := (HH.out.keep HX.out.cx.fr).g.one HH.out.gr bM
         simp only at hA
         subst hA
         have HVA : Hid (Valid ⟨mx, ins, aX, outs, aO, aN, au, bO⟩ → fS ⟨mx, ins, aX, outs, aO, aN, au, bO⟩ y = true ∧ fS ⟨mx, ins, aX, outs, aO, aN, au, bO⟩ z = true ∧ y < x ∧ z < x) := fun hv => by
          have := (VR.out hv).au k bM
          rw [he.out] at this
          exact this
         go_upto_region 12 with fail
         obtain ⟨W1, ik⟩ : ∃ W, wr.alloc (.cells #[.int .i64 x, .int .i64 y, .int .i64 z] 69) = W := ⟨_, rfl⟩
         rw [ik]
         have hO : At W1 wr.heap.size 69 #[.int .i64 x, .int .i64 y, .int .i64 z] := ik ▸ At.new _ _ _
         have dv : Hid (Fr [] wr W1) := ik ▸ dO _ _
         clear ik cx cy cz
         generalize wr.heap.size = ob at hO ⊢
         have HO := aa hO
         have n1 : W1.cell? ⟨ob, 1, none⟩ = some (.int .i64 y) := by rw [hO.cell]; rfl
         have hG := aa (HX.out.keep dv.out)
         have JT := aa (HM.out.keep dv.out)
         clear hO
         go_wp2_with fail
         refine (jY W1 g b n f y JT.out ⟨gx, kg⟩).mono ?_
         rw [Wk.out y ⟨gx, kg⟩]
         obtain ⟨q, HQ⟩ : ∃ q, Hid (fS ⟨mx, ins, aX, outs, aO, aN, au, bO⟩ y = q) := ⟨_, rfl⟩
         rw [HQ.out]
         rintro e w2 ⟨rfl, hf⟩
         have ie := aa (hG.out.keep hf)
         have E7 := aa (JT.out.keep hf)
         have sB := aa (HO.out.keep hf)
         clear hf n1
         have n0 : w2.cell? ⟨ob, 0, none⟩ = some (.int .i64 x) := by rw [sB.out.cell]; rfl
         have n1 : w2.cell? ⟨ob, 1, none⟩ = some (.int .i64 y) := by rw [sB.out.cell]; rfl
         have n2 : w2.cell? ⟨ob, 2, none⟩ = some (.int .i64 z) := by rw [sB.out.cell]; rfl
         cases q with
         | true =>
          go_wp2_with fail
          refine (jY w2 g b n f z E7.out ⟨ow, Co⟩).mono ?_
          rw [Wk.out z ⟨ow, Co⟩]
          obtain ⟨p, HP⟩ : ∃ p, Hid (fS ⟨mx, ins, aX, outs, aO, aN, au, bO⟩ z = p) := ⟨_, rfl⟩
          rw [HP.out]
          rintro e w3 ⟨rfl, hf⟩
          have iU := aa (ie.out.keep hf)
          have HM3 := aa (E7.out.keep hf)
          have oK := aa (sB.out.keep hf)
          clear hf n0 n1 n2
          have n0 : w3.cell? ⟨ob, 0, none⟩ = some (.int .i64 x) := by rw [oK.out.cell]; rfl
          have n1 : w3.cell? ⟨ob, 1, none⟩ = some (.int .i64 y) := by rw [oK.out.cell]; rfl
          have n2 : w3.cell? ⟨ob, 2, none⟩ = some (.int .i64 z) := by rw [oK.out.cell]; rfl
          cases p with
          | true =>
           by_cases l1 : y < x
           ·have t1 : decide (y < x) = true := decide_eq_true l1
            by_cases l2 : z < x
            ·have t2 : decide (z < x) = true := decide_eq_true l2
             go_wp2_with fail
             refine (fQ _).mono ?_
             rintro e w9 ⟨rfl, rfl⟩
             have Vk : Hid (∀ j, j < k + 1 → fS ⟨mx, ins, aX, outs, aO, aN, au, bO⟩ (au[j]!).b = true ∧ fS ⟨mx, ins, aX, outs, aO, aN, au, bO⟩ (au[j]!).c = true ∧ (au[j]!).b < (au[j]!).a ∧ (au[j]!).c < (au[j]!).a) := fun j hj => by
              by_cases ej : j = k
              ·subst ej; rw [he.out]; exact ⟨HQ.out, HP.out, l1, l2⟩
              ·exact HL.out j (by omega)
             go_wp2_with fail
             go_roundg (gk - 1)
             case measure => have := HK.out; omega
             case rel => exact ⟨k + 1, by have := HK.out; omega, by go_num, iU.out, HM3.out, Vk.out⟩
            ·have t2 : decide (z < x) = false := decide_eq_false l2
             go_wp2_with fail
             refine (dE _).mono ?_
             unfold eh
             rintro e w9 ⟨rfl, rfl⟩
             go_wp2_with fail
             exact dI _ _ r _ rfl iU.out.rs (Jo.out r _ hr iU.out (fun hv => absurd (HVA.out hv).2.2.2 (by omega)))
           ·have t1 : decide (y < x) = false := decide_eq_false l1
            go_wp2_with fail
            refine (dE _).mono ?_
            unfold eh
            rintro e w9 ⟨rfl, rfl⟩
            go_wp2_with fail
            exact dI _ _ r _ rfl iU.out.rs (Jo.out r _ hr iU.out (fun hv => absurd (HVA.out hv).2.2.1 (by omega)))
          | false =>
           go_wp2_with fail
           refine (dE _).mono ?_
           unfold eh
           rintro e w9 ⟨rfl, rfl⟩
           go_wp2_with fail
           exact dI _ _ r _ rfl iU.out.rs (Jo.out r _ hr iU.out (fun hv => by have := (HVA.out hv).2.1; rw [HP.out] at this; cases this))
         | false =>
          go_wp2_with fail
          refine (dE _).mono ?_
          unfold eh
          rintro e w9 ⟨rfl, rfl⟩
          go_wp2_with fail
          exact dI _ _ r _ rfl ie.out.rs (Jo.out r _ hr ie.out (fun hv => by have := (HVA.out hv).1; rw [HQ.out] at this; cases this))
        ·obtain rfl : k = au.length := by omega
         have vz := HL
         clear HL HK j4 bM
         have hx := HX.out.cx
         obtain ⟨c0, c1, c2, c3, c4, c5, c6, c7⟩ := hx.cells
         clear hx
         simp only at c0 c1 c2 c3 c4 c5 c6 c7
         go_wp2_with fail
         refine (qL wr g b n f oA oC outs HM.out (HH.out.keep HX.out.cx.fr).o HH.out.or_ HH.out.oL).mono ?_
         rw [EP HH.out.or_ Wk.out]
         obtain ⟨qo, HQO⟩ : ∃ q, Hid (outs.all (fS ⟨mx, ins, aX, outs, aO, aN, au, bO⟩) = q) := ⟨_, rfl⟩
         rw [HQO.out]
         rintro e w2 ⟨rfl, hf⟩
         have ie := aa (HX.out.keep hf)
         have E7 := aa (HM.out.keep hf)
         clear hf c0 c1 c2 c3 c4 c5 c6 c7
         have hx := ie.out.cx
         obtain ⟨c0, c1, c2, c3, c4, c5, c6, c7⟩ := hx.cells
         clear hx
         simp only at c0 c1 c2 c3 c4 c5 c6 c7
         cases qo with
         | false =>
          go_wp2_with fail
          refine (dE _).mono ?_
          unfold eh
          rintro e w9 ⟨rfl, rfl⟩
          go_wp2_with fail
          exact dI _ _ r _ rfl ie.out.rs (Jo.out r _ hr ie.out (fun hv => by have := (VR.out hv).o; simp only at this; rw [HQO.out] at this; cases this))
         | true =>
          go_wp2_with fail
          refine (qL w2 g b n f bA bC aO E7.out (HH.out.keep ie.out.cx.fr).b HH.out.br HH.out.bL).mono ?_
          rw [EP HH.out.br Wk.out]
          obtain ⟨qb, HQB⟩ : ∃ q, Hid (aO.all (fS ⟨mx, ins, aX, outs, aO, aN, au, bO⟩) = q) := ⟨_, rfl⟩
          rw [HQB.out]
          rintro e w3 ⟨rfl, hf⟩
          have iU := aa (ie.out.keep hf)
          have HM3 := aa (E7.out.keep hf)
          clear hf c0 c1 c2 c3 c4 c5 c6 c7
          have hx := iU.out.cx
          obtain ⟨c0, c1, c2, c3, c4, c5, c6, c7⟩ := hx.cells
          clear hx
          simp only at c0 c1 c2 c3 c4 c5 c6 c7
          cases qb with
          | false =>
           go_wp2_with fail
           refine (dE _).mono ?_
           unfold eh
           rintro e w9 ⟨rfl, rfl⟩
           go_wp2_with fail
           exact dI _ _ r _ rfl iU.out.rs (Jo.out r _ hr iU.out (fun hv => by have := (VR.out hv).b; simp only at this; rw [HQB.out] at this; cases this))
          | true =>
           go_wp2_with fail
           refine (qL w3 g b n f vA vC aN HM3.out (HH.out.keep iU.out.cx.fr).v HH.out.vr HH.out.vL).mono ?_
           rw [EP HH.out.vr Wk.out]
           obtain ⟨qv, HQV⟩ : ∃ q, Hid (aN.all (fS ⟨mx, ins, aX, outs, aO, aN, au, bO⟩) = q) := ⟨_, rfl⟩
           rw [HQV.out]
           rintro e w4 ⟨rfl, hf⟩
           have jH := aa (iU.out.keep hf)
           clear hf c0 c1 c2 c3 c4 c5 c6 c7
           have hx := jH.out.cx
           obtain ⟨c0, c1, c2, c3, c4, c5, c6, c7⟩ := hx.cells
           clear hx
           simp only at c0 c1 c2 c3 c4 c5 c6 c7
           cases qv with
           | false =>
            go_wp2_with fail
            refine (dE _).mono ?_
            unfold eh
            rintro e w9 ⟨rfl, rfl⟩
            go_wp2_with fail
            exact dI _ _ r _ rfl jH.out.rs (Jo.out r _ hr jH.out (fun hv => by have := (VR.out hv).v; simp only at this; rw [HQV.out] at this; cases this))
           | true =>
            go_wp2_with fail
            refine (KN.out w4 (HH.out.keep jH.out.cx.fr)).mono ?_
            rintro e w5 ⟨qn, rfl, hqn, hf⟩
            have HQN := aa hqn
            have ta := aa (jH.out.keep hf)
            clear hf hqn c0 c1 c2 c3 c4 c5 c6 c7
            cases qn with
            | false =>
             go_wp2_with fail
             refine (dE _).mono ?_
             unfold eh
             rintro e w9 ⟨rfl, rfl⟩
             go_wp2_with fail
             exact dI _ _ r _ rfl ta.out.rs (Jo.out r _ hr ta.out (fun hv => by have := HQN.out.2 (VR.out hv).n; cases this))
            | true =>
             go_wp2_with fail
             refine (fQ _).mono ?_
             rintro e w9 ⟨rfl, rfl⟩
             have hc := ta.out.rs.cell 0
             have hz := ta.out.rs.frozen 0
             simp at hc
             go_wp2_with fail
             have qd := ta.out.rs.cV 0 (.int .i64 0)
             simp at qd
             exact Qu _ _ r _ rfl qd (rI.out r _ hr ta.out (VO.out E9.out HDO.out ⟨HRL.out, vz.out, HQO.out, HQB.out, HQV.out, HQN.out.1 (by simp)⟩))
    ·unfold eh
     go_wp2_with fail
     exact dI _ _ r _ rfl Cc.out.rs (Jo.out r _ hr Cc.out (fun hv => YA (VD.out hv)))
   ·have d2 : decide (M ≤ 64) = false := decide_eq_false m2
    have Zs : Hid (¬ Valid ⟨mx, ins, aX, outs, aO, aN, au, bO⟩) := fun hv => by
     have hl := VL.out hv
     have h1 := hl.i
     have h2 := hl.l
     have h3 := hl.o
     have h4 := hl.b
     have h5 := hl.v
     simp only at h1 h2 h3 h4 h5
     exact m2 (by rw [← Oe.out, Kt]; omega)
    go_wp2_with fail
    refine (dE _).mono ?_
    unfold eh
    rintro e w9 ⟨rfl, rfl⟩
    go_wp2_with fail
    exact dI _ _ r _ rfl Ji.out.rs (Jo.out r _ hr Ji.out (Zs.out))
  ·have d1 : decide (mx ≤ 2048) = false := decide_eq_false m1
   have Zs : Hid (¬ Valid ⟨mx, ins, aX, outs, aO, aN, au, bO⟩) := fun hv => by
    have hl := (VL.out hv).m1
    simp only at hl
    omega
   go_wp2_with fail
   refine (dE _).mono ?_
   unfold eh
   rintro e w9 ⟨rfl, rfl⟩
   go_wp2_with fail
   exact dI _ _ r _ rfl Ji.out.rs (Jo.out r _ hr Ji.out (Zs.out))
 ·have d0 : decide (0 ≤ mx) = false := decide_eq_false m0
  have Zs : Hid (¬ Valid ⟨mx, ins, aX, outs, aO, aN, au, bO⟩) := fun hv => by
   have hl := (VL.out hv).m0
   simp only at hl
   omega
  go_wp2_with fail
  refine (dE _).mono ?_
  unfold eh
  rintro e w9 ⟨rfl, rfl⟩
  go_wp2_with fail
  exact dI _ _ r _ rfl Ji.out.rs (Jo.out r _ hr Ji.out (Zs.out))
def rW (eu x : Int) : Bool := decide (x < 0) || decide (eu < x / 2)
theorem OU (w : World) (a b : Nat) (eu x : Int) (h1 : w.cell? ⟨a, 0, none⟩ = some (.bool false)) (h2 : w.cell? ⟨b, 0, none⟩ = some (.int .i64 eu)) (hr : dB x) :
  Calls Tryz.prog 89 #[.int .i64 x, .pointer (some ⟨a, 0, none⟩), .pointer (some ⟨b, 0, none⟩)] w fun e w' => e = .returned (.bool (rW eu x)) ∧ Fr [] w w' := by
 unfold dB at hr
 obtain ⟨FU, lW⟩ := hr
 have e1 := Ext.cell h1
 have e2 := Ext.cell h2
 have hK : Hid (∀ s, rW eu x = s → Ending.returned (.bool s) = .returned (.bool (rW eu x))) := fun s h => by rw [h]
 by_cases l0 : x < 0
 ·have d0 : decide (x < 0) = true := decide_eq_true l0
  have HB : Hid (rW eu x = true) := (by simp [rW, d0] : rW eu x = true)
  have KV := aa (fun W => tU W x l0)
  go_enter Tryz.func89, Tryz.ntmps89
  go_wp2_with fail
  refine al (by kernel_rfl) (by kernel_rfl) ?_
  repeat (go_big_quiet_step (exact aV (KV.out _)))
  refine wpQuiet_nil ?_
  rintro w2 ⟨u2, bJ⟩
  have aT : Hid (Fr [] w w2) := bJ ▸ u2.fr
  clear bJ u2
  go_wp2_with fail
  go_ret
  exact ⟨hK.out _ HB.out, aT.out⟩
 ·have d0 : decide (x < 0) = false := decide_eq_false l0
  have KV := aa (fun W => ii W x (by omega) lW)
  obtain ⟨q, HQ⟩ : ∃ q, Hid (decide (eu < x / 2) = q) := ⟨_, rfl⟩
  have HB : Hid (rW eu x = q) := (by simp only [rW, d0, HQ.out, Bool.false_or] : rW eu x = q)
  have dq := HQ.out
  cases q with
  | true =>
   go_enter Tryz.func89, Tryz.ntmps89
   go_wp2_with fail
   refine al (by kernel_rfl) (by kernel_rfl) ?_
   repeat (go_big_quiet_step (exact aV (KV.out _)))
   refine wpQuiet_nil ?_
   rintro w2 ⟨u2, bJ⟩
   have aT : Hid (Fr [] w w2) := bJ ▸ u2.fr
   clear bJ u2
   go_wp2_with fail
   go_ret
   exact ⟨hK.out _ HB.out, aT.out⟩
  | false =>
   go_enter Tryz.func89, Tryz.ntmps89
   go_wp2_with fail
   refine al (by kernel_rfl) (by kernel_rfl) ?_
   repeat (go_big_quiet_step (exact aV (KV.out _)))
   refine wpQuiet_nil ?_
   rintro w2 ⟨u2, bJ⟩
   have aT : Hid (Fr [] w w2) := bJ ▸ u2.fr
   clear bJ u2
   go_wp2_with fail
   go_ret
   exact ⟨hK.out _ HB.out, aT.out⟩
def OZ (eu : Int) (xs : List Int) : Bool := xs.all fun x => decide (0 ≤ x) && decide (x ≤ 2 * eu + 1)
theorem SM (eu : Int) (xs : List Int) : (xs.any (rW eu)) = !OZ eu xs := by
 unfold OZ
 rw [List.not_all_eq_any_not]
 congr 1
 funext x
 unfold rW
 rw [Bool.eq_iff_iff]
 simp
 omega
def Xd (b : Bool) : Int := if b then 0 else 4
theorem yu (w : World) (eu : Int) (A : Option Addr) (c : Nat) (xs : List Int) (h0 : 0 ≤ eu) (h1 : eu ≤ 2048) (hx : Rd w A xs) (hr : Ra xs) (hl : xs.length ≤ 17592186044416) :
  Calls Tryz.prog 52 #[.int .i64 eu, .slice A xs.length c] w fun e w' => e = .returned (.int .i64 (Xd (OZ eu xs))) ∧ Fr [] w w' := by
 have hmf : ∀ (fn : Fn) (first cap : Array Value) (w : World), (Instr.makeFunc fn first cap).run Tryz.prog w = .ok (.func fn first cap) w := fun _ _ _ _ => rfl
 have d0 : decide (eu < 0) = false := decide_eq_false (by omega)
 have d1 : decide (2048 < eu) = false := decide_eq_false (by omega)
 have hK : Hid (∀ s, Xd (OZ eu xs) = s → Ending.returned (.int .i64 s) = .returned (.int .i64 (Xd (OZ eu xs)))) := fun s h => by rw [h]
 have HX := aa hx
 have HR := aa hr
 clear hx hr
 go_enter Tryz.func52, Tryz.ntmps52
 go_upto_region 2 with fail
 obtain ⟨W0, Mj⟩ : ∃ W, (w.alloc (.cells #[.int .i64 eu] 3)).alloc (.cells #[.bool false] 4) = W := ⟨_, rfl⟩
 rw [Mj]
 have Ce : Hid (Fr [] w W0) := Mj ▸ ((dO _ _).ag (dO _ _))
 have hb : At W0 w.heap.size 3 #[.int .i64 eu] := Mj ▸ (At.new w _ _).alloc _
 have ha : At W0 (w.heap.size + 1) 4 #[.bool false] := by
  rw [← Mj]
  have := At.new (w.alloc (.cells #[.int .i64 eu] 3)) 4 #[.bool false]
  simpa using this
 have KC := aa (fT W0 A c xs 89 #[.pointer (some ⟨w.heap.size + 1, 0, none⟩), .pointer (some ⟨w.heap.size, 0, none⟩)] (rW eu) MF (HX.out.keep Ce.out) HR.out hl
  (fun W hW x _ hx => OU W _ _ eu x (hW.av (by rw [ha.cell]; rfl)) (hW.av (by rw [hb.cell]; rfl)) hx))
 clear Mj ha hb
 go_wp2_with fail
 refine KC.out.mono ?_
 rw [SM]
 obtain ⟨q, HQ⟩ : ∃ q, Hid (OZ eu xs = q) := ⟨_, rfl⟩
 rw [HQ.out]
 rintro e w2 ⟨rfl, hf⟩
 have HF := aa (Ce.out.ag hf)
 clear hf
 cases q with
 | true =>
  go_wp2_with fail
  go_ret
  exact ⟨hK.out _ (by rw [HQ.out]; rfl), HF.out⟩
 | false =>
  go_wp2_with fail
  go_ret
  exact ⟨hK.out _ (by rw [HQ.out]; rfl), HF.out⟩
end Go.Proofs.YtpjbaobgnhjgoaaGreat
