/- Parts of a proof. -/
import Derived.Test.YtpjbaobgnhjgoaaGreatGAN
import Derived.Deep.CutRange
import Derived.Laws.AppendOwnNone
import Derived.Lib.AppendZeros
set_option linter.unusedVariables false
set_option linter.unusedSimpArgs false
set_option maxHeartbeats 8000000
set_option maxRecDepth 100000
namespace Go.Proofs.YtpjbaobgnhjgoaaGreat
open Go.RowKit
def Pm (A : Option Addr) (c : Nat) (xs RES : List Int) (w w' : World) : Prop := ∃ ys : List Int, ys.Perm xs ∧ Ints w' A c ys ∧ Fr (ah A) w w' ∧ ys = RES
theorem B9.pm {A : Option Addr} {c : Nat} {xs RES : List Int} {w w' : World} {e : Ending} (h : B9 A c xs RES w e w') : e = .returned (.tuple #[]) ∧ Pm A c xs RES w w' := h
theorem Pm.pmp {A : Option Addr} {c : Nat} {xs RES : List Int} {w w' : World} (h : Pm A c xs RES w w') : B9 A c xs RES w (.returned (.tuple #[])) w' := ⟨rfl, h⟩
theorem Pm.step {A : Option Addr} {c : Nat} {xs ys RES : List Int} {w w' vg : World} (hp : ys.Perm xs) (hf : Fr (ah A) w w') (h : Pm A c ys RES w' vg) : Pm A c xs RES w vg := by
 obtain ⟨zs, h1, h2, h3, h4⟩ := h
 exact ⟨zs, h1.trans hp, h2, hf.ag h3, h4⟩
theorem xR (g : Nat) (cb : Array Value) (q : Int → Int → Int) (eg : ∀ args w, (callFunc g args).run Tryz.prog w = .ok (.enter g args) w) (w : World) (A : Option Addr) (c : Nat) (xs : List Int) (h : Ints w A c xs) (hl : xs.length ≤ 17592186044416) (a m b : Nat) (uq : a < m) (vP : m < b) (qI : b ≤ xs.length) (hc : wz g cb q A xs w) (h1 : m - a = 1) (N : Nat) :
  Calls Tryz.prog 180 #[.slice A xs.length c, .int .i64 a, .int .i64 m, .int .i64 b, .func (.func g) #[] cb] w (B9 A c xs (iJ q (N + 1) xs a m b) w) := by
 obtain ⟨t, ht⟩ : ∃ t : Nat → Bool, (fun h => decide (q xs[h]! xs[a]! < 0)) = t := ⟨_, rfl⟩
 have HT : Hid (∀ h, t h = decide (q xs[h]! xs[a]! < 0)) := fun h => by rw [← ht]
 obtain ⟨wg, ux⟩ : ∃ I, pV t b m b = I := ⟨_, rfl⟩
 obtain ⟨RES, co⟩ : ∃ R, iJ q (N + 1) xs a m b = R := ⟨_, rfl⟩
 have dC : Hid (nO (wg - 1 - a) a xs = RES) := (by rw [← co, J3 h1, ht, ux] : _ = _)
 rw [co]
 have Ny := aa ux
 clear ht ux co
 obtain ⟨ga, hA, ru⟩ := h.pos (i := a) (by omega)
 subst hA
 have HH := aa h
 have HC := aa hc
 have KC : Hid (∀ (wr : World), Fr [] w wr → ∀ i j : Nat, i < xs.length → j < xs.length → ∀ u : Ext wr, Calls Tryz.prog g (#[.int .i64 xs[i]!, .int .i64 xs[j]!] ++ cb) u.v fun e W' => e = .returned (.int .i64 (q xs[i]! xs[j]!)) ∧ Fr [] u.v W') := fun wr hf i j hi hj u => HC.out u.v ((hf.ag u.fr).mono (fun k hk => by cases hk)) _ (bw hi) _ (bw hj)
 have CE : Hid (∀ (wr : World), Fr [] w wr → ∀ i : Nat, i < xs.length → ∀ u : Ext wr, u.v.cell? ⟨ga, i, none⟩ = some (.int .i64 xs[i]!)) := fun wr hf i hi u => (HH.out.eE (hf.ag u.fr)).cell hi
 obtain ⟨d1, Ef⟩ : ∃ d, m - a = d := ⟨_, rfl⟩
 obtain ⟨d2, sS⟩ : ∃ d, b - m = d := ⟨_, rfl⟩
 have w0 : IntKind.i64.wrap ((m : Int) - (a : Int)) = (d1 : Int) := by rw [IntWalk.i64_in _ (by omega)]; omega
 have w1 : IntKind.i64.wrap ((b : Int) - (m : Int)) = (d2 : Int) := by rw [IntWalk.i64_in _ (by omega)]; omega
 clear h hc
 obtain rfl : d1 = 1 := by omega
 go_enter Tryz.func180, Tryz.ntmps180
 go_wp2_with fail
 clear w0 w1
 go_loopg [10, 11] (b - m) (fun g wD xC wr => ∃ (i j : Nat), j = i + g ∧ m ≤ i ∧ j ≤ b ∧ wD = .int .i64 i ∧ xC = .int .i64 j ∧ Hid (Fr [] w wr) ∧ Hid (∃ f, j - i ≤ f ∧ pV t f i j = wg))
 case atStart => exact ⟨m, b, by omega, by omega, by omega, rfl, rfl, Fr.refl _ _, ⟨b, by omega, Ny.out⟩⟩
 case round =>
  obtain ⟨i, j, hg, hi, hj, rfl, rfl, HF, HE⟩ := hrel
  have HG := aa hg
  have aeb : i ≤ j := by omega
  clear hg
  by_cases rt : i < j
  ·have w2 : IntKind.i64.wrap ((i : Int) + (j : Int)) = (i : Int) + (j : Int) := IntWalk.i64_in _ (by omega)
   obtain ⟨h, hh⟩ : ∃ h : Nat, ((i : Int) + (j : Int)) / 2 = (h : Int) := ⟨(i + j) / 2, by omega⟩
   have h0 : i ≤ h := by omega
   have h1 : h < j := by omega
   have hx : (h : Int) < (xs.length : Int) := by omega
   have hax : (a : Int) < (xs.length : Int) := by omega
   have w3 : IntKind.i64.wrap ((h : Int) + 1) = (h : Int) + 1 := IntWalk.i64_in _ (by omega)
   have xB : Hid (q xs[h]! xs[a]! < 0 → ∃ f, j - (h + 1) ≤ f ∧ pV t f (h + 1) j = wg) := fun hq => by
    obtain ⟨f, f1, f2⟩ := HE.out
    rw [zc (h := h) (by omega) rt (by omega) (by rw [HT.out]; exact decide_eq_true hq)] at f2
    exact ⟨f - 1, by omega, f2⟩
   have tj : Hid (¬ q xs[h]! xs[a]! < 0 → ∃ f, h - i ≤ f ∧ pV t f i h = wg) := fun hq => by
    obtain ⟨f, f1, f2⟩ := HE.out
    rw [EL (h := h) (by omega) rt (by omega) (by rw [HT.out]; exact decide_eq_false hq)] at f2
    exact ⟨f - 1, by omega, f2⟩
   have rK := aa (KC.out wr HF.out h a (by omega) (by omega))
   have e1 := CE.out wr HF.out h (by omega)
   have e2 := CE.out wr HF.out a (by omega)
   obtain ⟨x, FP⟩ : ∃ x, xs[h]! = x := ⟨_, rfl⟩
   obtain ⟨y, xc⟩ : ∃ y, xs[a]! = y := ⟨_, rfl⟩
   rw [FP] at e1 rK xB tj
   rw [xc] at e2 rK xB tj
   obtain ⟨r, hr⟩ : ∃ r, q x y = r := ⟨_, rfl⟩
   rw [hr] at rK xB tj
   have H2 := aa hh
   clear FP xc hr
   go_upto_region 5 with fail
   clear hh
   have hh := H2.out
   try rw [hh]
   clear hh
   by_cases gU : r < 0
   ·have hd : decide (r < 0) = true := decide_eq_true gU
    have Cf := aa (xB.out gU)
    clear xB tj
    refine al (by kernel_rfl) (by kernel_rfl) ?_
    repeat (go_big_quiet_step (exact bN (rK.out _)))
    refine wpQuiet_nil ?_
    rintro w4 ⟨u2, bJ⟩
    have bZ : Hid (Fr [] wr w4) := bJ ▸ u2.fr
    clear bJ u2
    have cJ := aa (HF.out.ag bZ.out)
    clear e1 e2 HF bZ rK
    go_wp2_with fail
    go_roundg (j - (h + 1))
    case measure => have := HG.out; omega
    case rel => exact ⟨h + 1, j, by omega, by omega, by omega, by go_num, rfl, cJ.out, Cf.out⟩
   ·have FU : 0 ≤ r := by omega
    have hd : decide (r < 0) = false := decide_eq_false gU
    have Cf := aa (tj.out gU)
    clear xB tj
    refine al (by kernel_rfl) (by kernel_rfl) ?_
    repeat (go_big_quiet_step (exact bN (rK.out _)))
    refine wpQuiet_nil ?_
    rintro w4 ⟨u2, bJ⟩
    have bZ : Hid (Fr [] wr w4) := bJ ▸ u2.fr
    clear bJ u2
    have cJ := aa (HF.out.ag bZ.out)
    clear e1 e2 HF bZ rK
    go_wp2_with fail
    go_roundg (h - i)
    case measure => have := HG.out; omega
    case rel => exact ⟨i, h, by omega, by omega, by omega, rfl, rfl, cJ.out, Cf.out⟩
  ·have AX : wg = i := by
    obtain ⟨f, f1, f2⟩ := HE.out
    rw [zd rt] at f2
    exact f2.symm
   obtain ⟨p, hp⟩ : ∃ p, i - 1 = p := ⟨_, rfl⟩
   have U9 : Hid (nO (p - a) a xs = RES) := (by have := dC.out; rw [AX, hp] at this; exact this : _ = _)
   clear AX HE
   have w2 : IntKind.i64.wrap ((i : Int) - 1) = (p : Int) := by rw [IntWalk.i64_in _ (by omega)]; omega
   have hpb : p < b := by omega
   have amp : a ≤ p := by omega
   clear hp dC
   have Sp := aa (HH.out.eE HF.out)
   have Ce : Hid (Fr (ah (some ⟨ga, 0, none⟩)) w wr) := HF.out.mono (fun k hk => by cases hk)
   clear HF
   go_wp2_with fail
   go_loopg [13] (p - a) (fun g NT wr => ∃ (k : Nat) (ys : List Int), p = k + g ∧ a ≤ k ∧ NT = .int .i64 k ∧ Hid (ys.Perm xs) ∧ Hid (Ints wr (some ⟨ga, 0, none⟩) c ys) ∧ Hid (Fr (ah (some ⟨ga, 0, none⟩)) w wr) ∧ Hid (nO (p - k) k ys = RES))
   case atStart => exact ⟨a, xs, by omega, by omega, rfl, cN _, Sp.out, Ce.out, U9.out⟩
   case round =>
    obtain ⟨k, ys, hg, hk, rfl, HP, HI, HF, HE⟩ := hrel
    have rN := aa hg
    have hlen := HP.out.length_eq
    clear hg Sp Ce
    by_cases vt : k < p
    ·obtain ⟨k1, Ec⟩ : ∃ k1, k + 1 = k1 := ⟨_, rfl⟩
     have w3 : IntKind.i64.wrap ((k : Int) + 1) = (k1 : Int) := by rw [IntWalk.i64_in _ (by omega)]; omega
     have nH : k < ys.length := by omega
     have Eb : k1 < ys.length := by omega
     have c1 := HI.out.cell nH
     have c2 := HI.out.cell Eb
     have f1 := HI.out.frozen k
     have f2 := HI.out.frozen k1
     have dN : ¬ k = k1 := by omega
     have gP : (k : Int) < (xs.length : Int) := by omega
     have iP : (k1 : Int) < (xs.length : Int) := by omega
     have Si : Hid ((cj ys k k1).Perm xs) := (fD nH Eb).trans HP.out
     have GC : Hid (nO (p - k1) k1 (cj ys k k1) = RES) := (by have := HE.out; rw [JY vt Ec] at this; exact this : _ = _)
     have CI := aa (HI.out.swap k k1)
     have kR := aa (HF.out.ag (Fr.swap wr ga k k1 (.int .i64 ys[k1]!) (.int .i64 ys[k]!)))
     have Cc := aa Ec
     obtain ⟨x, FP⟩ : ∃ x, ys[k]! = x := ⟨_, rfl⟩
     obtain ⟨y, xc⟩ : ∃ y, ys[k1]! = y := ⟨_, rfl⟩
     rw [FP] at c1 CI kR
     rw [xc] at c2 CI kR
     clear FP xc hlen nH Eb Ec HI HF HP HE
     go_wp2_with fail
     go_region
     clear c1 c2 f1 f2
     go_wp2_with fail
     go_roundg (p - k1)
     case measure => have := rN.out; have := Cc.out; omega
     case rel => exact ⟨k1, cj ys k k1, by have := Cc.out; omega, by have := Cc.out; omega, by go_num, Si.out, CI.out, kR.out, GC.out⟩
    ·have FF : Hid (B9 (some ⟨ga, 0, none⟩) c xs RES w (.returned (.tuple #[])) wr) := ⟨rfl, ys, HP.out, HI.out, HF.out, by have := HE.out; rw [On vt] at this; exact this⟩
     go_wp2_with fail
     go_end0
     exact FF.out
theorem xQ (g : Nat) (cb : Array Value) (q : Int → Int → Int) (eg : ∀ args w, (callFunc g args).run Tryz.prog w = .ok (.enter g args) w) (w : World) (A : Option Addr) (c : Nat) (xs : List Int) (h : Ints w A c xs) (hl : xs.length ≤ 17592186044416) (a m b : Nat) (uq : a < m) (vP : m < b) (qI : b ≤ xs.length) (hc : wz g cb q A xs w) (h1 : m - a ≠ 1) (h2 : b - m = 1) (N : Nat) :
  Calls Tryz.prog 180 #[.slice A xs.length c, .int .i64 a, .int .i64 m, .int .i64 b, .func (.func g) #[] cb] w (B9 A c xs (iJ q (N + 1) xs a m b) w) := by
 obtain ⟨t, ht⟩ : ∃ t : Nat → Bool, (fun h => !decide (q xs[m]! xs[h]! < 0)) = t := ⟨_, rfl⟩
 have HT : Hid (∀ h, t h = !decide (q xs[m]! xs[h]! < 0)) := fun h => by rw [← ht]
 obtain ⟨wg, ux⟩ : ∃ I, pV t b a m = I := ⟨_, rfl⟩
 obtain ⟨RES, co⟩ : ∃ R, iJ q (N + 1) xs a m b = R := ⟨_, rfl⟩
 have dC : Hid (JM (m - wg) m xs = RES) := (by rw [← co, J2 h1 h2, ht, ux] : _ = _)
 rw [co]
 have Ny := aa ux
 clear ht ux co
 obtain ⟨ga, hA, ru⟩ := h.pos (i := a) (by omega)
 subst hA
 have HH := aa h
 have HC := aa hc
 have KC : Hid (∀ (wr : World), Fr [] w wr → ∀ i j : Nat, i < xs.length → j < xs.length → ∀ u : Ext wr, Calls Tryz.prog g (#[.int .i64 xs[i]!, .int .i64 xs[j]!] ++ cb) u.v fun e W' => e = .returned (.int .i64 (q xs[i]! xs[j]!)) ∧ Fr [] u.v W') := fun wr hf i j hi hj u => HC.out u.v ((hf.ag u.fr).mono (fun k hk => by cases hk)) _ (bw hi) _ (bw hj)
 have CE : Hid (∀ (wr : World), Fr [] w wr → ∀ i : Nat, i < xs.length → ∀ u : Ext wr, u.v.cell? ⟨ga, i, none⟩ = some (.int .i64 xs[i]!)) := fun wr hf i hi u => (HH.out.eE (hf.ag u.fr)).cell hi
 obtain ⟨d1, Ef⟩ : ∃ d, m - a = d := ⟨_, rfl⟩
 obtain ⟨d2, sS⟩ : ∃ d, b - m = d := ⟨_, rfl⟩
 have w0 : IntKind.i64.wrap ((m : Int) - (a : Int)) = (d1 : Int) := by rw [IntWalk.i64_in _ (by omega)]; omega
 have w1 : IntKind.i64.wrap ((b : Int) - (m : Int)) = (d2 : Int) := by rw [IntWalk.i64_in _ (by omega)]; omega
 clear h hc
 have jZ : ¬ (d1 : Int) = 1 := by omega
 have sT : ((d1 : Int) == 1) = false := by simpa using jZ
 obtain rfl : d2 = 1 := by omega
 go_enter Tryz.func180, Tryz.ntmps180
 go_wp2_with fail
 clear w0 w1 jZ sT
 go_loopg [14, 15] (m - a) (fun g wD xC wr => ∃ (i j : Nat), j = i + g ∧ a ≤ i ∧ j ≤ m ∧ wD = .int .i64 i ∧ xC = .int .i64 j ∧ Hid (Fr [] w wr) ∧ Hid (∃ f, j - i ≤ f ∧ pV t f i j = wg))
 case atStart => exact ⟨a, m, by omega, by omega, by omega, rfl, rfl, Fr.refl _ _, ⟨b, by omega, Ny.out⟩⟩
 case round =>
  obtain ⟨i, j, hg, hi, hj, rfl, rfl, HF, HE⟩ := hrel
  have HG := aa hg
  have aeb : i ≤ j := by omega
  clear hg
  by_cases rt : i < j
  ·have w2 : IntKind.i64.wrap ((i : Int) + (j : Int)) = (i : Int) + (j : Int) := IntWalk.i64_in _ (by omega)
   obtain ⟨h, hh⟩ : ∃ h : Nat, ((i : Int) + (j : Int)) / 2 = (h : Int) := ⟨(i + j) / 2, by omega⟩
   have h0 : i ≤ h := by omega
   have h1 : h < j := by omega
   have hx : (h : Int) < (xs.length : Int) := by omega
   have hax : (m : Int) < (xs.length : Int) := by omega
   have w3 : IntKind.i64.wrap ((h : Int) + 1) = (h : Int) + 1 := IntWalk.i64_in _ (by omega)
   have xB : Hid (¬ q xs[m]! xs[h]! < 0 → ∃ f, j - (h + 1) ≤ f ∧ pV t f (h + 1) j = wg) := fun hq => by
    obtain ⟨f, f1, f2⟩ := HE.out
    rw [zc (h := h) (by omega) rt (by omega) (by rw [HT.out, decide_eq_false hq]; rfl)] at f2
    exact ⟨f - 1, by omega, f2⟩
   have tj : Hid (q xs[m]! xs[h]! < 0 → ∃ f, h - i ≤ f ∧ pV t f i h = wg) := fun hq => by
    obtain ⟨f, f1, f2⟩ := HE.out
    rw [EL (h := h) (by omega) rt (by omega) (by rw [HT.out, decide_eq_true hq]; rfl)] at f2
    exact ⟨f - 1, by omega, f2⟩
   have rK := aa (KC.out wr HF.out m h (by omega) (by omega))
   have e1 := CE.out wr HF.out h (by omega)
   have e2 := CE.out wr HF.out m (by omega)
   obtain ⟨x, FP⟩ : ∃ x, xs[h]! = x := ⟨_, rfl⟩
   obtain ⟨y, xc⟩ : ∃ y, xs[m]! = y := ⟨_, rfl⟩
   rw [FP] at e1 rK xB tj
   rw [xc] at e2 rK xB tj
   obtain ⟨r, hr⟩ : ∃ r, q y x = r := ⟨_, rfl⟩
   rw [hr] at rK xB tj
   have H2 := aa hh
   clear FP xc hr
   go_upto_region 17 with fail
   clear hh
   have hh := H2.out
   try rw [hh]
   clear hh
   by_cases gU : r < 0
   ·have hd : decide (r < 0) = true := decide_eq_true gU
    have Cf := aa (tj.out gU)
    clear xB tj
    refine al (by kernel_rfl) (by kernel_rfl) ?_
    repeat (go_big_quiet_step (exact bN (rK.out _)))
    refine wpQuiet_nil ?_
    rintro w4 ⟨u2, bJ⟩
    have bZ : Hid (Fr [] wr w4) := bJ ▸ u2.fr
    clear bJ u2
    have cJ := aa (HF.out.ag bZ.out)
    clear e1 e2 HF bZ rK
    go_wp2_with fail
    go_roundg (h - i)
    case measure => have := HG.out; omega
    case rel => exact ⟨i, h, by omega, by omega, by omega, rfl, rfl, cJ.out, Cf.out⟩
   ·have FU : 0 ≤ r := by omega
    have hd : decide (r < 0) = false := decide_eq_false gU
    have Cf := aa (xB.out gU)
    clear xB tj
    refine al (by kernel_rfl) (by kernel_rfl) ?_
    repeat (go_big_quiet_step (exact bN (rK.out _)))
    refine wpQuiet_nil ?_
    rintro w4 ⟨u2, bJ⟩
    have bZ : Hid (Fr [] wr w4) := bJ ▸ u2.fr
    clear bJ u2
    have cJ := aa (HF.out.ag bZ.out)
    clear e1 e2 HF bZ rK
    go_wp2_with fail
    go_roundg (j - (h + 1))
    case measure => have := HG.out; omega
    case rel => exact ⟨h + 1, j, by omega, by omega, by omega, by go_num, rfl, cJ.out, Cf.out⟩
  ·have AX : wg = i := by
    obtain ⟨f, f1, f2⟩ := HE.out
    rw [zd rt] at f2
    exact f2.symm
   have U9 : Hid (JM (m - i) m xs = RES) := (by have := dC.out; rw [AX] at this; exact this : _ = _)
   clear AX HE dC
   have him : i ≤ m := by omega
   have Sp := aa (HH.out.eE HF.out)
   have Ce : Hid (Fr (ah (some ⟨ga, 0, none⟩)) w wr) := HF.out.mono (fun k hk => by cases hk)
   clear HF
   go_wp2_with fail
   go_loopg [17] (m - i) (fun g NT wr => ∃ (k : Nat) (ys : List Int), k = i + g ∧ k ≤ m ∧ NT = .int .i64 k ∧ Hid (ys.Perm xs) ∧ Hid (Ints wr (some ⟨ga, 0, none⟩) c ys) ∧ Hid (Fr (ah (some ⟨ga, 0, none⟩)) w wr) ∧ Hid (JM (k - i) k ys = RES))
   case atStart => exact ⟨m, xs, by omega, by omega, rfl, cN _, Sp.out, Ce.out, U9.out⟩
   case round =>
    obtain ⟨k, ys, hg, hk, rfl, HP, HI, HF, HE⟩ := hrel
    have rN := aa hg
    have hlen := HP.out.length_eq
    have hik : i ≤ k := by omega
    clear hg Sp Ce
    by_cases vt : i < k
    ·obtain ⟨k1, Ec⟩ : ∃ k1, k - 1 = k1 := ⟨_, rfl⟩
     have w3 : IntKind.i64.wrap ((k : Int) - 1) = (k1 : Int) := by rw [IntWalk.i64_in _ (by omega)]; omega
     have nH : k < ys.length := by omega
     have Eb : k1 < ys.length := by omega
     have c1 := HI.out.cell nH
     have c2 := HI.out.cell Eb
     have f1 := HI.out.frozen k
     have f2 := HI.out.frozen k1
     have dN : ¬ k = k1 := by omega
     have gP : (k : Int) < (xs.length : Int) := by omega
     have iP : (k1 : Int) < (xs.length : Int) := by omega
     have Si : Hid ((cj ys k k1).Perm xs) := (fD nH Eb).trans HP.out
     have GC : Hid (JM (k1 - i) k1 (cj ys k k1) = RES) := (by have := HE.out; rw [MI vt Ec] at this; exact this : _ = _)
     have CI := aa (HI.out.swap k k1)
     have kR := aa (HF.out.ag (Fr.swap wr ga k k1 (.int .i64 ys[k1]!) (.int .i64 ys[k]!)))
     have Cc := aa Ec
     obtain ⟨x, FP⟩ : ∃ x, ys[k]! = x := ⟨_, rfl⟩
     obtain ⟨y, xc⟩ : ∃ y, ys[k1]! = y := ⟨_, rfl⟩
     rw [FP] at c1 CI kR
     rw [xc] at c2 CI kR
     clear FP xc hlen nH Eb Ec HI HF HP HE
     go_wp2_with fail
     go_region
     clear c1 c2 f1 f2
     go_wp2_with fail
     go_roundg (k1 - i)
     case measure => have := rN.out; have := Cc.out; omega
     case rel => exact ⟨k1, cj ys k k1, by have := Cc.out; omega, by have := Cc.out; omega, by go_num, Si.out, CI.out, kR.out, GC.out⟩
    ·have FF : Hid (B9 (some ⟨ga, 0, none⟩) c xs RES w (.returned (.tuple #[])) wr) := ⟨rfl, ys, HP.out, HI.out, HF.out, by have := HE.out; rw [Qv vt] at this; exact this⟩
     go_wp2_with fail
     go_end0
     exact FF.out
def M6 (g : Nat) (cb : Array Value) (q : Int → Int → Int) (N : Nat) : Prop :=
 ∀ (w : World) (A : Option Addr) (c : Nat) (xs : List Int) (h : Ints w A c xs) (hl : xs.length ≤ 17592186044416) (a m b : Nat) (uq : a < m) (vP : m < b) (qI : b ≤ xs.length) (hc : wz g cb q A xs w) (hN : b - a ≤ N),
  Calls Tryz.prog 180 #[.slice A xs.length c, .int .i64 a, .int .i64 m, .int .i64 b, .func (.func g) #[] cb] w (B9 A c xs (iJ q N xs a m b) w)
theorem xS (g : Nat) (cb : Array Value) (q : Int → Int → Int) (eg : ∀ args w, (callFunc g args).run Tryz.prog w = .ok (.enter g args) w) (w : World) (A : Option Addr) (c : Nat) (xs : List Int) (h : Ints w A c xs) (hl : xs.length ≤ 17592186044416) (a m b : Nat) (uq : a < m) (vP : m < b) (qI : b ≤ xs.length) (hc : wz g cb q A xs w) (h1 : m - a ≠ 1) (h2 : b - m ≠ 1) (N : Nat) (hN : b - a ≤ N + 1) (ih : M6 g cb q N) :
  Calls Tryz.prog 180 #[.slice A xs.length c, .int .i64 a, .int .i64 m, .int .i64 b, .func (.func g) #[] cb] w (B9 A c xs (iJ q (N + 1) xs a m b) w) := by
 obtain ⟨RES, co⟩ : ∃ R, iJ q (N + 1) xs a m b = R := ⟨_, rfl⟩
 rw [co]
 obtain ⟨ga, hA, ru⟩ := h.pos (i := a) (by omega)
 subst hA
 have HH := aa h
 have HC := aa hc
 have KC : Hid (∀ (wr : World), Fr [] w wr → ∀ i j : Nat, i < xs.length → j < xs.length → ∀ u : Ext wr, Calls Tryz.prog g (#[.int .i64 xs[i]!, .int .i64 xs[j]!] ++ cb) u.v fun e W' => e = .returned (.int .i64 (q xs[i]! xs[j]!)) ∧ Fr [] u.v W') := fun wr hf i j hi hj u => HC.out u.v ((hf.ag u.fr).mono (fun k hk => by cases hk)) _ (bw hi) _ (bw hj)
 have CE : Hid (∀ (wr : World), Fr [] w wr → ∀ i : Nat, i < xs.length → ∀ u : Ext wr, u.v.cell? ⟨ga, i, none⟩ = some (.int .i64 xs[i]!)) := fun wr hf i hi u => (HH.out.eE (hf.ag u.fr)).cell hi
 obtain ⟨d1, Ef⟩ : ∃ d, m - a = d := ⟨_, rfl⟩
 obtain ⟨d2, sS⟩ : ∃ d, b - m = d := ⟨_, rfl⟩
 have w0 : IntKind.i64.wrap ((m : Int) - (a : Int)) = (d1 : Int) := by rw [IntWalk.i64_in _ (by omega)]; omega
 have w1 : IntKind.i64.wrap ((b : Int) - (m : Int)) = (d2 : Int) := by rw [IntWalk.i64_in _ (by omega)]; omega
 clear h hc
 have jZ : ¬ (d1 : Int) = 1 := by omega
 have sT : ((d1 : Int) == 1) = false := by simpa using jZ
 have se : ¬ (d2 : Int) = 1 := by omega
 have rA : ((d2 : Int) == 1) = false := by simpa using se
 obtain ⟨M, hM⟩ : ∃ M : Nat, ((a : Int) + (b : Int)) / 2 = (M : Int) := ⟨(a + b) / 2, by omega⟩
 obtain ⟨n, hn⟩ : ∃ n : Nat, M + m = n := ⟨_, rfl⟩
 have wab : IntKind.i64.wrap ((a : Int) + (b : Int)) = (a : Int) + (b : Int) := IntWalk.i64_in _ (by omega)
 have wn : IntKind.i64.wrap ((M : Int) + (m : Int)) = (n : Int) := by rw [IntWalk.i64_in _ (by omega)]; omega
 have HM : Hid (a < M ∧ M < b ∧ M + m = n ∧ (a + b) / 2 = M ∧ n ≤ 2 * xs.length) := ⟨by omega, by omega, by omega, by omega, by omega⟩
 have HIH := aa ih
 obtain ⟨t, ht⟩ : ∃ t : Nat → Bool, (fun h => !decide (q xs[n - 1 - h]! xs[h]! < 0)) = t := ⟨_, rfl⟩
 have HT : Hid (∀ h, t h = !decide (q xs[n - 1 - h]! xs[h]! < 0)) := fun h => by rw [← ht]
 obtain ⟨wg, ux⟩ : ∃ I, pV t b (if M < m then n - b else a) (if M < m then M else m) = I := ⟨_, rfl⟩
 have Ny := aa ux
 have dC : Hid (xT q N (xT q N (J5 xs wg m (n - wg)) a wg M) M (n - wg) b = RES) := (by rw [← co, J4 h1 h2 (by omega) hn rfl ht ux rfl] : _ = _)
 clear ht ux co
 clear ih
 go_enter Tryz.func180, Tryz.ntmps180
 go_upto_if 140 with fail
 clear w0 w1 jZ sT se rA wab wn
 go_cut [20, 21] (fun Q9 x21 wx => ∃ s r : Nat, Q9 = .int .i64 s ∧ x21 = .int .i64 r ∧ a ≤ s ∧ s ≤ r ∧ r ≤ m ∧ r ≤ M ∧ n ≤ b + s ∧ w = wx ∧ Hid (s = (if M < m then n - b else a) ∧ r = (if M < m then M else m)))
 case first =>
  as_aux_lemma =>
   obtain ⟨m1, m2, m3, m4, m5⟩ := HM.out
   by_cases hmM : M < m
   ·obtain ⟨s0, hs0⟩ : ∃ s0, n - b = s0 := ⟨_, rfl⟩
    have wx : IntKind.i64.wrap ((n : Int) - (b : Int)) = (s0 : Int) := by rw [IntWalk.i64_in _ (by omega)]; omega
    have TS : (M : Int) < (m : Int) := by omega
    have HS : Hid (a ≤ s0 ∧ s0 ≤ M ∧ M ≤ m ∧ M ≤ M ∧ n ≤ b + s0) := ⟨by omega, by omega, by omega, by omega, by omega⟩
    have Se : Hid (s0 = (if M < m then n - b else a) ∧ M = (if M < m then M else m)) := ⟨by rw [if_pos hmM, hs0], by rw [if_pos hmM]⟩
    clear hs0 m1 m2 m3 m4 m5 Ef sS
    go_wp2_with fail
    go_meet
    case rel => exact ⟨s0, M, rfl, rfl, HS.out.1, HS.out.2.1, HS.out.2.2.1, HS.out.2.2.2.1, HS.out.2.2.2.2, rfl, Se.out⟩
   ·have TS : (m : Int) ≤ (M : Int) := by omega
    have HS : Hid (a ≤ a ∧ a ≤ m ∧ m ≤ m ∧ m ≤ M ∧ n ≤ b + a) := ⟨by omega, by omega, by omega, by omega, by omega⟩
    have Se : Hid (a = (if M < m then n - b else a) ∧ m = (if M < m then M else m)) := ⟨by rw [if_neg hmM], by rw [if_neg hmM]⟩
    clear m1 m2 m3 m4 m5 Ef sS
    go_wp2_with fail
    go_meet
    case rel => exact ⟨a, m, rfl, rfl, HS.out.1, HS.out.2.1, HS.out.2.2.1, HS.out.2.2.2.1, HS.out.2.2.2.2, rfl, Se.out⟩
 case rest =>
  obtain ⟨s0, r0, rfl, rfl, b1, b2, b3, b4, b5, rfl, Se⟩ := hcut
  have CJ : Hid (pV t b s0 r0 = wg) := (by have := Ny.out; rw [← Se.out.1, ← Se.out.2] at this; exact this : _ = _)
  have HB := aa (And.intro b1 (And.intro b2 (And.intro b3 (And.intro b4 b5))))
  have se : 2 ≤ n := by have := HM.out; omega
  have oz : n ≤ 2 * xs.length := by have := HM.out; omega
  obtain ⟨p, hp⟩ : ∃ p, n - 1 = p := ⟨_, rfl⟩
  have wp1 : IntKind.i64.wrap ((n : Int) - 1) = (p : Int) := by rw [IntWalk.i64_in _ (by omega)]; omega
  have Zp := aa hp
  clear b1 b2 b3 b4 b5 hp Ef sS
  go_wp2_with fail
  clear wp1
  go_loopg [20, 21] (r0 - s0) (fun g Q9 x21 wr => ∃ (s r : Nat), r = s + g ∧ Hid (a ≤ s ∧ r ≤ m ∧ r ≤ M ∧ n ≤ b + s) ∧ Q9 = .int .i64 s ∧ x21 = .int .i64 r ∧ Hid (Fr [] w wr) ∧ Hid (∃ f, r - s ≤ f ∧ pV t f s r = wg))
  case atStart => exact ⟨s0, r0, by have := HB.out; omega, by have := HB.out; exact ⟨by omega, by omega, by omega, by omega⟩, rfl, rfl, Fr.refl _ _, ⟨b, by have := HB.out; omega, CJ.out⟩⟩
  case round =>
   obtain ⟨s, r, hg, HR, rfl, rfl, HF, HE⟩ := hrel
   have HG := aa hg
   have alu : s ≤ r := by omega
   clear hg
   by_cases hsr : s < r
   ·as_aux_lemma =>
     have w2 : IntKind.i64.wrap ((s : Int) + (r : Int)) = (s : Int) + (r : Int) := IntWalk.i64_in _ (by have := HR.out; omega)
     obtain ⟨h, hh⟩ : ∃ h : Nat, ((s : Int) + (r : Int)) / 2 = (h : Int) := ⟨(s + r) / 2, by omega⟩
     have h0 : s ≤ h := by omega
     have h1 : h < r := by omega
     obtain ⟨u, hu⟩ : ∃ u, p - h = u := ⟨_, rfl⟩
     have Dw : u < xs.length := by have := HR.out; have := Zp.out; have := HM.out; omega
     have V1 : h < xs.length := by have := HR.out; omega
     have wt : IntKind.i64.wrap ((p : Int) - (h : Int)) = (u : Int) := by rw [IntWalk.i64_in _ (by have := Zp.out; omega)]; have := HR.out; have := Zp.out; have := HM.out; omega
     have hx : (h : Int) < (xs.length : Int) := by omega
     have htx : (u : Int) < (xs.length : Int) := by omega
     have w3 : IntKind.i64.wrap ((h : Int) + 1) = (h : Int) + 1 := IntWalk.i64_in _ (by omega)
     have xB : Hid (¬ q xs[u]! xs[h]! < 0 → ∃ f, r - (h + 1) ≤ f ∧ pV t f (h + 1) r = wg) := fun hq => by
      obtain ⟨f, f1, f2⟩ := HE.out
      rw [zc (h := h) (by omega) hsr (by omega) (by rw [HT.out, Zp.out, hu, decide_eq_false hq]; rfl)] at f2
      exact ⟨f - 1, by omega, f2⟩
     have tj : Hid (q xs[u]! xs[h]! < 0 → ∃ f, h - s ≤ f ∧ pV t f s h = wg) := fun hq => by
      obtain ⟨f, f1, f2⟩ := HE.out
      rw [EL (h := h) (by omega) hsr (by omega) (by rw [HT.out, Zp.out, hu, decide_eq_true hq]; rfl)] at f2
      exact ⟨f - 1, by omega, f2⟩
     have rK := aa (KC.out wr HF.out u h Dw V1)
     have e1 := CE.out wr HF.out h V1
     have e2 := CE.out wr HF.out u Dw
     obtain ⟨x, FP⟩ : ∃ x, xs[h]! = x := ⟨_, rfl⟩
     obtain ⟨y, xc⟩ : ∃ y, xs[u]! = y := ⟨_, rfl⟩
     rw [FP] at e1 rK xB tj
     rw [xc] at e2 rK xB tj
     obtain ⟨z, hz⟩ : ∃ z, q y x = z := ⟨_, rfl⟩
     rw [hz] at rK xB tj
     have H2 := aa hh
     clear FP xc hz hu Dw V1
     go_upto_region 35 with fail
     clear hh
     have hh := H2.out
     try rw [hh]
     clear hh
     by_cases gU : z < 0
     ·have hd : decide (z < 0) = true := decide_eq_true gU
      have Cf := aa (tj.out gU)
      clear xB tj
      refine al (by kernel_rfl) (by kernel_rfl) ?_
      repeat (go_big_quiet_step (exact bN (rK.out _)))
      refine wpQuiet_nil ?_
      rintro w4 ⟨u2, bJ⟩
      have bZ : Hid (Fr [] wr w4) := bJ ▸ u2.fr
      clear bJ u2
      have cJ := aa (HF.out.ag bZ.out)
      clear e1 e2 HF bZ rK
      go_wp2_with fail
      go_roundg (h - s)
      case measure => have := HG.out; omega
      case rel => exact ⟨s, h, by omega, by have := HR.out; exact ⟨by omega, by omega, by omega, by omega⟩, rfl, rfl, cJ.out, Cf.out⟩
     ·have FU : 0 ≤ z := by omega
      have hd : decide (z < 0) = false := decide_eq_false gU
      have Cf := aa (xB.out gU)
      clear xB tj
      refine al (by kernel_rfl) (by kernel_rfl) ?_
      repeat (go_big_quiet_step (exact bN (rK.out _)))
      refine wpQuiet_nil ?_
      rintro w4 ⟨u2, bJ⟩
      have bZ : Hid (Fr [] wr w4) := bJ ▸ u2.fr
      clear bJ u2
      have cJ := aa (HF.out.ag bZ.out)
      clear e1 e2 HF bZ rK
      go_wp2_with fail
      go_roundg (r - (h + 1))
      case measure => have := HG.out; omega
      case rel => exact ⟨h + 1, r, by omega, by have := HR.out; exact ⟨by omega, by omega, by omega, by omega⟩, by go_num, rfl, cJ.out, Cf.out⟩
   ·obtain rfl : s = r := by omega
    have AX : wg = s := by
     obtain ⟨f, f1, f2⟩ := HE.out
     rw [zd hsr] at f2
     exact f2.symm
    obtain ⟨E, hE⟩ : ∃ E, n - s = E := ⟨_, rfl⟩
    have fa := dC.out
    rw [AX, hE] at fa
    obtain ⟨Y1, hY1⟩ : ∃ Y, J5 xs s m E = Y := ⟨_, rfl⟩
    rw [hY1] at fa
    obtain ⟨Y2, hY2⟩ : ∃ Y, xT q N Y1 a s M = Y := ⟨_, rfl⟩
    rw [hY2] at fa
    have HY1 := aa hY1
    have HY2 := aa hY2
    have HY3 := aa fa
    clear AX fa hY1 hY2 HE
    have wE : IntKind.i64.wrap ((n : Int) - (s : Int)) = (E : Int) := by have := HR.out; have := HM.out; rw [IntWalk.i64_in _ (by omega)]; omega
    have HE : Hid (E ≤ b ∧ m ≤ E ∧ M ≤ E) := ⟨by have := HR.out; have := HM.out; omega, by have := HR.out; have := HM.out; omega, by have := HR.out; have := HM.out; omega⟩
    have Sp := aa (HH.out.eE HF.out)
    have Ce : Hid (Fr (ah (some ⟨ga, 0, none⟩)) w wr) := HF.out.mono (fun k hk => by cases hk)
    clear hE HF KC CE dC
    go_upto_region 39 with fail
    clear wE
    obtain ⟨Ki, M3⟩ : ∃ q, Hid (decide (s < m ∧ m < E) = q) := ⟨_, rfl⟩
    go_cut [185] (fun x wx => x = .bool Ki ∧ wr = wx)
    case first =>
     as_aux_lemma =>
      by_cases k1 : s < m
      ·have Xg : (s : Int) < (m : Int) := by omega
       by_cases k2 : m < E
       ·have Xf : (m : Int) < (E : Int) := by omega
        have hq : Ki = true := M3.out ▸ decide_eq_true ⟨k1, k2⟩
        go_wp2_with fail
        go_meet
        case rel => exact ⟨by rw [hq], rfl⟩
       ·have Xf : (E : Int) ≤ (m : Int) := by omega
        have hq : Ki = false := M3.out ▸ decide_eq_false (fun e => k2 e.2)
        go_wp2_with fail
        go_meet
        case rel => exact ⟨by rw [hq], rfl⟩
      ·have Xg : (m : Int) ≤ (s : Int) := by omega
       have hq : Ki = false := M3.out ▸ decide_eq_false (fun e => k1 e.1)
       go_wp2_with fail
       go_meet
       case rel => exact ⟨by rw [hq], rfl⟩
    case rest =>
     obtain ⟨rfl, rfl⟩ := hcut
     go_upto_if 185 with fail
     go_cut [] (fun wx => Pm (some ⟨ga, 0, none⟩) c xs Y1 w wx)
     case first =>
      as_aux_lemma =>
       cases Ki with
       | true =>
        have hq := of_decide_eq_true M3.out
        have KR := aa (ye wr (some ⟨ga, 0, none⟩) c xs Sp.out hl s m E hq.1 hq.2 (by have := HE.out; omega) g cb)
        have UV : Hid (lS m (E - s) (m - s) (E - m) xs = Y1) := (by have := HY1.out; unfold J5 at this; rw [if_pos hq] at this; exact this : _ = _)
        clear hq
        go_wp2_with fail
        refine KR.out.mono ?_
        clear KR
        rintro e w2 ⟨rfl, zs, z1, z2, z3, z4⟩
        have FF : Hid (Pm (some ⟨ga, 0, none⟩) c xs Y1 w w2) := ⟨zs, z1, z2, Ce.out.ag z3, z4.trans UV.out⟩
        clear z1 z2 z3 z4
        go_wp2_with fail
        go_meet
        case rel => exact FF.out
       | false =>
        have FF : Hid (Pm (some ⟨ga, 0, none⟩) c xs Y1 w wr) := ⟨xs, cN _, Sp.out, Ce.out, by have := HY1.out; unfold J5 at this; rw [if_neg (of_decide_eq_false M3.out)] at this; exact this⟩
        go_wp2_with fail
        go_meet
        case rel => exact FF.out
     case rest =>
      obtain ⟨w5, rfl⟩ : ∃ x, x = wc := ⟨_, rfl⟩
      obtain ⟨ys5, y1, y2, y3, y4⟩ := hcut
      subst y4
      have HP5 := aa y1
      have So := aa y2
      have qj := aa y3
      have Vm : Hid (ys5.length = xs.length) := y1.length_eq
      clear y1 y2 y3
      go_upto_region 41 with fail
      obtain ⟨Kh, M1⟩ : ∃ q, Hid (decide (a < s ∧ s < M) = q) := ⟨_, rfl⟩
      go_cut [199] (fun x wx => x = .bool Kh ∧ w5 = wx)
      case first =>
       as_aux_lemma =>
        by_cases k1 : a < s
        ·have Xg : (a : Int) < (s : Int) := by omega
         by_cases k2 : s < M
         ·have Xf : (s : Int) < (M : Int) := by omega
          have hq : Kh = true := M1.out ▸ decide_eq_true ⟨k1, k2⟩
          go_wp2_with fail
          go_meet
          case rel => exact ⟨by rw [hq], rfl⟩
         ·have Xf : (M : Int) ≤ (s : Int) := by omega
          have hq : Kh = false := M1.out ▸ decide_eq_false (fun e => k2 e.2)
          go_wp2_with fail
          go_meet
          case rel => exact ⟨by rw [hq], rfl⟩
        ·have Xg : (s : Int) ≤ (a : Int) := by omega
         have hq : Kh = false := M1.out ▸ decide_eq_false (fun e => k1 e.1)
         go_wp2_with fail
         go_meet
         case rel => exact ⟨by rw [hq], rfl⟩
      case rest =>
       obtain ⟨rfl, rfl⟩ := hcut
       go_upto_if 199 with fail
       go_cut [] (fun wx => Pm (some ⟨ga, 0, none⟩) c xs Y2 w wx)
       case first =>
        as_aux_lemma =>
         cases Kh with
         | true =>
          have hq := of_decide_eq_true M1.out
          have KR := aa (HIH.out w5 (some ⟨ga, 0, none⟩) c ys5 So.out (by rw [Vm.out]; exact hl) a s M hq.1 hq.2 (by rw [Vm.out]; have := HM.out; omega) (HC.out.ag qj.out HP5.out) (by have := HM.out; omega))
          rw [Vm.out] at KR
          have UV : Hid (iJ q N ys5 a s M = Y2) := (by have := HY2.out; unfold xT at this; rw [if_pos hq] at this; exact this : _ = _)
          clear hq
          go_wp2_with fail
          refine KR.out.mono ?_
          clear KR
          rintro e w2 ⟨rfl, zs, z1, z2, z3, z4⟩
          have FF : Hid (Pm (some ⟨ga, 0, none⟩) c xs Y2 w w2) := ⟨zs, z1.trans HP5.out, z2, qj.out.ag z3, z4.trans UV.out⟩
          clear z1 z2 z3 z4
          go_wp2_with fail
          go_meet
          case rel => exact FF.out
         | false =>
          have FF : Hid (Pm (some ⟨ga, 0, none⟩) c xs Y2 w w5) := ⟨ys5, HP5.out, So.out, qj.out, by have := HY2.out; unfold xT at this; rw [if_neg (of_decide_eq_false M1.out)] at this; exact this⟩
          go_wp2_with fail
          go_meet
          case rel => exact FF.out
       case rest =>
        obtain ⟨w6, rfl⟩ : ∃ x, x = wc := ⟨_, rfl⟩
        obtain ⟨ys6, y1, y2, y3, y4⟩ := hcut
        subst y4
        have HP6 := aa y1
        have HI6 := aa y2
        have iG := aa y3
        have Fb : Hid (ys6.length = xs.length) := y1.length_eq
        clear y1 y2 y3
        go_upto_region 43 with fail
        obtain ⟨Kg, M0⟩ : ∃ q, Hid (decide (M < E ∧ E < b) = q) := ⟨_, rfl⟩
        go_cut [213] (fun x wx => x = .bool Kg ∧ w6 = wx)
        case first =>
         as_aux_lemma =>
          by_cases k1 : M < E
          ·have Xg : (M : Int) < (E : Int) := by omega
           by_cases k2 : E < b
           ·have Xf : (E : Int) < (b : Int) := by omega
            have hq : Kg = true := M0.out ▸ decide_eq_true ⟨k1, k2⟩
            go_wp2_with fail
            go_meet
            case rel => exact ⟨by rw [hq], rfl⟩
           ·have Xf : (b : Int) ≤ (E : Int) := by omega
            have hq : Kg = false := M0.out ▸ decide_eq_false (fun e => k2 e.2)
            go_wp2_with fail
            go_meet
            case rel => exact ⟨by rw [hq], rfl⟩
          ·have Xg : (E : Int) ≤ (M : Int) := by omega
           have hq : Kg = false := M0.out ▸ decide_eq_false (fun e => k1 e.1)
           go_wp2_with fail
           go_meet
           case rel => exact ⟨by rw [hq], rfl⟩
        case rest =>
         obtain ⟨rfl, rfl⟩ := hcut
         go_upto_if 213 with fail
         cases Kg with
         | true =>
          have hq := of_decide_eq_true M0.out
          have KR := aa (HIH.out w6 (some ⟨ga, 0, none⟩) c ys6 HI6.out (by rw [Fb.out]; exact hl) M E b hq.1 hq.2 (by rw [Fb.out]; have := HM.out; omega) (HC.out.ag iG.out HP6.out) (by have := HM.out; omega))
          rw [Fb.out] at KR
          have UV : Hid (iJ q N ys6 M E b = RES) := (by have := HY3.out; unfold xT at this; rw [if_pos hq] at this; exact this : _ = _)
          clear hq
          go_wp2_with fail
          refine KR.out.mono ?_
          clear KR
          rintro e w2 ⟨rfl, zs, z1, z2, z3, z4⟩
          have FF : Hid (Pm (some ⟨ga, 0, none⟩) c xs RES w w2) := ⟨zs, z1.trans HP6.out, z2, iG.out.ag z3, z4.trans UV.out⟩
          clear z1 z2 z3 z4
          go_wp2_with fail
          go_end0
          exact FF.out.pmp
         | false =>
          have FF : Hid (Pm (some ⟨ga, 0, none⟩) c xs RES w w6) := ⟨ys6, HP6.out, HI6.out, iG.out, by have := HY3.out; unfold xT at this; rw [if_neg (of_decide_eq_false M0.out)] at this; exact this⟩
          go_wp2_with fail
          go_end0
          exact FF.out.pmp
theorem tB (g : Nat) (cb : Array Value) (q : Int → Int → Int) (eg : ∀ args w, (callFunc g args).run Tryz.prog w = .ok (.enter g args) w) : ∀ N, M6 g cb q N := by
 intro N
 induction N with
 | zero => intro w A c xs h hl a m b uq vP qI hc hN; omega
 | succ N ih =>
  intro w A c xs h hl a m b uq vP qI hc hN
  by_cases h1 : m - a = 1
  ·exact xR g cb q eg w A c xs h hl a m b uq vP qI hc h1 N
  ·by_cases h2 : b - m = 1
   ·exact xQ g cb q eg w A c xs h hl a m b uq vP qI hc h1 h2 N
   ·exact xS g cb q eg w A c xs h hl a m b uq vP qI hc h1 h2 N hN ih
theorem xV (g : Nat) (cb : Array Value) (q : Int → Int → Int) (eg : ∀ args w, (callFunc g args).run Tryz.prog w = .ok (.enter g args) w) (w : World) (A : Option Addr) (c : Nat) (xs : List Int) (h : Ints w A c xs) (hl : xs.length ≤ 17592186044416) (hc : wz g cb q A xs w) :
  Calls Tryz.prog 164 #[.slice A xs.length c, .int .i64 xs.length, .func (.func g) #[] cb] w (B9 A c xs (Ov q xs) w) := by
 obtain ⟨RES, co⟩ : ∃ R, Ov q xs = R := ⟨_, rfl⟩
 rw [co]
 unfold Ov at co
 obtain ⟨n, hn⟩ : ∃ n, xs.length = n := ⟨_, rfl⟩
 have HN := aa hn
 have HH := aa h
 have HC := aa hc
 rw [hn]
 rw [hn] at hl co
 obtain ⟨Z, hZ⟩ : ∃ Z, uV q n (n + 1) 0 xs = Z := ⟨_, rfl⟩
 rw [hZ] at co
 have HZ := aa hZ
 have dC := aa co
 clear hZ co
 clear h hc hn
 have KI : Hid (∀ (W : World) (ys : List Int), ys.Perm xs → Ints W A c ys → Fr (ah A) w W → ∀ a b : Nat, a ≤ b → b ≤ n → Calls Tryz.prog 179 #[.slice A n c, .int .i64 a, .int .i64 b, .func (.func g) #[] cb] W fun e w' => e = .returned (.tuple #[]) ∧ Pm A c xs (mO q a (b - (a + 1)) (a + 1) ys) w w') := fun W ys hp hi hf a b h1 h2 => by
  have hlen : ys.length = n := hp.length_eq.trans HN.out
  have := rY W A c ys hi (by omega) a b h1 (by omega) g cb q eg (HC.out.ag hf hp)
  rw [hlen] at this
  exact this.mono fun e w' he => ⟨he.pm.1, he.pm.2.step hp hf⟩
 have KM : Hid (∀ (W : World) (ys : List Int), ys.Perm xs → Ints W A c ys → Fr (ah A) w W → ∀ a m b : Nat, a < m → m < b → b ≤ n → Calls Tryz.prog 180 #[.slice A n c, .int .i64 a, .int .i64 m, .int .i64 b, .func (.func g) #[] cb] W fun e w' => e = .returned (.tuple #[]) ∧ Pm A c xs (iJ q n ys a m b) w w') := fun W ys hp hi hf a m b h1 h2 h3 => by
  have hlen : ys.length = n := hp.length_eq.trans HN.out
  have := tB g cb q eg n W A c ys hi (by omega) a m b h1 h2 (by omega) (HC.out.ag hf hp) (by omega)
  rw [hlen] at this
  exact this.mono fun e w' he => ⟨he.pm.1, he.pm.2.step hp hf⟩
 go_enter Tryz.func164, Tryz.ntmps164
 go_wp2_with fail
 go_loopg [7, 8] n (fun g x7 x8 wr => ∃ (a : Nat), n ≤ a + g ∧ a ≤ n ∧ x7 = .int .i64 a ∧ x8 = .int .i64 (a + 20 : Nat) ∧ Hid (∃ ys f, Pm A c xs ys w wr ∧ n + 1 ≤ a + f ∧ uV q n f a ys = Z))
 case atStart => exact ⟨0, by omega, by omega, rfl, rfl, ⟨xs, n + 1, ⟨xs, cN _, HH.out, Fr.refl _ _, rfl⟩, by omega, HZ.out⟩⟩
 case round =>
  obtain ⟨a, hg, ha, rfl, rfl, HP⟩ := hrel
  have HG := aa hg
  clear hg
  obtain ⟨b, hb⟩ : ∃ b, a + 20 = b := ⟨_, rfl⟩
  rw [hb]
  by_cases qI : b ≤ n
  ·have Md : (b : Int) ≤ (n : Int) := by omega
   have w1 : IntKind.i64.wrap ((b : Int) + 20) = (b : Int) + 20 := IntWalk.i64_in _ (by omega)
   obtain ⟨ys', f, ⟨ys, y1, y2, y3, rfl⟩, f1, f2⟩ := HP.out
   have K := aa (KI.out wr ys y1 y2 y3 a b (by omega) qI)
   have HB := aa hb
   have cL : Hid (∃ f, n + 1 ≤ b + f ∧ uV q n f b (mO q a (b - (a + 1)) (a + 1) ys) = Z) := ⟨f - 1, by omega, by rw [MQ (by omega) hb qI] at f2; exact f2⟩
   clear f1 f2
   clear y1 y2 y3 hb HP
   go_wp2_with fail
   refine K.out.mono ?_
   clear K
   rintro e w2 ⟨rfl, hp⟩
   have HP := aa hp
   clear hp
   go_wp2_with fail
   go_roundg (n - b)
   case measure => have := HG.out; have := HB.out; omega
   case rel => exact ⟨b, by omega, qI, rfl, by go_num, (by obtain ⟨f, f1, f2⟩ := cL.out; exact ⟨_, f, HP.out, f1, f2⟩ : ∃ ys f, Pm A c xs ys w w2 ∧ n + 1 ≤ b + f ∧ uV q n f b ys = Z)⟩
  ·have Md : (n : Int) < (b : Int) := by omega
   obtain ⟨ys', f, ⟨ys, y1, y2, y3, rfl⟩, f1, f2⟩ := HP.out
   have cL : Hid (mO q a (n - (a + 1)) (a + 1) ys = Z) := (by rw [QE (by omega) hb qI] at f2; exact f2 : _ = _)
   clear f1 f2
   have K := aa (KI.out wr ys y1 y2 y3 a n ha (ao _))
   clear y1 y2 y3 hb HP
   go_wp2_with fail
   refine K.out.mono ?_
   clear K
   rintro e w2 ⟨rfl, hp⟩
   have HP := aa hp
   rw [cL.out] at HP
   clear hp
   go_wp2_with fail
   go_loopg [6, 7, 8] (n + 1) (fun g x6 x7 x8 wr => ∃ (k : Nat), n + 1 ≤ k + g ∧ 20 ≤ k ∧ k ≤ 2 * n + 20 ∧ x6 = .int .i64 k ∧ Hid (∃ ys f, Pm A c xs ys w wr ∧ n + 1 ≤ k + f ∧ tS q n f k ys = RES))
   case atStart => exact ⟨20, by omega, by omega, by omega, rfl, ⟨_, n + 1, HP.out, by omega, dC.out⟩⟩
   case round =>
    obtain ⟨k, eJ, hk, LM, rfl, zl⟩ := hrel
    have rN := aa eJ
    have HK := aa LM
    clear eJ LM HP
    by_cases j4 : k < n
    ·obtain ⟨k2, LM⟩ : ∃ k2, 2 * k = k2 := ⟨_, rfl⟩
     have w1 : IntKind.i64.wrap (2 * (k : Int)) = (k2 : Int) := by rw [IntWalk.i64_in _ (by omega)]; omega
     have w1' : IntKind.i64.wrap ((k : Int) * 2) = (k2 : Int) := by rw [IntWalk.i64_in _ (by omega)]; omega
     have Cb := aa LM
     have alT : k2 ≤ 35184372088832 := by omega
     obtain ⟨yk, fk, hpk, fk1, fk2⟩ := zl.out
     have Nk := aa hpk
     obtain ⟨Z2, hZ2⟩ : ∃ Z, pz q n k (n + 1) 0 yk = Z := ⟨_, rfl⟩
     have HZ2 := aa hZ2
     have qi : Hid (∃ f, n + 1 ≤ k2 + f ∧ tS q n f k2 Z2 = RES) := ⟨fk - 1, by omega, by rw [Ku (by omega) j4 LM, hZ2] at fk2; exact fk2⟩
     clear LM hZ2 fk1 fk2 hpk
     go_wp2_with fail
     go_loopg [7, 8] n (fun g x7 x8 wr => ∃ (a : Nat), n ≤ a + g ∧ a ≤ n ∧ x7 = .int .i64 a ∧ x8 = .int .i64 (a + k2 : Nat) ∧ Hid (∃ ys f, Pm A c xs ys w wr ∧ n + 1 ≤ a + f ∧ pz q n k f a ys = Z2))
     case atStart => exact ⟨0, by omega, by omega, rfl, by rw [cZ], ⟨yk, n + 1, Nk.out, by omega, HZ2.out⟩⟩
     case round =>
      obtain ⟨a, hg, ha, rfl, rfl, HP⟩ := hrel
      have qO := aa hg
      clear hg zl Nk
      obtain ⟨b, hb⟩ : ∃ b, a + k2 = b := ⟨_, rfl⟩
      obtain ⟨m, hm⟩ : ∃ m, a + k = m := ⟨_, rfl⟩
      rw [hb]
      have wm : IntKind.i64.wrap ((a : Int) + (k : Int)) = (m : Int) := by rw [IntWalk.i64_in _ (by omega)]; omega
      by_cases qI : b ≤ n
      ·have Md : (b : Int) ≤ (n : Int) := by omega
       have wb : IntKind.i64.wrap ((b : Int) + (k2 : Int)) = (b : Int) + (k2 : Int) := IntWalk.i64_in _ (by omega)
       obtain ⟨ys', f, ⟨ys, y1, y2, y3, rfl⟩, f1, f2⟩ := HP.out
       have K := aa (KM.out wr ys y1 y2 y3 a m b (by omega) (by have := Cb.out; omega) qI)
       have HB := aa hb
       have cL : Hid (∃ f, n + 1 ≤ b + f ∧ pz q n k f b (iJ q n ys a m b) = Z2) := ⟨f - 1, by have := Cb.out; omega, by rw [Kv (by omega) Cb.out hb hm qI] at f2; exact f2⟩
       clear f1 f2
       clear y1 y2 y3 hb hm HP
       go_wp2_with fail
       refine K.out.mono ?_
       clear K
       rintro e w2 ⟨rfl, hp⟩
       have HP := aa hp
       clear hp
       go_wp2_with fail
       go_roundg (n - b)
       case measure => have := qO.out; have := HB.out; have := Cb.out; omega
       case rel => exact ⟨b, by omega, qI, rfl, by go_num, (by obtain ⟨f, f1, f2⟩ := cL.out; exact ⟨_, f, HP.out, f1, f2⟩ : ∃ ys f, Pm A c xs ys w w2 ∧ n + 1 ≤ b + f ∧ pz q n k f b ys = Z2)⟩
      ·have Md : (n : Int) < (b : Int) := by omega
       by_cases VX : m < n
       ·have TS : (m : Int) < (n : Int) := by omega
        obtain ⟨ys', f, ⟨ys, y1, y2, y3, rfl⟩, f1, f2⟩ := HP.out
        have cL : Hid (iJ q n ys a m n = Z2) := (by rw [Kw (by omega) Cb.out hb hm qI VX] at f2; exact f2 : _ = _)
        clear f1 f2
        have K := aa (KM.out wr ys y1 y2 y3 a m n (by omega) VX (ao _))
        clear y1 y2 y3 hb hm HP
        go_wp2_with fail
        refine K.out.mono ?_
        clear K
        rintro e w2 ⟨rfl, hp⟩
        have HP := aa hp
        rw [cL.out] at HP
        clear hp
        go_wp2_with fail
        go_roundg (n + 1 - k2)
        case measure => have := rN.out; have := Cb.out; omega
        case rel => exact ⟨k2, by omega, by have := Cb.out; omega, by have := Cb.out; omega, rfl, (by obtain ⟨f, f1, f2⟩ := qi.out; exact ⟨_, f, HP.out, f1, f2⟩ : ∃ ys f, Pm A c xs ys w w2 ∧ n + 1 ≤ k2 + f ∧ tS q n f k2 ys = RES)⟩
       ·have TS : (n : Int) ≤ (m : Int) := by omega
        have cL : Hid (Pm A c xs Z2 w wr) := by
         obtain ⟨ys, f, h1, f1, f2⟩ := HP.out
         rw [OO (by omega) Cb.out hb hm qI VX] at f2
         rw [← f2]
         exact h1
        clear hb hm HP
        go_wp2_with fail
        go_roundg (n + 1 - k2)
        case measure => have := rN.out; have := Cb.out; omega
        case rel => exact ⟨k2, by omega, by have := Cb.out; omega, by have := Cb.out; omega, rfl, (by obtain ⟨f, f1, f2⟩ := qi.out; exact ⟨_, f, cL.out, f1, f2⟩ : ∃ ys f, Pm A c xs ys w wr ∧ n + 1 ≤ k2 + f ∧ tS q n f k2 ys = RES)⟩
    ·have JE : (n : Int) ≤ (k : Int) := by omega
     have cL : Hid (Pm A c xs RES w wr) := by
      obtain ⟨ys, f, h1, f1, f2⟩ := zl.out
      rw [ON j4] at f2
      rw [← f2]
      exact h1
     clear zl
     go_wp2_with fail
     go_end0
     exact cL.out.pmp
theorem qs (g : Nat) (cb : Array Value) (q : Int → Int → Int) (eg : ∀ args w, (callFunc g args).run Tryz.prog w = .ok (.enter g args) w) (w : World) (A : Option Addr) (c : Nat) (xs : List Int) (h : Ints w A c xs) (hl : xs.length ≤ 17592186044416) (hc : wz g cb q A xs w) :
  Calls Tryz.prog 140 #[.slice A xs.length c, .func (.func g) #[] cb] w (B9 A c xs (Ov q xs) w) := by
 have K := aa (xV g cb q eg w A c xs h hl hc)
 clear h hc
 go_enter Tryz.func140, Tryz.ntmps140
 go_wp2_with fail
 refine K.out.mono ?_
 clear K
 rintro e w2 ⟨rfl, hp⟩
 have HP : Hid (Pm A c xs (Ov q xs) w w2) := hp
 clear hp
 go_wp2_with fail
 go_end0
 exact HP.out.pmp
theorem yq (w : World) (L : aH) (S : Sv) (h : aK w L S) (m : Nat) (ok : S.Ok m) (n : Nat) (hn : n < S.list.length) (h0 : 0 < (S.rc n).lits.length) :
  Calls Tryz.prog 139 #[.pointer (some ⟨L.a, 0, none⟩), .int .i64 n] w fun e w' => e = .returned (.bool (S.locked n)) ∧ Fr [] w w' := by
 have qf : n < L.cs.length := by rw [h.lU]; exact hn
 have fm := h.nS qf
 obtain ⟨gc, gY, x0, -, -⟩ := h.nR qf
 have fJ := h.nK n qf
 have iq := ok.lit (n := n) (k := 0) h0
 rw [fm] at h0 iq
 obtain ⟨⟨A, c, l, b, ac⟩, hx⟩ : ∃ x, L.cs[n]! = x := ⟨_, rfl⟩
 rw [hx] at fm x0 fJ h0 iq
 simp only [Cw.rc] at fm x0 fJ h0 iq
 have nT := ok.vl
 have vq := ok.ll
 obtain ⟨ga, hA, ru⟩ := fJ.pos h0
 subst hA
 have cy := fJ.cell h0
 obtain ⟨y, hy⟩ : ∃ y, l[0]! = y := ⟨_, rfl⟩
 rw [hy] at cy iq
 obtain ⟨c0, -, -, c3, -⟩ := h.cells
 rw [gY] at c3
 have AV := h.lU
 rw [AV] at c3
 have jb : S.locked n = (decide (0 < S.T.km y) && decide (S.T.eD (tv y) = (n : Int) + 1)) := by
  unfold Sv.locked
  rw [fm]
  simp only
  rw [hy]
  rfl
 have hni : (n : Int) < (S.list.length : Int) := by omega
 have PW : (0 : Int) < (l.length : Int) := by omega
 have KV := aa (dt w L.tL S.T h.tr y (by omega) (by omega) ok.small)
 have KR := aa (i5 w L.tL S.T h.tr (tv y))
 have oQ := Dh (x := y) (by omega)
 have ep : IntKind.i64.wrap (-y) = -y := IntWalk.i64_in _ (by omega)
 have kD : IntKind.i64.wrap ((n : Int) + 1) = (n : Int) + 1 := IntWalk.i64_in _ (by omega)
 obtain ⟨v, hv⟩ : ∃ v, S.T.km y = v := ⟨_, rfl⟩
 obtain ⟨t, ht⟩ : ∃ t, tv y = t := ⟨_, rfl⟩
 obtain ⟨r, hr⟩ : ∃ r, S.T.eD t = r := ⟨_, rfl⟩
 rw [hv] at KV
 rw [ht, hr] at KR
 rw [ht] at oQ
 rw [jb, hv, ht, hr]
 obtain ⟨res, fa⟩ : ∃ res, (decide (0 < v) && decide (r = (n : Int) + 1)) = res := ⟨_, rfl⟩
 rw [fa]
 have dC := aa fa
 clear jb hv hr ht hy fm hx fJ h AV fa
 go_enter Tryz.func139, Tryz.ntmps139
 go_wp2_with fail
 refine KV.out.mono ?_
 clear KV
 rintro e w2 ⟨rfl, rfl⟩
 by_cases NY : 0 < v
 ·by_cases sa : r = (n : Int) + 1
  ·have hb : (r == (n : Int) + 1) = true := by simpa using sa
   by_cases xc : y < -y
   ·rw [if_pos xc] at oQ
    go_wp2_with fail
    try rw [show max y t = t by omega]
    refine KR.out.mono ?_
    rintro e w2 ⟨rfl, rfl⟩
    go_wp2_with fail
    go_ret
    exact ⟨by rw [← dC.out, decide_eq_true NY, decide_eq_true sa]; rfl, Fr.refl _ _⟩
   ·rw [if_neg xc] at oQ
    have kg : -y ≤ y := by omega
    go_wp2_with fail
    try rw [show max t (-t) = t by omega]
    refine KR.out.mono ?_
    rintro e w2 ⟨rfl, rfl⟩
    go_wp2_with fail
    go_ret
    exact ⟨by rw [← dC.out, decide_eq_true NY, decide_eq_true sa]; rfl, Fr.refl _ _⟩
  ·have hb : (r == (n : Int) + 1) = false := by simpa using sa
   by_cases xc : y < -y
   ·rw [if_pos xc] at oQ
    go_wp2_with fail
    try rw [show max y t = t by omega]
    refine KR.out.mono ?_
    rintro e w2 ⟨rfl, rfl⟩
    go_wp2_with fail
    go_ret
    exact ⟨by rw [← dC.out, decide_eq_true NY, decide_eq_false sa]; rfl, Fr.refl _ _⟩
   ·rw [if_neg xc] at oQ
    have kg : -y ≤ y := by omega
    go_wp2_with fail
    try rw [show max t (-t) = t by omega]
    refine KR.out.mono ?_
    rintro e w2 ⟨rfl, rfl⟩
    go_wp2_with fail
    go_ret
    exact ⟨by rw [← dC.out, decide_eq_true NY, decide_eq_false sa]; rfl, Fr.refl _ _⟩
 ·have hv1 : v ≤ 0 := by omega
  go_wp2_with fail
  go_ret
  exact ⟨by rw [← dC.out, decide_eq_false (by omega : ¬ 0 < v)]; rfl, Fr.refl _ _⟩
theorem CW (w : World) (L : aH) (S : Sv) (h : aK w L S) (k : Nat) (hk : w.cell? ⟨k, 0, none⟩ = some (.pointer (some ⟨L.a, 0, none⟩))) (x y : Nat) (hx : x < S.list.length) (hy : y < S.list.length) :
  Calls Tryz.prog 141 #[.int .i64 x, .int .i64 y, .pointer (some ⟨k, 0, none⟩)] w fun e w' => e = .returned (.int .i64 (B4 S (x : Int) (y : Int))) ∧ Fr [] w w' := by
 have hxc : x < L.cs.length := by rw [h.lU]; exact hx
 have O0 : y < L.cs.length := by rw [h.lU]; exact hy
 obtain ⟨gc, gY, -, -, x2⟩ := h.nR hxc
 obtain ⟨gc', Ud, -, -, y2⟩ := h.nR O0
 rw [gY] at Ud
 obtain rfl : gc = gc' := by simpa using Ud
 have ex := h.nS hxc
 have ey := h.nS O0
 obtain ⟨-, -, -, c3, -⟩ := h.cells
 rw [gY, h.lU] at c3
 have hxi : (x : Int) < (S.list.length : Int) := by omega
 have hyi : (y : Int) < (S.list.length : Int) := by omega
 have hq : B4 S (x : Int) (y : Int) = wrap64 ((L.cs[x]!).act - (L.cs[y]!).act) := by
  unfold B4
  rw [Int.toNat_natCast, Int.toNat_natCast, ex, ey]
  rfl
 rw [hq]
 obtain ⟨u, hu⟩ : ∃ u, (L.cs[x]!).act = u := ⟨_, rfl⟩
 obtain ⟨v, hv⟩ : ∃ v, (L.cs[y]!).act = v := ⟨_, rfl⟩
 rw [hu] at x2 ⊢
 rw [hv] at y2 ⊢
 have e0 := Ext.cell hk
 have e1 := Ext.cell c3
 have e2 := Ext.cell x2
 have e3 := Ext.cell y2
 clear hq hu hv ex ey h Ud gY hxc O0 hk c3 x2 y2
 go_enter Tryz.func141, Tryz.ntmps141
 go_wp2_with fail
 refine al (by kernel_rfl) (by kernel_rfl) ?_
 repeat (go_big_quiet_step (fail))
 refine wpQuiet_nil ?_
 rintro w2 ⟨u2, bJ⟩
 have aT : Hid (Fr [] w w2) := bJ ▸ u2.fr
 clear bJ u2
 clear e0 e1 e2 e3
 go_wp2_with fail
 go_ret
 exact ⟨rfl, aT.out⟩
theorem By : ∀ args w, (callFunc 141 args).run Tryz.prog w = .ok (.enter 141 args) w := enters_of Tryz.func141 (by kernel_rfl) rfl
theorem aK.YU {w : World} {L : aH} {S : Sv} (h : aK w L S) {n : Nat} (hn : n < L.cs.length) {gc : Nat} (gY : L.cA = some ⟨gc, 0, none⟩) :
  w.frozen? ⟨gc, n * 3, none⟩ = false ∧ w.frozen? ⟨gc, n * 3 + 1, none⟩ = false ∧
  aK ((w.setCell ⟨gc, n * 3, none⟩ (.slice none 0 0)).setCell ⟨gc, n * 3 + 1, none⟩ (.bool false)).drew { L with cs := L.cs.set n ⟨none, 0, [], false, (L.cs[n]!).act⟩ } { S with list := S.list.set n ⟨[], false, (S.rc n).act⟩ } ∧
   Fr [gc] w ((w.setCell ⟨gc, n * 3, none⟩ (.slice none 0 0)).setCell ⟨gc, n * 3 + 1, none⟩ (.bool false)).drew ∧ (L.cv gc).1 = L.id := by
 have r := h.sG
 unfold qc at r
 rw [gY] at r
 have jy : L.cv gc = (L.id, 3, 0) := h.t3 gc (by rw [gY]; simp [ah])
 have hf : Fr [gc] w ((w.setCell ⟨gc, n * 3, none⟩ (.slice none 0 0)).setCell ⟨gc, n * 3 + 1, none⟩ (.bool false)).drew := (((Fr.refl _ w).setCell (.inl (by simp)) _).setCell (.inl (by simp)) _).drew
 have o := h.off (P := (· = (3, 0))) hf (fun k hk hl => ⟨_, rfl, by simp at hk; subst hk; exact jy⟩)
 have ni := (World.ownsRow.stored r (n * 3) (.slice none 0 0)).1
 have adx := (World.ownsRow.stored ni (n * 3 + 1) (.bool false)).1
 have fm := h.nS hn
 have nI : ∀ j : Nat, (L.cs.set n ⟨none, 0, [], false, (L.cs[n]!).act⟩)[j]! = if n = j ∧ n < L.cs.length then ⟨none, 0, [], false, (L.cs[n]!).act⟩ else L.cs[j]! := fun j => du _ _ _ _
 refine ⟨World.ownsRow.frozenAt r _, World.ownsRow.frozenAt r _, ⟨?_, o.tr (by decide), o.hp (by decide), h.gy, ?_, h.yN, ?_, o.rws (by decide), o.sE (by decide), o.vh (by decide), o.rV (by decide), fun j hj => ?_, fun c hc => o.pN c hc (by simp),
  h.t0, h.t1, h.t2, h.t3, h.t4, h.t5, h.t6, h.t7, fun j hj k hk => ?_, h.t9⟩, hf, by rw [jy]⟩
 ·have := o.obj (by decide)
  simp only [m7, ak] at this ⊢
  exact this
 ·simp only
  rw [← h.yP, List.map_set]
  congr 1
  rw [fm]
  rfl
 ·unfold qc
  obtain ⟨g0, g1, g2⟩ := kJ L.cs n hn
  have e : ((ew L.cs).set (n * 3) (.slice none 0 0)).set (n * 3 + 1) (.bool false) = ew (L.cs.set n ⟨none, 0, [], false, (L.cs[n]!).act⟩) := by
   rw [← ns L.cs n _ hn]
   simp only
   refine (js ?_).symm
   rw [List.getElem?_set_ne (by omega), List.getElem?_set_ne (by omega)]
   exact g2
  simp only [ak]
  rw [← e, gY]
  exact World.ownsRow.drew adx
 ·simp only [ak] at hj
  simp only
  rw [nI]
  by_cases hc : n = j ∧ n < L.cs.length
  ·rw [if_pos hc]
   exact Ints.nil _
  ·rw [if_neg hc]
   exact o.nK j hj (by simp)
 ·simp only [ak] at hj
  simp only at hk
  rw [nI] at hk
  by_cases hc : n = j ∧ n < L.cs.length
  ·rw [if_pos hc] at hk
   simp [ah] at hk
  ·rw [if_neg hc] at hk
   exact h.t8 j hj k hk
namespace Sv
def wF (S : Sv) (n : Nat) : Bool := (S.rc n).jI && decide (2 < (S.rc n).lits.length) && !S.locked n
def gI (S : Sv) (k : Nat) : List Nat := (List.range k).filter S.wF
theorem zG (S : Sv) (k : Nat) : S.gI (k + 1) = S.gI k ++ if S.wF k = true then [k] else [] := by
 unfold gI
 rw [List.range_succ, List.filter_append, List.filter_cons, List.filter_nil]
theorem tm (S : Sv) (k : Nat) : (S.gI k).length ≤ k := by
 unfold gI
 have := List.length_filter_le S.wF (List.range k)
 rw [cS] at this
 exact this
end Sv
theorem Da {ys : List Int} {wl : List Nat} (h : ys.Perm (bv wl)) : ∃ ls : List Nat, ys = bv ls ∧ ls.Perm wl := by
 refine ⟨ys.map Int.toNat, ?_, ?_⟩
 ·unfold bv
  rw [List.map_map]
  refine (List.map_id ys).symm.trans (List.map_congr_left fun x hx => ?_)
  obtain ⟨n, _, rfl⟩ := bE.1 (h.mem_iff.1 hx)
  simp
 ·have := h.map Int.toNat
  unfold bv at this
  rw [List.map_map] at this
  have e : (Int.toNat ∘ fun n : Nat => (n : Int)) = id := by funext n; simp
  rw [e, List.map_id] at this
  exact this
namespace Sv
def gR (S : Sv) (ls : List Nat) (j : Nat) : Sv := (ls.take j).foldl cu S
theorem yQ (S : Sv) (ls : List Nat) {j : Nat} (h : j < ls.length) : S.gR ls (j + 1) = (S.gR ls j).cu ls[j]! := by
 unfold gR
 rw [List.take_add_one, List.foldl_append]
 simp only [ae, af h, aq, eI, List.foldl_cons, List.foldl_nil]
theorem BD {S : Sv} {ls : List Nat} (hp : ls.Perm S.qk) (he : bv ls = Ov (B4 S) (bv S.qk)) : EU S (S.gR ls (ls.length / 2)) := by
 have hn : S.qk.Nodup := List.Nodup.sublist List.filter_sublist List.nodup_range
 refine ⟨ls.take (ls.length / 2), List.Nodup.sublist (List.take_sublist _ _) (hp.nodup_iff.2 hn), fun n hn => hp.mem_iff.1 (List.mem_of_mem_take hn), ⟨?_, ?_⟩, rfl⟩
 ·rw [bk, ← hp.length_eq]
  omega
 ·have e : ls = (Ov (B4 S) (bv S.qk)).map Int.toNat := by
   rw [← he]
   unfold bv
   rw [List.map_map]
   have e2 : (Int.toNat ∘ fun n : Nat => (n : Int)) = id := by funext n; simp
   rw [e2, List.map_id]
  unfold Mi
  rw [← e, ← hp.length_eq]
end Sv
theorem yg : QI := by
 intro w L S h ok vp lX
 obtain ⟨w1, ep⟩ : ∃ w1, w.alloc (.cells #[.pointer (some ⟨L.a, 0, none⟩)] 78) = w1 := ⟨_, rfl⟩
 have gu : Hid (Fr [] w w1) := by rw [← ep]; exact aP _ _
 have nJ : w1.cell? ⟨w.heap.size, 0, none⟩ = some (.pointer (some ⟨L.a, 0, none⟩)) := by rw [← ep]; exact (At.new w _ _).cell 0
 have pG : w1.heap.size = w.heap.size + 1 := by rw [← ep]; simp
 obtain ⟨L1, vx⟩ : ∃ L1, L.seal w = L1 := ⟨_, rfl⟩
 have H1 : Hid (aK w1 L1 S) := by rw [← vx]; exact h.seal.keep gu.out
 have dV : Hid (L.ext L1 w) := by rw [← vx]; exact L.kq w
 have vc : Hid (∀ k, w.heap.size ≤ k → (L1.cv k).1 ≠ L1.id) := fun k hk => by rw [← vx]; exact aH.gJ hk
 have U6 := aa pG
 have zo := aa nJ
 have kQ := aa ok
 have kj : L1.a = L.a := dV.out.1
 obtain ⟨-, -, -, c3, -⟩ := H1.out.cells
 rw [kj, H1.out.lU] at c3
 have oN : Hid (S.list.length ≤ 2199023255552) := ok.ll
 have vq := ok.ll
 clear h ok vx pG
 go_enter Tryz.func108, Tryz.ntmps108
 go_upto_region 2 with fail
 clear ep
 go_wp2_with fail
 go_loopg [2, 12] S.list.length (fun g x2 NU wr => ∃ (k : Nat) (A' : Option Addr) (c' : Nat), k + g = S.list.length ∧ x2 = .slice A' (S.gI k).length c' ∧ NU = .int .i64 k ∧ Hid (Ints wr A' c' (bv (S.gI k))) ∧ Hid (∀ j, j ∈ ah A' → w1.heap.size ≤ j) ∧ Hid (Fr [] w1 wr))
 case atStart => exact ⟨0, none, 0, by omega, rfl, rfl, Ints.nil _, fun j hj => by simp [ah] at hj, Fr.refl _ _⟩
 case round =>
  obtain ⟨k, A', c', hk, rfl, rfl, HI, zm, HF⟩ := hrel
  have HK := aa hk
  have j4 : k ≤ S.list.length := by omega
  clear hk
  by_cases bM : k < S.list.length
  ·have H2 := aa (H1.out.keep HF.out)
   have hkc : k < L1.cs.length := by rw [H1.out.lU]; exact bM
   obtain ⟨gc, gY, x0, x1, x2⟩ := H2.out.nR hkc
   have fm := H1.out.nS hkc
   obtain ⟨⟨Ar, cr, lr, br, ar⟩, hx⟩ : ∃ x, L1.cs[k]! = x := ⟨_, rfl⟩
   rw [hx] at x0 x1 x2 fm
   simp only [Cw.rc] at x0 x1 x2 fm
   rw [gY] at c3
   have cb := HF.out.av zo.out
   have c3' := HF.out.av c3
   obtain ⟨w2, kD⟩ : ∃ w2, wr.alloc (.cells #[.slice Ar lr.length cr, .bool br, .int .i64 ar] 168) = w2 := ⟨_, rfl⟩
   have cJ : Hid (Fr [] w1 w2) := kD ▸ (HF.out.ag (aP _ _))
   have ZM : Hid (Fr [] wr w2) := kD ▸ (aP _ _)
   have n0 : w2.cell? ⟨wr.heap.size, 0, none⟩ = some (.slice Ar lr.length cr) := by rw [← kD]; exact (At.new wr _ _).cell 0
   have n1 : w2.cell? ⟨wr.heap.size, 1, none⟩ = some (.bool br) := by rw [← kD]; exact (At.new wr _ _).cell 1
   have cb2 := cJ.out.av zo.out
   have fd : S.wF k = (br && decide (2 < lr.length) && !S.locked k) := by unfold Sv.wF; rw [fm]
   have Nc := aa fd
   have rL := aa (S.zG k)
   have KL : Hid (0 < lr.length → Calls Tryz.prog 139 #[.pointer (some ⟨L.a, 0, none⟩), .int .i64 k] w2 fun e w' => e = .returned (.bool (S.locked k)) ∧ Fr [] w2 w') := fun h0 => by
    have := yq w2 L1 S (H1.out.keep cJ.out) 0 kQ.out k bM (by rw [fm]; exact h0)
    rw [kj] at this
    exact this
   have JE : (k : Int) < (S.list.length : Int) := by omega
   have wk : IntKind.i64.wrap ((k : Int) + 1) = (k : Int) + 1 := IntWalk.i64_in _ (by omega)
   clear hx fm fd
   go_upto_region 5 with fail
   clear kD c3' c3 x0 x1 x2 cb gY
   obtain ⟨wb, fd⟩ : ∃ wb, S.wF k = wb := ⟨_, rfl⟩
   rw [fd] at Nc rL
   have HWQ := aa fd
   clear fd
   go_cut [30] from 13 to 34 (fun x wx => x = .bool wb ∧ Hid (Fr [] w2 wx))
   case first =>
    cases br with
    | false =>
     have hq : wb = false := by rw [Nc.out]; rfl
     clear KL
     go_wp2_with fail
     go_meet
     case rel => exact ⟨by rw [hq], Fr.refl _ _⟩
    | true =>
     by_cases h2 : 2 < lr.length
     ·have h2i : (2 : Int) < (lr.length : Int) := by omega
      have KL := KL.out (by omega)
      obtain ⟨lk, jb⟩ : ∃ lk, S.locked k = lk := ⟨_, rfl⟩
      rw [jb] at KL Nc
      have hq : wb = !lk := by rw [Nc.out, decide_eq_true h2]; rfl
      have Cb := aa KL
      have HQ := aa hq
      clear KL hq jb
      go_wp2_with fail
      refine Cb.out.mono ?_
      clear Cb
      rintro e w3 ⟨rfl, hf⟩
      have cR := aa hf
      clear hf
      cases lk with
      | true =>
       go_wp2_with fail
       go_meet
       case rel => exact ⟨by rw [HQ.out]; rfl, cR.out⟩
      | false =>
       go_wp2_with fail
       go_meet
       case rel => exact ⟨by rw [HQ.out]; rfl, cR.out⟩
     ·have h2i : (lr.length : Int) ≤ 2 := by omega
      have hq : wb = false := by rw [Nc.out, decide_eq_false h2]; rfl
      clear KL
      go_wp2_with fail
      go_meet
      case rel => exact ⟨by rw [hq], Fr.refl _ _⟩
   case rest =>
    obtain ⟨rfl, cR⟩ := hcut
    obtain ⟨w3, rfl⟩ : ∃ x, x = wc := ⟨_, rfl⟩
    have Fe := aa (cJ.out.ag cR.out)
    have ZL := aa (ZM.out.ag cR.out)
    clear KL n0 n1 cb2 cJ cR ZM
    cases wb with
    | false =>
     have HW := rL.out
     simp only [df, if_false, dJ] at HW
     have HW := aa HW
     go_wp2_with fail
     go_roundg (gk - 1)
     case measure => have := HK.out; omega
     case rel => exact ⟨k + 1, A', c', by have := HK.out; omega, by rw [HW.out], by go_num, by rw [HW.out]; exact HI.out.eE ZL.out, zm.out, Fe.out⟩
    | true =>
     have HW := rL.out
     simp only [if_true] at HW
     have HW := aa HW
     obtain ⟨wb, fd⟩ : ∃ W, w3.alloc (.cells #[.int .i64 (k : Int)] 3) = W := ⟨_, rfl⟩
     have gu : Hid (Fr [] w3 wb) := fd ▸ aP _ _
     have nW : wb.cell? ⟨w3.heap.size, 0, none⟩ = some (.int .i64 (k : Int)) := by
      have := (At.new w3 3 #[.int .i64 (k : Int)]).cell 0
      rw [fd] at this
      simpa using this
     have HLW : Hid ((S.gI k).length ≤ k) := S.tm k
     go_wp2_with (at_builtin; (refine cM _ rfl _ _ rfl A' c' (bv (S.gI k)) (S.gI k).length rfl (aR _).symm ((HI.out.eE ZL.out).fr gu.out (by simp)) ⟨w3.heap.size, 0, none⟩ 1 (k : Int) rfl nW (by rw [aR]; have := HLW.out; omega) ?_; intro g cap w4 fJ sg hg hs3))
     have Nj : Hid (Ints w4 (some ⟨g, 0, none⟩) cap (bv (S.gI (k + 1)))) := by
      rw [HW.out, ← jn]
      exact fJ
     have zD : Hid ((S.gI (k + 1)).length = (S.gI k).length + 1) := by rw [HW.out]; simp [Hid]
     have Vr : Hid (∀ j, j ∈ ah (some (⟨g, 0, none⟩ : Addr)) → w1.heap.size ≤ j) := fun j hj => by
      simp [ah] at hj
      subst hj
      rcases hg with h1 | h1
      ·exact zm.out j h1
      ·have := Fe.out.size; have := gu.out.size; omega
     have gS : Hid (Fr [] w1 w4) := (Fe.out.ag gu.out).trans sg (fun x hx => .inr (zm.out x hx))
     clear nW fJ sg hg hs3 fd
     go_roundg (gk - 1)
     case measure => have := HK.out; omega
     case rel => exact ⟨k + 1, some ⟨g, 0, none⟩, cap, by have := HK.out; omega, by rw [zD.out], by go_num, Nj.out, Vr.out, gS.out⟩
  ·obtain rfl : k = S.list.length := by omega
   obtain ⟨wl, Rs⟩ : ∃ wl, S.gI S.list.length = wl := ⟨_, rfl⟩
   have HWL : Hid (S.qk = wl) := Rs
   have oU : ∀ x ∈ wl, x < S.list.length := fun x hx => by rw [← Rs] at hx; exact (Sv.Fp (S := S) hx).1
   have QY := aa oU
   have hnw : wl.length ≤ S.list.length := by rw [← Rs]; exact S.tm _
   rw [Rs] at HI ⊢
   clear Rs oU
   have Oh : Hid (w.heap.size < w1.heap.size) := by have := U6.out; show _ < _; omega
   have KS := aa (qs 141 #[.pointer (some ⟨w.heap.size, 0, none⟩)] (B4 S) By wr A' c' (bv wl) HI.out (by rw [aR]; omega) (fun W hW x hx y hy => by
    have cE : Fr [] w1 W := HF.out.trans hW (fun x hx => .inr (zm.out x hx))
    obtain ⟨x', hx', rfl⟩ := bE.1 hx
    obtain ⟨y', VP, rfl⟩ := bE.1 hy
    have := CW W L1 S (H1.out.keep cE) w.heap.size (by rw [kj]; exact cE.av zo.out) x' y' (QY.out x' hx') (QY.out y' VP)
    exact this))
   rw [aR] at KS
   obtain ⟨n, hn⟩ : ∃ n, wl.length = n := ⟨_, rfl⟩
   rw [hn] at KS ⊢
   have ke := aa hn
   rw [hn] at hnw
   clear hn
   go_upto_region 8 with fail
   go_wp2_with fail
   refine KS.out.mono ?_
   clear KS
   rintro e w2 ⟨rfl, ys, y1, y2, y3, y4⟩
   have cd : Fr [] w1 w2 := HF.out.trans y3 (fun x hx => .inr (zm.out x hx))
   obtain ⟨ls, rfl, oR⟩ := Da y1
   have HY4 : Hid (bv ls = Ov (B4 S) (bv S.qk)) := (by rw [y4, HWL.out] : _ = _)
   have td : Hid (ls.Perm S.qk) := oR.trans (HWL.out ▸ cN _)
   have E9 : Hid (ls.length = n) := oR.length_eq.trans ke.out
   have QZ := aa (fun x (hx : x ∈ ls) => QY.out x (oR.mem_iff.1 hx))
   have lZ := aa y2
   have cJ := aa cd
   have sl : n ≤ c' ∧ (A' = none → n = 0) := by
    have h1 := y2.form
    have h2 := E9.out
    have h3 := aR ls
    rcases h1 with ⟨a1, a2, a3⟩ | ⟨g, a1, a2, a3, a4⟩
    ·have : ls.length = 0 := by rw [← h3, a3]; rfl
     exact ⟨by omega, fun _ => by omega⟩
    ·exact ⟨by omega, fun e => by rw [a1] at e; cases e⟩
   obtain ⟨sl, RI⟩ := sl
   have Jg := aa RI
   obtain ⟨h, hh⟩ : ∃ h : Nat, n / 2 = h := ⟨_, rfl⟩
   have hdiv : (n : Int) / 2 = (h : Int) := by omega
   have aiE : IntKind.i64.wrap ((h : Int)) = (h : Int) := IntWalk.i64_in _ (by omega)
   have hhc : h ≤ c' := by omega
   have ZK := aa hh
   have hhn : h ≤ n := by omega
   clear y1 y2 y3 y4 cd oR RI HI HF hh
   go_upto_region 9 with fail
   go_wp2_with fail
   go_loopg [45] h (fun g x wr => ∃ (j : Nat) (Lj : aH), j + g = h ∧ x = .int .i64 j ∧ Hid (aK wr Lj (S.gR ls j)) ∧ Hid (Lj.a = L1.a ∧ Lj.id = L1.id ∧ Lj.cv = L1.cv) ∧ Hid (Ints wr A' c' (bv ls)) ∧ Hid (Fr (L.own w) w wr) ∧ Hid (wr.cell? ⟨w.heap.size, 0, none⟩ = some (.pointer (some ⟨L.a, 0, none⟩))))
   case atStart => exact ⟨0, L1, by omega, rfl, H1.out.keep cJ.out, ⟨rfl, rfl, rfl⟩, lZ.out, (gu.out.ag cJ.out).mono (fun k hk => by cases hk), cJ.out.av zo.out⟩
   case round =>
    obtain ⟨j, Lj, hj, rfl, HS, Nv, HIJ, HFJ, HCJ⟩ := hrel
    have HJ := aa hj
    have hjh : j ≤ h := by omega
    clear hj
    by_cases bM : j < h
    ·have Ip : j < (bv ls).length := by rw [aR, E9.out]; omega
     obtain ⟨ga, hA, ru⟩ := HIJ.out.pos Ip
     subst hA
     have cx := HIJ.out.cell Ip
     rw [nt] at cx
     obtain ⟨v, hv⟩ : ∃ v, ls[j]! = v := ⟨_, rfl⟩
     rw [hv] at cx
     have P0 : j < ls.length := by rw [E9.out]; omega
     have hvm : v ∈ ls := by rw [← hv, ae, af P0]; exact List.getElem_mem P0
     have nT := QZ.out v hvm
     have ni : S.gR ls (j + 1) = (S.gR ls j).cu v := by rw [S.yQ ls P0, hv]
     have Gw := aa ni
     have ro := Sv.jD (ls.take j) S
     have hlen : (S.gR ls j).list.length = S.list.length := ro.2.2.1
     have j3 : (S.gR ls j).many = S.many - (j : Int) := by
      have := ro.2.2.2.2.2
      rw [bk, iH (by omega)] at this
      exact this
     obtain ⟨Sj, hSj⟩ : ∃ Sj, S.gR ls j = Sj := ⟨_, rfl⟩
     rw [hSj] at HS Gw hlen j3
     have anI := aa hlen
     have hla : Lj.a = L.a := Nv.out.1.trans kj
     have hvc : v < Lj.cs.length := by rw [HS.out.lU, hlen]; exact nT
     obtain ⟨gc, gY, x0, x1, x2⟩ := HS.out.nR hvc
     obtain ⟨f0, f1, Ef, sS, hd3⟩ := HS.out.YU hvc gY
     obtain ⟨-, -, -, c3, -, -, -, -, -, -, -, zz, -⟩ := HS.out.cells
     rw [hla] at c3 zz
     rw [gY, HS.out.lU, hlen] at c3
     have cb := HCJ.out
     have hvi : (v : Int) < (S.list.length : Int) := by omega
     obtain ⟨W1, ik⟩ : ∃ W, ((wr.setCell ⟨gc, v * 3, none⟩ (.slice none 0 0)).setCell ⟨gc, v * 3 + 1, none⟩ (.bool false)).drew = W := ⟨_, rfl⟩
     have UW := aa ik
     rw [ik] at Ef sS
     have H1 := aa Ef
     have Sr := aa sS
     have Vx := aa hd3
     have hwm : IntKind.i64.wrap (Sj.many - 1) = Sj.many - 1 := IntWalk.i64_in _ (by rw [j3]; omega)
     have PW : (j : Int) < (h : Int) := by omega
     clear ni hSj ro hlen j3 hvm Ip P0 hv ik Ef sS hd3 x2
     go_wp2_with fail
     go_region
     clear x0 x1 f0 f1 c3 zz cb
     have ik := UW.out
     rw [ik]
     clear ik UW
     have e2 : Lj.ext { Lj with cs := Lj.cs.set v ⟨none, 0, [], false, (Lj.cs[v]!).act⟩ } wr := ⟨rfl, rfl, fun k _ e => e⟩
     have eL : L.ext Lj w := ⟨hla, Nv.out.2.1.trans dV.out.2.1, fun k hk e => dV.out.2.2 k hk (by rw [← Nv.out.2.2]; exact e)⟩
     have agM : Hid (Fr (L.own w) w W1) := aH.aI eL HFJ.out (aH.fE Sr.out (fun k hk _ => by simp at hk; rw [hk]; exact Vx.out))
     obtain ⟨L2, Uv⟩ : ∃ L2, { Lj with cs := Lj.cs.set v ⟨none, 0, [], false, (Lj.cs[v]!).act⟩ } = L2 := ⟨_, rfl⟩
     have lY : Hid (L2.a = L1.a ∧ L2.id = L1.id ∧ L2.cv = L1.cv) := by rw [← Uv]; exact Nv.out
     rw [Uv] at H1
     have X4 : L2.a = L.a := lY.out.1.trans kj
     have R6 : L.ext L2 w := ⟨X4, lY.out.2.1.trans dV.out.2.1, fun k hk e => dV.out.2.2 k hk (by rw [← lY.out.2.2]; exact e)⟩
     obtain ⟨-, -, -, -, -, -, -, -, -, -, -, zz, -⟩ := H1.out.cells
     obtain ⟨g1, g2⟩ := H1.out.nE 11 (.int .i64 (Sj.many - 1)) (Sj.cu v) (by simp [m7, Sv.cu]) ⟨rfl, rfl, rfl, rfl, rfl, rfl, rfl⟩
     have f11 := H1.out.obj.frozen 11
     rw [X4] at zz g1 g2 f11
     have FV : w.heap.size ≠ gc := fun e => by
      have := vc.out gc (by omega)
      rw [lY.out.2.2.symm, lY.out.2.1.symm] at this
      exact this (by rw [lY.out.2.2, ← Nv.out.2.2, lY.out.2.1, ← Nv.out.2.1]; exact Vx.out)
     have cb : W1.cell? ⟨w.heap.size, 0, none⟩ = some (.pointer (some ⟨L.a, 0, none⟩)) := Sr.out.aZ (by simpa using FV) HCJ.out
     have ag0 := aa cb
     have oz : w.heap.size ≠ L.a := fun e => by
      have := vc.out L.a (by omega)
      rw [← kj, ← lY.out.1, ← lY.out.2.2, ← lY.out.2.1] at this
      exact this (by rw [H1.out.t0])
     have Vg := aa oz
     have Wm := aa g1
     have rN : Hid (Fr (L.own w) w (W1.setCell ⟨L.a, 11, none⟩ (.int .i64 (Sj.many - 1)))) := aH.aI R6 agM.out g2
     have Vo : Hid (Ints (W1.setCell ⟨L.a, 11, none⟩ (.int .i64 (Sj.many - 1))) (some ⟨ga, 0, none⟩) c' (bv ls)) := by
      have np : (L1.cv ga).1 ≠ L1.id := vc.out ga (by have := zm.out ga (by simp [ah]); have := Oh.out; omega)
      have q1 : Ints W1 (some ⟨ga, 0, none⟩) c' (bv ls) := HIJ.out.fr Sr.out (fun k hk hm => by
       simp [ah] at hk hm
       subst hk
       rw [hm] at np
       exact np (by rw [← Nv.out.2.2, ← Nv.out.2.1]; exact Vx.out))
      refine q1.fy (p := ⟨L.a, 11, none⟩) (fun hk => ?_) _
      simp [ah] at hk
      rw [← hk] at np
      rw [← kj, ← lY.out.1, ← lY.out.2.2, ← lY.out.2.1] at np
      exact np (by rw [H1.out.t0])
     have wj : IntKind.i64.wrap ((j : Int) + 1) = (j : Int) + 1 := IntWalk.i64_in _ (by omega)
     clear g1 g2 e2 eL R6 Uv FV oz
     go_wp2_with fail
     go_roundg (gk - 1)
     case measure => have := HJ.out; omega
     case rel => exact ⟨j + 1, L2, by have := HJ.out; omega, by go_num, Gw.out ▸ Wm.out, lY.out, Vo.out, rN.out, ((Fr.refl [L.a] W1).setCell (p := ⟨L.a, 11, none⟩) (.inl (by simp)) (.int .i64 (Sj.many - 1))).aZ (p := ⟨w.heap.size, 0, none⟩) (by simpa using Vg.out) ag0.out⟩
    ·obtain rfl : j = h := by omega
     have FF : Hid (∃ S', Sv.EU S S' ∧ me (.tuple #[]) S' L w (.returned (.tuple #[])) wr) := ⟨S.gR ls j, by
      have := Sv.BD td.out HY4.out
      rw [E9.out, ZK.out] at this
      exact this, rfl, Lj, HS.out, ⟨Nv.out.1.trans kj, Nv.out.2.1.trans dV.out.2.1, fun k hk e => dV.out.2.2 k hk (by rw [← Nv.out.2.2]; exact e)⟩, HFJ.out⟩
     go_wp2_with fail
     go_end0
     exact FF.out
theorem Kj {w : World} {e : TypeId} {A : Option Addr} {n c : Nat} {xs : List Value} (h : w.ownsRow 0 e 1 (.slice A n c) n xs) : w.ownsRow 0 e 1 (.slice A 0 c) 0 [] := by
 refine ⟨by simp, ?_⟩
 rcases h.2 with ⟨hv, rfl⟩ | ⟨g, cap, cur, hv, hb, hg, hn, hm, hs, ht⟩
 ·simp only [Value.slice.injEq, true_and] at hv
  obtain ⟨rfl, rfl⟩ := hv
  exact .inl ⟨rfl, rfl⟩
 ·simp only [Value.slice.injEq, true_and] at hv
  obtain ⟨rfl, rfl⟩ := hv
  exact .inr ⟨g, c, cur, rfl, hb, hg, bV _, hm, hs, by simp⟩
theorem OK {w : World} {e : TypeId} {A : Option Addr} {n c : Nat} {xs : List Value} (h : w.ownsRow 0 e 1 (.slice A n c) n xs) : n ≤ c := by
 rcases h.2 with ⟨hv, rfl⟩ | ⟨g, cap, cur, hv, hb, hg, hn, hm, hs, ht⟩
 ·exact bV _
 ·simp only [Value.slice.injEq, true_and] at hv
  rw [hv.2]
  exact hn
theorem Br (w : World) (n : Nat) (hn : n ≤ 4194304) :
  Calls Tryz.prog 135 #[.slice none 0 0, .int .i64 n] w fun e w' => ∃ A c, e = .returned (.slice A 0 c) ∧ w'.ownsRow 0 22 1 (.slice A 0 c) 0 [] ∧ (∀ k, k ∈ ah A → w.heap.size ≤ k) ∧ Fr [] w w' := by
 have d1 : decide ((n : Int) < 0) = false := decide_eq_false (by omega)
 have Jv : IntKind.i64.wrap (0 - 0) = 0 := by decide
 have ep : IntKind.i64.wrap ((n : Int) - 0) = n := IntWalk.i64_in _ (by omega)
 have kD : IntKind.i64.wrap (n : Int) = n := IntWalk.i64_in _ (by omega)
 by_cases h0 : n = 0
 ·subst h0
  go_enter Tryz.func135, Tryz.ntmps135
  go_wp2_with fail
  go_ret
  exact ⟨none, 0, rfl, World.ownsRow_nil _ 0 _ 1, fun k hk => by simp [ah] at hk, Fr.refl _ _⟩
 ·have d2 : decide (0 < (n : Int)) = true := decide_eq_true (by omega)
  have RL : 0 < n := by omega
  obtain ⟨A', c', w', lV, ho, hf, hg⟩ := kr w 28 3 28 22 (.slice none 0 0) 24 Tryz.underlying28 Tryz.underlying3 nf rfl rfl none 0 0 [] (World.ownsRow_nil w 0 22 1) n (by unfold maxLen; omega) (by omega) (by omega)
  have sl := OK ho
  have HO := aa (Kj ho)
  have HF := aa hf
  have HG : Hid (∀ k, k ∈ ah A' → w.heap.size ≤ k) := fun k hk => by
   rcases hg k hk with h1 | h1
   ·simp [ah] at h1
   ·exact h1
  simp only [cZ] at sl lV
  clear ho hf hg h0
  rcases A' with _ | ⟨ga, go, gs⟩
  ·exfalso
   rcases HO.out.2 with ⟨hv, _⟩ | ⟨g, cap, cur, hv, _⟩
   ·simp only [Value.slice.injEq, true_and] at hv
    omega
   ·simp at hv
  ·go_enter Tryz.func135, Tryz.ntmps135
   go_wp2_with (at_builtin; refine Lib.wpList_append_run _ rfl _ _ _ _ rfl _ _ rfl rfl _ _ lV ?_)
   go_ret
   exact ⟨some ⟨ga, go, gs⟩, c', rfl, HO.out, HG.out, HF.out⟩
theorem o3 (wb : World) {ops : Array Oper} {rest : List Oper} {o : Oper} {a : Act} {Q : Exit → Act → World → Prop} (ui : o.guard = none) (s x : Operand)
  (ho : o.op = .call { callee := .builtin .append, args := #[s, x], argTypes := #[28, 28] }) {w3 : World} {B : Nat} (A : Option Addr) (c : Nat) (hs : List Ls) (HN : NwLs w3 B A c hs) (fd : Fr [] w3 wb) (hB : B ≤ wb.heap.size) (n : Nat) (VS : a.eval s = .slice A n c) (hn : n = hs.length)
  (ad : Addr) (m d : Nat) (ms : List Ls) (hx : a.eval x = .slice (some ad) m d) (hm : m = ms.length) (hr : ∀ j : Nat, j < ms.length → wb.cell? (ad.add j) = some (ms[j]!).val)
  (AT : ∀ h ∈ ms, Ints wb h.A h.c h.l ∧ Ra h.l ∧ h.l.length ≤ 1048576 ∧ ∀ k, k ∈ ah h.A → B ≤ k) (hlen : hs.length + ms.length ≤ 4194304)
  (h : ∀ A' cap w', NwLs w' B A' cap (hs ++ ms) → Fr (ah A) wb w' → (∀ k, k ∈ ah A' → k ∈ ah A ∨ k = wb.heap.size) → wpList Tryz.prog ops Q rest (a.put o.dst (.slice A' (n + m) cap)) w') :
  wpList Tryz.prog ops Q (o :: rest) a wb :=
 dp wb ui s x ho A c hs n VS hn (HN.keep fd).row ad m d ms hx hm hr hlen fun A' cap w' h1 h2 h3 h4 => h A' cap w' (HN.more fd AT h2 h1 h3 hB) h2 h3
def WB (kX jK : List Ls) (k : Nat) : List Ls := if k = 0 then [] else if k = 1 then kX else kX ++ jK
theorem NwLs.yX {w : World} {B : Nat} {A : Option Addr} {c : Nat} {hs : List Ls} (k : NwLs w B A c hs) : (A = none ∧ hs = [] ∧ c = 0) ∨ ∃ g, A = some ⟨g, 0, none⟩ ∧ ∀ j : Nat, j < hs.length → w.cell? ⟨g, j, none⟩ = some (hs[j]!).val := by
 rcases k.row.2 with ⟨hv, h0⟩ | ⟨g, cap, cur, hv, hb, hg, hn, hm, jK, ht⟩
 ·simp only [Value.slice.injEq] at hv
  exact .inl ⟨hv.1, a6 hv.2.1, hv.2.2⟩
 ·simp only [Value.slice.injEq, true_and] at hv
  obtain ⟨rfl, rfl⟩ := hv
  refine .inr ⟨g, rfl, fun j hj => ?_⟩
  rw [World.ownsRow.cellAt k.row j (by omega)]
  simp only [bh, af hj, dc, ae, aq]
theorem yV (w : World) (G : Nat) (B : Nat) (hB : B ≤ w.heap.size) (A1 A2 : Option Addr) (c1 c2 : Nat) (kX jK : List Ls) (h1 : NwLs w B A1 c1 kX) (h2 : NwLs w B A2 c2 jK)
  (Ev : w.cell? ⟨G, 0, none⟩ = some (.slice A1 kX.length c1)) (Bk : w.cell? ⟨G, 1, none⟩ = some (.slice A2 jK.length c2)) (hl : kX.length + jK.length ≤ 4194304) :
  Calls Tryz.prog 103 #[.slice (some ⟨G, 0, none⟩) 2 2] w fun e w' => ∃ A c, e = .returned (.slice A (kX ++ jK).length c) ∧ NwLs w' B A c (kX ++ jK) ∧ Fr [] w w' := by
 have KG := aa (fun W n hn => Br W n hn)
 have rM := aa h1
 have jp := aa h2
 have mg := aa Ev
 have kS := aa Bk
 have HBW := aa hB
 clear h1 h2
 obtain ⟨n1, jZ⟩ : ∃ n, kX.length = n := ⟨_, rfl⟩
 obtain ⟨n2, se⟩ : ∃ n, jK.length = n := ⟨_, rfl⟩
 have oO := aa jZ
 have lY := aa se
 have JA : (kX ++ jK).length = n1 + n2 := by rw [ai, jZ, se]
 rw [JA]
 rw [jZ] at Ev hl
 rw [se] at Bk hl
 obtain ⟨n3, VW⟩ : ∃ n : Nat, (n1 : Int) + (n2 : Int) = (n : Int) := ⟨n1 + n2, by omega⟩
 have Jv : IntKind.i64.wrap (0 + (n1 : Int)) = n1 := by rw [IntWalk.i64_in _ (by omega)]; omega
 have ep : IntKind.i64.wrap ((n1 : Int) + (n2 : Int)) = (n3 : Int) := by rw [IntWalk.i64_in _ (by omega)]; omega
 have dn1 : decide ((n1 : Int) < 0) = false := decide_eq_false (by omega)
 have dn2 : decide ((n3 : Int) < 0) = false := decide_eq_false (by omega)
 clear jZ se JA hB
 go_enter Tryz.func103, Tryz.ntmps103
 go_wp2_with fail
 go_loopg [3, 11] 2 (fun gk x3 xC wr => ∃ k : Nat, k + gk = 2 ∧ x3 = .int .i64 (if k = 0 then (0 : Int) else if k = 1 then (n1 : Int) else (n3 : Int)) ∧ xC = .int .i64 k ∧ Hid (wr = w))
 case atStart => exact ⟨0, rfl, rfl, rfl, rfl⟩
 case round =>
  obtain ⟨k, hk, rfl, rfl, HW⟩ := hrel
  have hw := HW.out.symm
  subst hw
  clear HW
  have hk3 : k = 0 ∨ k = 1 ∨ k = 2 := by omega
  rcases hk3 with rfl | rfl | rfl
  ·go_wp2_with fail
   go_roundg (gk - 1)
   case measure => omega
   case rel => exact ⟨1, by omega, by go_num, by go_num, rfl⟩
  ·go_wp2_with fail
   go_roundg (gk - 1)
   case measure => omega
   case rel => exact ⟨2, by omega, by go_num, by go_num, rfl⟩
  ·have KG1 := aa (KG.out w n3 (by omega))
   clear hk KG Jv ep dn1 dn2
   go_wp2_with fail
   refine KG1.out.mono ?_
   clear KG1
   rintro e w1 ⟨A3, c3, rfl, ho3, yC, cY⟩
   have dv := aa cY
   have n8 : Hid (NwLs w1 B A3 c3 []) := ⟨ho3, fun k hk => aE HBW.out (yC k hk), fun h hh => by cases hh⟩
   have anF : Hid (n1 + n2 = n3) := (by show _ = _; omega)
   have qO := aa yC
   clear ho3 yC cY VW
   go_wp2_with fail
   go_loopg [6, 27] 2 (fun gk x6 x27 wr => ∃ (k : Nat) (A' : Option Addr) (c' : Nat) (hs : List Ls), k + gk = 2 ∧ x6 = .slice A' hs.length c' ∧ x27 = .int .i64 k ∧ Hid (hs = WB kX jK k) ∧ Hid (NwLs wr B A' c' hs) ∧ Hid (∀ k, k ∈ ah A' → w.heap.size ≤ k) ∧ Hid (Fr [] w wr))
   case atStart => exact ⟨0, A3, c3, [], rfl, rfl, rfl, rfl, n8.out, qO.out, dv.out⟩
   case round =>
    clear n8 dv
    obtain ⟨k, A', c', hs, hk, rfl, rfl, HE, HN, HG, HF⟩ := hrel
    have HK := aa hk
    have hk3 : k = 0 ∨ k = 1 ∨ k = 2 := by omega
    clear hk
    have wy : Hid (B ≤ wr.heap.size) := aE HBW.out HF.out.size
    rcases hk3 with rfl | rfl | rfl
    ·have hc := HF.out.av Ev
     have HM := aa (rM.out.keep HF.out)
     have dV : Hid (hs ++ kX = WB kX jK 1) := (by rw [HE.out]; rfl : _ = _)
     rcases HM.out.yX with ⟨rfl, h0, rfl⟩ | ⟨g1, rfl, vw⟩
     ·have AS : n1 = 0 := by rw [← oO.out, h0]; rfl
      have cL : Hid (hs = WB kX jK 1) := ((show hs = hs ++ kX by rw [h0, dJ]).trans dV.out : _ = _)
      rw [AS] at hc
      clear h0 AS Ev Bk
      go_wp2_with (at_builtin; refine wpList_append_own_none rfl _ _ _ rfl 0 22 _ 1 Tryz.underlying28 (info_parts nf).choose_spec.1 _ hs.length _ rfl HN.out.row rfl ?_)
      go_roundg (gk - 1)
      case measure => have := HK.out; omega
      case rel => exact ⟨1, A', c', hs, by have := HK.out; omega, rfl, by go_num, cL.out, HN.out, HG.out, HF.out⟩
     ·have ZZ := aa vw
      have hle : hs.length + n1 ≤ 4194304 := by have h9 : hs.length ≤ 0 := (by rw [HE.out]; exact ao _); omega
      clear vw Ev Bk
      go_wp2_with (at_builtin; (refine o3 _ rfl _ _ rfl A' c' hs HN.out (Fr.refl _ _) wy.out hs.length rfl rfl ⟨g1, 0, none⟩ n1 c1 kX rfl oO.out.symm (fun j hj => by rw [dM, cZ]; exact ZZ.out j hj) HM.out.each (by rw [oO.out]; exact hle) ?_; intro A4 c4 w4 yy eF F1; have wv := aa yy; have gS := aa (HF.out.trans eF (fun k hk => .inr (HG.out k hk))); have Vr : Hid (∀ k, k ∈ ah A4 → w.heap.size ≤ k) := (fun k hk => (by rcases F1 k hk with h9 | h9; exact HG.out k h9; (have := HF.out.size; omega) : w.heap.size ≤ k)); clear yy eF F1))
      go_roundg (gk - 1)
      case measure => have := HK.out; omega
      case rel => exact ⟨1, A4, c4, hs ++ kX, by have := HK.out; omega, by rw [ai, oO.out], by go_num, dV.out, wv.out, Vr.out, gS.out⟩
    ·have hc := HF.out.av Bk
     have HM := aa (jp.out.keep HF.out)
     have dV : Hid (hs ++ jK = WB kX jK 2) := (by rw [HE.out]; rfl : _ = _)
     rcases HM.out.yX with ⟨rfl, h0, rfl⟩ | ⟨g1, rfl, vw⟩
     ·have AS : n2 = 0 := by rw [← lY.out, h0]; rfl
      have cL : Hid (hs = WB kX jK 2) := ((show hs = hs ++ jK by rw [h0, dJ]).trans dV.out : _ = _)
      rw [AS] at hc
      clear h0 AS Ev Bk
      go_wp2_with (at_builtin; refine wpList_append_own_none rfl _ _ _ rfl 0 22 _ 1 Tryz.underlying28 (info_parts nf).choose_spec.1 _ hs.length _ rfl HN.out.row rfl ?_)
      go_roundg (gk - 1)
      case measure => have := HK.out; omega
      case rel => exact ⟨2, A', c', hs, by have := HK.out; omega, rfl, by go_num, cL.out, HN.out, HG.out, HF.out⟩
     ·have ZZ := aa vw
      have hle : hs.length + n2 ≤ 4194304 := by have h9 : hs.length ≤ n1 := (by rw [HE.out]; show kX.length ≤ n1; rw [oO.out]; exact ao _); omega
      clear vw Ev Bk
      go_wp2_with (at_builtin; (refine o3 _ rfl _ _ rfl A' c' hs HN.out (Fr.refl _ _) wy.out hs.length rfl rfl ⟨g1, 0, none⟩ n2 c2 jK rfl lY.out.symm (fun j hj => by rw [dM, cZ]; exact ZZ.out j hj) HM.out.each (by rw [lY.out]; exact hle) ?_; intro A4 c4 w4 yy eF F1; have wv := aa yy; have gS := aa (HF.out.trans eF (fun k hk => .inr (HG.out k hk))); have Vr : Hid (∀ k, k ∈ ah A4 → w.heap.size ≤ k) := (fun k hk => (by rcases F1 k hk with h9 | h9; exact HG.out k h9; (have := HF.out.size; omega) : w.heap.size ≤ k)); clear yy eF F1))
      go_roundg (gk - 1)
      case measure => have := HK.out; omega
      case rel => exact ⟨2, A4, c4, hs ++ jK, by have := HK.out; omega, by rw [ai, lY.out], by go_num, dV.out, wv.out, Vr.out, gS.out⟩
    ·have FR : hs.length = n1 + n2 := by rw [HE.out]; show (kX ++ jK).length = _; rw [ai, oO.out, lY.out]
     have HNE : Hid (NwLs wr B A' c' (kX ++ jK)) := by have := HN.out; rw [HE.out] at this; exact this
     rw [FR]
     clear HK FR Ev Bk
     go_wp2_with fail
     go_ret
     exact ⟨A', c', rfl, HNE.out, HF.out⟩
structure Bq (w wr : World) (H : Qh) (q : Qn) : Prop where
 fr : Fr [] w wr
 bq : At wr w.heap.size 40 (tI H q)
 bc : At wr (w.heap.size + 1) 27 (gH H.H q.C)
theorem Bq.keep {w wr w' : World} {H : Qh} {q : Qn} (h : Bq w wr H q) (hf : Fr [] wr w') : Bq w w' H q := ⟨h.fr.ag hf, h.bq.keep hf, h.bc.keep hf⟩
theorem Bq.start (w : World) (H : Qh) (q : Qn) : Bq w ((w.alloc (.cells (tI H q) 40)).alloc (.cells (gH H.H q.C) 27)) H q := by
 refine ⟨(aP _ _).ag (aP _ _), (At.new w _ _).keep (aP _ _), ?_⟩
 have := At.new (w.alloc (.cells (tI H q) 40)) 27 (gH H.H q.C)
 rw [show (w.alloc (.cells (tI H q) 40)).heap.size = w.heap.size + 1 by simp] at this
 exact this
theorem Bq.cells {w wr : World} {H : Qh} {q : Qn} (h : Bq w wr H q) :
  wr.cell? ⟨w.heap.size + 1, 0, none⟩ = some (.int .i64 q.C.mx) ∧ wr.cell? ⟨w.heap.size + 1, 1, none⟩ = some (.slice H.H.iA q.C.ins.length H.H.iC) ∧ wr.cell? ⟨w.heap.size + 1, 2, none⟩ = some (.slice H.H.lA q.C.aX.length H.H.lC) ∧ wr.cell? ⟨w.heap.size + 1, 3, none⟩ = some (.slice H.H.oA q.C.outs.length H.H.oC) ∧
  wr.cell? ⟨w.heap.size + 1, 4, none⟩ = some (.slice H.H.bA q.C.aO.length H.H.bC) ∧ wr.cell? ⟨w.heap.size + 1, 5, none⟩ = some (.slice H.H.vA q.C.aN.length H.H.vC) ∧ wr.cell? ⟨w.heap.size + 1, 6, none⟩ = some (.slice H.H.gA q.C.au.length H.H.gC) ∧ wr.cell? ⟨w.heap.size + 1, 7, none⟩ = some (.slice H.H.nA q.C.bO.length H.H.nC) := h.bc.MM
theorem Bq.EJ {w wr : World} {H : Qh} {q : Qn} (h : Bq w wr H q) :
  wr.cell? ⟨w.heap.size, 0, none⟩ = some (.int .i64 q.C.mx) ∧ wr.cell? ⟨w.heap.size, 1, none⟩ = some (.slice H.H.iA q.C.ins.length H.H.iC) ∧ wr.cell? ⟨w.heap.size, 2, none⟩ = some (.slice H.H.lA q.C.aX.length H.H.lC) ∧ wr.cell? ⟨w.heap.size, 3, none⟩ = some (.slice H.H.oA q.C.outs.length H.H.oC) ∧
  wr.cell? ⟨w.heap.size, 4, none⟩ = some (.slice H.H.bA q.C.aO.length H.H.bC) ∧ wr.cell? ⟨w.heap.size, 5, none⟩ = some (.slice H.H.vA q.C.aN.length H.H.vC) ∧ wr.cell? ⟨w.heap.size, 6, none⟩ = some (.slice H.H.gA q.C.au.length H.H.gC) ∧ wr.cell? ⟨w.heap.size, 7, none⟩ = some (.slice H.H.nA q.C.bO.length H.H.nC) ∧
  wr.cell? ⟨w.heap.size, 8, none⟩ = some (.slice H.aA q.am.length H.aC) ∧ wr.cell? ⟨w.heap.size, 9, none⟩ = some (.slice H.lA q.ls.length H.lC) ∧ wr.cell? ⟨w.heap.size, 10, none⟩ = some (.slice H.kA q.ks.length H.kC) ∧
  wr.cell? ⟨w.heap.size, 11, none⟩ = some (.int .i64 q.bad) ∧ wr.cell? ⟨w.heap.size, 12, none⟩ = some (.int .i64 q.dep) ∧ wr.cell? ⟨w.heap.size, 13, none⟩ = some (.int .i64 q.gT) := by
 refine ⟨?_, ?_, ?_, ?_, ?_, ?_, ?_, ?_, ?_, ?_, ?_, ?_, ?_, ?_⟩ <;> (rw [h.bq.cell]; rfl)
def lz (C : Pc) (am : List (List Int)) (f : Int) : List (List Int) := ly C (eH C f) ++ lB C am (eH C f)
theorem uz {C : Pc} (hv : Valid C) (b : Int) : (ly C b).length ≤ 8193 := by
 unfold ly
 rw [ai, Mv _ _ _ (ao _)]
 have h1 := zM b (IP C) (IP C).length
 rw [pO C] at h1
 have := hv.m0
 have := hv.m1
 have := zK hv
 rw [pO C]
 omega
theorem xI (w : World) (H : Qh) (q : Qn) (h : u5 w H q) (hv : Valid q.C) (hl : q.ls = []) (hk : q.ks = []) (hfa : ∀ x ∈ q.am, Q7 x.l) (ha : q.am.length ≤ 64) (f : Int) (hf : 0 ≤ f ∧ f ≤ 80) (hb : eH q.C f ≤ 262144) :
  Calls Tryz.prog 73 #[qt H q, .int .i64 f] w fun e w' => ∃ A c hs, e = .returned (.slice A hs.length c) ∧ NwLs w' w.heap.size A c hs ∧ hs.map (·.l) = lz q.C (q.am.map (·.l)) f ∧ Fr [] w w' := by
 obtain ⟨w1, ep⟩ : ∃ W, w.alloc (.cells (tI H q) 40) = W := ⟨_, rfl⟩
 obtain ⟨w2, kD⟩ : ∃ W, w1.alloc (.cells (gH H.H q.C) 27) = W := ⟨_, rfl⟩
 have HX := aa (Bq.start w H q)
 rw [ep, kD] at HX
 have rq : At w1 w.heap.size 40 (tI H q) := ep ▸ At.new _ _ _
 have pG : w1.heap.size = w.heap.size + 1 := by rw [← ep]; simp
 have gU := (lJ hv.m0 hv.m1 (f := f) (by omega)).1
 have KR := aa (i4 w2 H.H q.C (h.c.keep HX.out.fr) hv f hf)
 have KB := aa (fun W => jR W H.H q.C hv.m0 hv.m1 f (by omega))
 have KG := aa (fun W (hW : Fr [] w W) => xO W H.H q.C (h.c.keep hW) hv (eH q.C f) ⟨gU, hb⟩)
 have KF := aa (fun W (hW : Fr [] w W) => xP W H.H q.C (h.c.keep hW) hv H.aA H.aC q.am (h.a.keep hW) hfa ha (eH q.C f) ⟨gU, hb⟩)
 have KC := aa (fun W G B hB A1 A2 c1 c2 kX jK h1 h2 Ev Bk hl => yV W G B hB A1 A2 c1 c2 kX jK h1 h2 Ev Bk hl)
 have zC := aa (uz hv (eH q.C f))
 have Sn : Hid ((lB q.C (q.am.map (·.l)) (eH q.C f)).length ≤ 128) := (by
  have h1 := uE q.C (q.am.map (·.l)) (eH q.C f)
  rw [ax] at h1
  have := tq hv
  show _ ≤ _
  omega)
 have Wn : Hid (lz q.C (q.am.map (·.l)) f = ly q.C (eH q.C f) ++ lB q.C (q.am.map (·.l)) (eH q.C f)) := (rfl : _ = _)
 obtain ⟨b, Cu⟩ : ∃ b, eH q.C f = b := ⟨_, rfl⟩
 simp only [Cu] at KB
 rw [Cu] at hb KG KF zC Sn Wn
 have d0 : decide (262144 < b) = false := decide_eq_false (by omega)
 clear h hfa gU Cu hb hf
 obtain ⟨⟨mx, ins, aX, outs, aO, aN, au, bO⟩, am, ls, ks, bad, dep, gT⟩ := q
 obtain ⟨⟨iA, iC, lA, lC, oA, oC, bA, bC, vA, vC, gA, gC, nA, nC⟩, aA, aC, mA, mC, kA, kC⟩ := H
 simp only [qt, tI, dn, gH] at *
 subst hl hk
 simp only [List.length_nil] at ep rq ⊢
 obtain ⟨q0, q1, q2, q3, q4, q5, q6, q7, q8, q9, lT, mG, mc, mF⟩ := HX.out.EJ
 obtain ⟨c0, c1, c2, c3, c4, c5, c6, c7⟩ := HX.out.cells
 have p0 := rq.cell 0
 have p1 := rq.cell 1
 have p2 := rq.cell 2
 have p3 := rq.cell 3
 have p4 := rq.cell 4
 have p5 := rq.cell 5
 have p6 := rq.cell 6
 have p7 := rq.cell 7
 simp at p0 p1 p2 p3 p4 p5 p6 p7
 try simp only at c0 c1 c2 c3 c4 c5 c6 c7
 try simp only [List.length_nil] at q0 q1 q2 q3 q4 q5 q6 q7 q8 q9 lT mG mc mF
 go_enter Tryz.func73, Tryz.ntmps73
 go_upto_region 2 with fail
 go_wp2_with fail
 clear p0 p1 p2 p3 p4 p5 p6 p7 q0 q1 q2 q3 q4 q5 q6 q7 q8 q9 lT mG mc mF rq ep kD
 refine KR.out.mono ?_
 rintro e w3 ⟨rfl, cY⟩
 have iU := aa (HX.out.keep cY)
 clear cY KR HX c0 c1 c2 c3 c4 c5 c6 c7
 obtain ⟨c0, c1, c2, c3, c4, c5, c6, c7⟩ := iU.out.cells
 try simp only at c0 c1 c2 c3 c4 c5 c6 c7
 go_wp2_with fail
 refine (KB.out w3).mono ?_
 rintro e w4 ⟨rfl, cY⟩
 have jH := aa (iU.out.keep cY)
 clear cY iU c0 c1 c2 c3 c4 c5 c6 c7
 obtain ⟨c0, c1, c2, c3, c4, c5, c6, c7⟩ := jH.out.cells
 try simp only at c0 c1 c2 c3 c4 c5 c6 c7
 go_wp2_with fail
 refine (KB.out w4).mono ?_
 rintro e w5 ⟨rfl, cY⟩
 have ta := aa (jH.out.keep cY)
 clear cY jH c0 c1 c2 c3 c4 c5 c6 c7
 obtain ⟨c0, c1, c2, c3, c4, c5, c6, c7⟩ := ta.out.cells
 try simp only at c0 c1 c2 c3 c4 c5 c6 c7
 go_wp2_with fail
 refine (KG.out w5 ta.out.fr).mono ?_
 rintro e w6 ⟨A1, k1, kX, rfl, jZ, sQ, cY⟩
 have Gv := aa (ta.out.keep cY)
 have HS5 := aa ta.out.fr.size
 have rM := aa (jZ.low HS5.out)
 have dV := aa sQ
 clear cY ta c0 c1 c2 c3 c4 c5 c6 c7 jZ sQ HS5
 obtain ⟨c0, c1, c2, c3, c4, c5, c6, c7⟩ := Gv.out.cells
 obtain ⟨q0, q1, q2, q3, q4, q5, q6, q7, q8, q9, lT, mG, mc, mF⟩ := Gv.out.EJ
 try simp only at c0 c1 c2 c3 c4 c5 c6 c7
 try simp only [List.length_nil] at q0 q1 q2 q3 q4 q5 q6 q7 q8 q9 lT mG mc mF
 go_wp2_with fail
 refine (KF.out w6 Gv.out.fr).mono ?_
 rintro e w7 ⟨A2, k2, jK, rfl, se, iW, cY⟩
 have HX7 := aa (Gv.out.keep cY)
 have Ob := aa Gv.out.fr.size
 have jp := aa (se.low Ob.out)
 have JT := aa (rM.out.keep cY)
 have cL := aa iW
 clear cY Gv c0 c1 c2 c3 c4 c5 c6 c7 q0 q1 q2 q3 q4 q5 q6 q7 q8 q9 lT mG mc mF se iW Ob rM
 obtain ⟨wb, fd⟩ : ∃ W, w7.alloc (.cells #[.slice A1 kX.length k1, .slice A2 jK.length k2] 28) = W := ⟨_, rfl⟩
 have gu : Hid (Fr [] w7 wb) := fd ▸ aP _ _
 have kk : At wb w7.heap.size 28 #[.slice A1 kX.length k1, .slice A2 jK.length k2] := fd ▸ At.new _ _ _
 have Nb := aa (HX7.out.keep gu.out)
 have rK := aa (KC.out wb w7.heap.size w.heap.size Nb.out.fr.size A1 A2 k1 k2 kX jK (JT.out.keep gu.out) (jp.out.keep gu.out) (by rw [kk.cell]; rfl) (by rw [kk.cell]; rfl) (by
  have h1 := JT.out.gq dV.out
  have h2 := jp.out.gq cL.out
  have h3 : (ly ⟨mx, ins, aX, outs, aO, aN, au, bO⟩ b).length ≤ 8193 := zC.out
  have h4 : (lB ⟨mx, ins, aX, outs, aO, aN, au, bO⟩ (am.map (·.l)) b).length ≤ 128 := Sn.out
  omega))
 clear kk
 go_wp2_with fail
 refine rK.out.mono ?_
 rintro e w8 ⟨A3, k3, rfl, VW, cY⟩
 have HX8 := aa (Nb.out.keep cY)
 have n8 := aa VW
 have gF : Hid ((kX ++ jK).map (·.l) = lz ⟨mx, ins, aX, outs, aO, aN, au, bO⟩ (am.map (·.l)) f) := (by rw [bP, dV.out, cL.out]; exact Wn.out.symm : _ = _)
 obtain ⟨hs, RO⟩ : ∃ hs, kX ++ jK = hs := ⟨_, rfl⟩
 rw [RO] at n8 gF
 rw [RO]
 clear cY fd Nb HX7 rK VW RO
 obtain ⟨q0, q1, q2, q3, q4, q5, q6, q7, q8, q9, lT, mG, mc, mF⟩ := HX8.out.EJ
 try simp only [List.length_nil] at q0 q1 q2 q3 q4 q5 q6 q7 q8 q9 lT mG mc mF
 go_wp2_with fail
 go_loopg [11, 55] 0 (fun gk xC x55 wr => xC = .slice A3 hs.length k3 ∧ x55 = .int .i64 0 ∧ Hid (wr = w8))
 case atStart => exact ⟨rfl, rfl, rfl⟩
 case round =>
  obtain ⟨rfl, rfl, HW⟩ := hrel
  have hw := HW.out.symm
  subst hw
  clear HW
  go_wp2_with fail
  go_loopg [11, 69] 0 (fun gk xC x69 wr => xC = .slice A3 hs.length k3 ∧ x69 = .int .i64 0 ∧ Hid (wr = w8))
  case atStart => exact ⟨rfl, rfl, rfl⟩
  case round =>
   obtain ⟨rfl, rfl, HW⟩ := hrel
   have hw := HW.out.symm
   subst hw
   clear HW
   go_wp2_with fail
   go_ret
   exact ⟨A3, k3, hs, rfl, n8.out, gF.out, HX8.out.fr⟩
def MS (C : Pc) (am : List (List Int)) (k : Nat) : List (List Int) := (if k = 0 then [] else mJ C ((k : Int) - 1) C.aX.length) ++ lz C am k
def pX (C : Pc) (am : List (List Int)) (n : Nat) : List (List Int) := uB C C.aX.length ++ (List.range n).flatMap (MS C am)
theorem qK (C : Pc) (am : List (List Int)) (n : Nat) : pX C am (n + 1) = pX C am n ++ MS C am n := by
 unfold pX
 rw [List.range_succ, List.flatMap_append, List.append_assoc]
 simp
def CD (v : Int) (l : List Int) : Prop := l.length ≤ 1024 ∧ ∀ x ∈ l, x ≠ 0 ∧ -v ≤ x ∧ x ≤ v
theorem CD.mono {v v' : Int} {l : List Int} (h : CD v l) (hv : v ≤ v') : CD v' l := ⟨h.1, fun x hx => by have := h.2 x hx; omega⟩
theorem CD.ra {v : Int} {l : List Int} (h : CD v l) (hv : v ≤ 262143) : Ra l := fun j hj => by
 have := h.2 _ (bw hj)
 exact ⟨by omega, by omega⟩
theorem CD.chk {v : Nat} {l : List Int} (h : CD v l) (hv : v ≤ 262143) : kK v l = 0 := by
 unfold kK
 rw [if_neg (by have := h.1; omega), if_neg]
 intro hc
 obtain ⟨x, hx, h1⟩ := List.any_eq_true.1 hc
 obtain ⟨h2, h3, h4⟩ := h.2 x hx
 have := Fs h2 h3 h4 hv
 unfold fI at h1
 rw [decide_eq_false (by omega), decide_eq_false (by omega)] at h1
 cases h1
theorem jW {b m l : Int} (hb : 0 ≤ b) (hl : 0 ≤ l ∧ l ≤ 2 * m + 1) : cT b l ≠ 0 ∧ -(b + m + 1) ≤ cT b l ∧ cT b l ≤ b + m + 1 := by
 unfold cT
 split <;> omega
theorem pZ (C : Pc) (f : Int) : eH C (f + 1) = eH C f + C.mx + 1 := by
 unfold eH
 rw [Int.add_mul]
 omega
theorem fU {C : Pc} (h0 : 0 ≤ C.mx) {f g : Int} (h : f ≤ g) : eH C f ≤ eH C g := Int.mul_le_mul_of_nonneg_right h (by omega)
theorem p8 {C : Pc} (h0 : 0 ≤ C.mx) {f : Int} (h : 0 ≤ f) : 0 ≤ eH C f := Int.mul_nonneg h (by omega)
theorem K3 {C : Pc} (hv : Valid C) {f n : Int} (hf : 0 ≤ f) (hn : n ≠ 0 ∧ -(C.aX.length : Int) ≤ n ∧ n ≤ C.aX.length) : vk C f n ≠ 0 ∧ -(eH C (f + 1)) ≤ vk C f n ∧ vk C f n ≤ eH C (f + 1) := by
 rw [pZ]
 have hb := p8 hv.m0 hf
 unfold vk
 split
 ·have := ji hv (-n - 1).toNat (by omega)
  have := jW hb (m := C.mx) (l := (C.aX[(-n - 1).toNat]!).a) (by omega)
  omega
 ·have := ji hv (n - 1).toNat (by omega)
  have := jW hb (m := C.mx) (l := (C.aX[(n - 1).toNat]!).a) (by omega)
  omega
theorem Mw {C : Pc} (hv : Valid C) : ∀ l ∈ uB C C.aX.length, CD (eH C 1) l := fun l hl => by
 obtain ⟨i, hi, hm⟩ := List.mem_flatMap.1 hl
 have hi := gG.1 hi
 have key : ∀ n : Int, n ≠ 0 ∧ -(C.aX.length : Int) ≤ n ∧ n ≤ C.aX.length → CD (eH C 1) [vk C 0 n] := fun n hn => ⟨by simp, fun x hx => by
  rw [an.1 hx]
  exact K3 hv (f := 0) (by omega) hn⟩
 unfold EC at hm
 split at hm
 ·rw [an.1 hm]; exact key _ (by omega)
 ·split at hm
  ·rw [an.1 hm]; exact key _ (by omega)
  ·cases hm
theorem Dj {C : Pc} (hv : Valid C) {f : Int} (hf : 0 ≤ f) : ∀ l ∈ mJ C f C.aX.length, CD (eH C (f + 1 + 1)) l := fun l hl => by
 obtain ⟨i, hi, hm⟩ := List.mem_flatMap.1 hl
 have hi := gG.1 hi
 have h1 := K3 hv (f := f + 1) (n := (i : Int) + 1) (by omega) (by omega)
 have h2 := jW (p8 hv.m0 hf) (m := C.mx) (tp hv i hi)
 have e1 := pZ C (f + 1)
 have e2 := pZ C f
 have h0 := hv.m0
 unfold Hb at hm
 rcases ay.1 hm with rfl | hm
 ·refine ⟨by simp, fun x hx => ?_⟩
  rcases ay.1 hx with rfl | hx
  ·exact h1
  ·rw [an.1 hx]; omega
 ·rw [an.1 hm]
  refine ⟨by simp, fun x hx => ?_⟩
  rcases ay.1 hx with rfl | hx
  ·omega
  ·rw [an.1 hx]; omega
theorem Mu {C : Pc} (hv : Valid C) {b : Int} (hb : 0 ≤ b) : ∀ l ∈ ly C b, CD (b + C.mx + 1) l := fun l hl => by
 have h0 := hv.m0
 rcases aj.1 hl with hl | hl
 ·obtain ⟨i, hi, hm⟩ := List.mem_flatMap.1 hl
  have hi := gG.1 hi
  rw [pO] at hi
  unfold xG at hm
  split at hm
  ·cases hm
  ·rw [an.1 hm]
   exact ⟨by simp, fun x hx => by rw [an.1 hx]; omega⟩
 ·obtain ⟨y, hy, hm⟩ := List.mem_flatMap.1 hl
  have hy := List.mem_of_mem_take hy
  obtain ⟨j, hj, hyj⟩ := List.getElem_of_mem hy
  obtain ⟨a1, a2, a3⟩ := wG hv j hj
  rw [ae, af hj, aq, hyj] at a1 a2 a3
  have k1 := jW hb (m := C.mx) a1
  have k2 := jW hb (m := C.mx) a2
  have k3 := jW hb (m := C.mx) a3
  unfold IF at hm
  rcases ay.1 hm with rfl | hm
  ·exact ⟨by simp, fun x hx => by rcases ay.1 hx with rfl | hx; omega; rw [an.1 hx]; omega⟩
  ·rcases ay.1 hm with rfl | hm
   ·exact ⟨by simp, fun x hx => by rcases ay.1 hx with rfl | hx; omega; rw [an.1 hx]; omega⟩
   ·rw [an.1 hm]
    exact ⟨by simp, fun x hx => by
     rcases ay.1 hx with rfl | hx
     ·omega
     ·rcases ay.1 hx with rfl | hx
      ·omega
      ·rw [an.1 hx]; omega⟩
theorem CO {C : Pc} (hv : Valid C) : ∀ x ∈ C.aN, 0 ≤ x ∧ x ≤ 2 * C.mx + 1 := fun x hx => by
 have h := hv.v
 unfold sz at h
 rw [aD, List.all_eq_true] at h
 exact jh hv (h.1 x hx)
def Fm (mx : Int) (am : List (List Int)) : Prop := am.length ≤ 64 ∧ ∀ l ∈ am, l.length ≤ 1024 ∧ ∀ x ∈ l, 0 ≤ x ∧ x ≤ 2 * mx + 1
theorem Mx {C : Pc} (hv : Valid C) {am : List (List Int)} (ha : Fm C.mx am) {b : Int} (hb : 0 ≤ b) : ∀ l ∈ lB C am b, CD (b + C.mx + 1) l := fun l hl => by
 rcases aj.1 hl with hl | hl
 ·obtain ⟨y, hy, rfl⟩ := bE.1 hl
  exact ⟨by simp, fun x hx => by rw [an.1 hx]; exact jW hb (CO hv y hy)⟩
 ·obtain ⟨y, hy, rfl⟩ := bE.1 hl
  obtain ⟨h1, h2⟩ := ha.2 y hy
  exact ⟨by rw [ax]; exact h1, fun x hx => by
   obtain ⟨z, hz, rfl⟩ := bE.1 hx
   exact jW hb (h2 z hz)⟩
theorem Bu {C : Pc} (hv : Valid C) {am : List (List Int)} (ha : Fm C.mx am) {f : Int} (hf : 0 ≤ f) : ∀ l ∈ lz C am f, CD (eH C (f + 1)) l := fun l hl => by
 rw [pZ]
 have hb := p8 hv.m0 hf
 rcases aj.1 hl with hl | hl
 ·exact Mu hv hb l hl
 ·exact Mx hv ha hb l hl
theorem uC {C : Pc} (hv : Valid C) {am : List (List Int)} (ha : am.length ≤ 64) (f : Int) : (lz C am f).length ≤ 8321 := by
 have h1 := uz hv (eH C f)
 have h2 := uE C am (eH C f)
 have h3 := tq hv
 unfold lz
 rw [ai, h2]
 omega
theorem pW {C : Pc} (hv : Valid C) {am : List (List Int)} (ha : am.length ≤ 64) : ∀ n, (pX C am n).length ≤ 64 + 8449 * n
 | 0 => by
  have h1 := uA C C.aX.length
  have h2 := hv.l
  unfold pX
  simp
  omega
 | n + 1 => by
  have h1 := pW hv ha n
  have h2 := uC hv ha (f := (n : Int))
  have h3 := hv.l
  rw [qK, ai]
  unfold MS
  rw [ai]
  split
  ·simp; omega
  ·rw [pB]; omega
theorem Gh {C : Pc} (hv : Valid C) {am : List (List Int)} (ha : Fm C.mx am) {N : Nat} : ∀ n, n ≤ N → 1 ≤ N → ∀ l ∈ pX C am n, CD (eH C N) l
 | 0, hn, h1, l, hl => by
  unfold pX at hl
  simp only [List.range_zero, List.flatMap_nil, dJ] at hl
  exact (Mw hv l hl).mono (fU hv.m0 (by omega))
 | n + 1, hn, h1, l, hl => by
  rw [qK] at hl
  rcases aj.1 hl with hl | hl
  ·exact Gh hv ha n (by omega) h1 l hl
  ·unfold MS at hl
   rcases aj.1 hl with hl | hl
   ·split at hl
    ·cases hl
    ·rename_i h0
     exact (Dj hv (f := (n : Int) - 1) (by omega) l hl).mono (fU hv.m0 (by omega))
   ·exact (Bu hv ha (f := (n : Int)) (by omega) l hl).mono (fU hv.m0 (by omega))
noncomputable def zb (C : Pc) (am : List (List Int)) (n k : Nat) : Sv := (Sv.new (eH C n)).dQ (pX C am k)
theorem Kr {b : Int} (h0 : 0 ≤ b) (h1 : b ≤ 262143) : ((Sv.new b).vars : Int) = b := by
 rw [(Sv.Ok.new b).2]
 omega
theorem BV {C : Pc} (hv : Valid C) {am : List (List Int)} (ha : Fm C.mx am) {n k : Nat} (hk : k ≤ n) (hn : 1 ≤ n ∧ n ≤ 80) (hb : eH C n ≤ 262143) : (zb C am n k).gE (Sv.new (eH C n)).vars 0 (pX C am k).length := by
 have h := Sv.gE.dQ (Sv.gE.new (eH C n)) (ls := pX C am k) (by have := pW hv ha.1 k; omega) (fun c hc => (Gh hv ha k hk hn.1 c hc).ra hb)
 rwa [cZ] at h
theorem MO (C : Pc) (am : List (List Int)) (n k : Nat) : zb C am n (k + 1) = ((zb C am n k).dQ (if k = 0 then [] else mJ C ((k : Int) - 1) C.aX.length)).dQ (lz C am k) := by
 unfold zb
 rw [qK, Sv.oJ]
 unfold MS
 rw [Sv.oJ]
theorem xH {q : Qn} (h : od q = 0) : Valid q.C ∧ (0 ≤ q.bad ∧ q.bad < q.C.aO.length ∧ 0 ≤ q.dep ∧ q.dep < 80 ∧ 0 ≤ q.gT ∧ q.gT ≤ 1099511627776) ∧ Fm q.C.mx (q.am.map (·.l)) := by
 unfold od at h
 split at h
 ·cases h
 ·rename_i h1
  split at h
  ·cases h
  ·rename_i h2
   split at h
   ·cases h
   ·rename_i h3
    split at h
    ·cases h
    ·rename_i h4
     refine ⟨Classical.not_not.1 h1, by omega, by rw [ax]; omega, fun l hl => ?_⟩
     obtain ⟨y, hy, rfl⟩ := bE.1 hl
     have h5 : nD q.C.mx y.l = false := by
      cases h6 : nD q.C.mx y.l with
      | false => rfl
      | true => exact absurd (.inl (List.any_eq_true.2 ⟨y, hy, h6⟩)) h4
     unfold nD at h5
     rw [fc, decide_eq_false_iff_not, Bool.not_eq_false'] at h5
     refine ⟨by have := h5.1; omega, fun x hx => ?_⟩
     have h7 := h5.2
     unfold OZ at h7
     have := List.all_eq_true.1 h7 x hx
     simp only [aD, decide_eq_true_eq] at this
     exact this
theorem Fm.afa {mx : Int} {am : List Ls} (h : Fm mx (am.map (·.l))) (hm : mx ≤ 2048) : ∀ x ∈ am, Q7 x.l := fun x hx => by
 obtain ⟨h1, h2⟩ := h.2 x.l (bE.2 ⟨x, hx, rfl⟩)
 exact ⟨h1, fun y hy => by have := h2 y hy; omega⟩
end Go.Proofs.YtpjbaobgnhjgoaaGreat
