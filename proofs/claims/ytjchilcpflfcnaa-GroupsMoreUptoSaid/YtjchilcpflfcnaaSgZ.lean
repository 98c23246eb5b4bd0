/-  -/
import Derived.Test.YtjchilcpflfcnaaSgU
import Derived.Deep.CutRange
set_option linter.unusedVariables false
set_option maxHeartbeats 4000000
set_option maxRecDepth 100000
namespace Go.Proofs.Ytjchilcpflfcnaa
open Go.RowKit
def PmP (A : Option Addr) (c : Nat) (xs : List Int) (w : World) (e : Ending) (w' : World) : Prop := e = .returned (.tuple #[]) ∧ ∃ ys : List Int, ys.Perm xs ∧ Ints w' A c ys ∧ Fr (blks A) w w'
theorem Ints.swap {w : World} {g c : Nat} {xs : List Int} (h : Ints w (some ⟨g, 0, none⟩) c xs) (i j : Nat) : Ints ((w.setCell ⟨g, i, none⟩ (.int .i64 xs[j]!)).setCell ⟨g, j, none⟩ (.int .i64 xs[i]!)).drew (some ⟨g, 0, none⟩) c (swp2 xs i j) := ((h.set_ i xs[j]!).set_ j xs[i]!).drew
theorem Fr.swap (w : World) (g : Nat) (i j : Nat) (u v : Value) : Fr (blks (some ⟨g, 0, none⟩)) w ((w.setCell ⟨g, i, none⟩ u).setCell ⟨g, j, none⟩ v).drew := (((Fr.refl [g] w).setCell (.inl (by simp)) _).setCell (.inl (by simp)) _).drew
theorem swaprange_calls (w : World) (A : Option Addr) (c : Nat) (xs : List Int) (h : Ints w A c xs) (hl : xs.length ≤ 17592186044416) (a b n : Nat) (hab : a < b) (hbn : b + n ≤ xs.length) (g : Nat) (cb : Array Value) :
  Calls Try.prog 102 #[.slice A xs.length c, .int .i64 a, .int .i64 b, .int .i64 n, .func (.func g) #[] cb] w (PmP A c xs w) := by
 have HH := Lib.hid h
 clear h
 go_enter Try.func102, Try.ntmps102
 go_wp2_with fail
 go_loopg [10] n (fun g x wr => ∃ (k : Nat) (ys : List Int), k + g = n ∧ x = .int .i64 k ∧ Hid (ys.Perm xs) ∧ Hid (Ints wr A c ys) ∧ Hid (Fr (blks A) w wr))
 case atStart => exact ⟨0, xs, by omega, rfl, List.Perm.refl _, HH.out, Fr.refl _ _⟩
 case round =>
  obtain ⟨k, ys, hk, rfl, HP, HI, HF⟩ := hrel
  have HK := Lib.hid hk
  have hkn : k ≤ n := by omega
  have hlen := HP.out.length_eq
  clear hk
  by_cases hlt : k < n
  ·obtain ⟨p, hp⟩ : ∃ p, a + k = p := ⟨_, rfl⟩
   obtain ⟨q, hq⟩ : ∃ q, b + k = q := ⟨_, rfl⟩
   have hpl : p < ys.length := by omega
   have hql : q < ys.length := by omega
   obtain ⟨gb, hA, hgl⟩ := HI.out.pos hpl
   subst hA
   have c1 := HI.out.cell hpl
   have c2 := HI.out.cell hql
   have f1 := HI.out.frozen p
   have f2 := HI.out.frozen q
   have hne : ¬ p = q := by omega
   have w1 : IntKind.i64.wrap ((a : Int) + (k : Int)) = (p : Int) := by rw [IntWalk.i64_in _ (by omega)]; omega
   have w2 : IntKind.i64.wrap ((b : Int) + (k : Int)) = (q : Int) := by rw [IntWalk.i64_in _ (by omega)]; omega
   have hpx : (p : Int) < (xs.length : Int) := by omega
   have hqx : (q : Int) < (xs.length : Int) := by omega
   have HL := Lib.hid hlen
   have HLT := Lib.hid hlt
   have HPX : Hid (swp2 ys p q |>.Perm xs) := (swp2_perm hpl hql).trans HP.out
   have HIX := Lib.hid (HI.out.swap p q)
   have HFX := Lib.hid (HF.out.then_ (Fr.swap wr gb p q (.int .i64 ys[q]!) (.int .i64 ys[p]!)))
   obtain ⟨u, hu⟩ : ∃ u, ys[p]! = u := ⟨_, rfl⟩
   obtain ⟨v, hv⟩ : ∃ v, ys[q]! = v := ⟨_, rfl⟩
   rw [hu] at c1 HIX HFX
   rw [hv] at c2 HIX HFX
   clear hlen hpl hql hu hv hp hq HI HF HP
   go_wp2_with fail
   go_region
   clear c1 c2 f1 f2
   go_wp2_with fail
   go_roundg (gk - 1)
   case measure => have := HK.out; omega
   case rel => exact ⟨k + 1, swp2 ys p q, by have := HK.out; omega, by go_num, HPX.out, HIX.out, HFX.out⟩
  ·have FF : Hid (PmP A c xs w (.returned (.tuple #[])) wr) := ⟨rfl, ys, HP.out, HI.out, HF.out⟩
   go_wp2_with fail
   go_end0
   exact FF.out
def Cmps (g : Nat) (cb : Array Value) (q : Int → Int → Int) (A : Option Addr) (xs : List Int) (w : World) : Prop :=
 ∀ W, Fr (blks A) w W → ∀ x ∈ xs, ∀ y ∈ xs, Calls Try.prog g (#[.int .i64 x, .int .i64 y] ++ cb) W fun e W' => e = .returned (.int .i64 (q x y)) ∧ Fr [] W W'
theorem Cmps.then_ {g : Nat} {cb : Array Value} {q : Int → Int → Int} {A : Option Addr} {xs ys : List Int} {w w' : World} (h : Cmps g cb q A xs w) (hf : Fr (blks A) w w') (hp : ys.Perm xs) : Cmps g cb q A ys w' :=
 fun W hW x hx y hy => h W (hf.then_ hW) x (hp.mem_iff.1 hx) y (hp.mem_iff.1 hy)
theorem insertion_calls (w : World) (A : Option Addr) (c : Nat) (xs : List Int) (h : Ints w A c xs) (hl : xs.length ≤ 17592186044416) (a b : Nat) (hab : a ≤ b) (hbn : b ≤ xs.length) (g : Nat) (cb : Array Value) (q : Int → Int → Int) (eg : ∀ args w, (callFunc g args).run Try.prog w = .ok (.enter g args) w) (hc : Cmps g cb q A xs w) :
  Calls Try.prog 74 #[.slice A xs.length c, .int .i64 a, .int .i64 b, .func (.func g) #[] cb] w (PmP A c xs w) := by
 have HH := Lib.hid h
 have HC := Lib.hid hc
 clear h hc
 have w0 : IntKind.i64.wrap ((a : Int) + 1) = (a : Int) + 1 := IntWalk.i64_in _ (by omega)
 go_enter Try.func74, Try.ntmps74
 go_wp2_with fail
 clear w0
 go_loopg [8] (b - a) (fun g x wr => ∃ (i : Nat) (ys : List Int), b ≤ i + g ∧ a + 1 ≤ i ∧ x = .int .i64 i ∧ Hid (ys.Perm xs) ∧ Hid (Ints wr A c ys) ∧ Hid (Fr (blks A) w wr))
 case atStart => exact ⟨a + 1, xs, by omega, by omega, by go_num, List.Perm.refl _, HH.out, Fr.refl _ _⟩
 case round =>
  obtain ⟨i, ys, hi, hai, rfl, HP, HI, HF⟩ := hrel
  have HK := Lib.hid hi
  clear hi
  by_cases hlt : i < b
  ·go_wp2_with fail
   go_loopg [9] (i - a) (fun g x wr => ∃ (j : Nat) (ys : List Int), j = a + g ∧ j ≤ i ∧ x = .int .i64 j ∧ Hid (ys.Perm xs) ∧ Hid (Ints wr A c ys) ∧ Hid (Fr (blks A) w wr))
   case atStart => exact ⟨i, ys, by omega, by omega, rfl, HP.out, HI.out, HF.out⟩
   case round =>
    obtain ⟨j, zs, hj, hji, rfl, HP2, HI2, HF2⟩ := hrel
    have HJ := Lib.hid hj
    clear hj HP HI HF
    have wi : IntKind.i64.wrap ((i : Int) + 1) = (i : Int) + 1 := IntWalk.i64_in _ (by omega)
    by_cases hja : a < j
    ·have hlen := HP2.out.length_eq
     obtain ⟨p, hp⟩ : ∃ p, j - 1 = p := ⟨_, rfl⟩
     have hpl : p < zs.length := by omega
     have hjl : j < zs.length := by omega
     obtain ⟨gb, hA, hgl⟩ := HI2.out.pos hpl
     subst hA
     have c1 := HI2.out.cell hpl
     have c2 := HI2.out.cell hjl
     have m1 := mem_get hpl
     have m2 := mem_get hjl
     have wj : IntKind.i64.wrap ((j : Int) - 1) = (p : Int) := by rw [IntWalk.i64_in _ (by omega)]; omega
     have hpx : (p : Int) < (xs.length : Int) := by omega
     have hjx : (j : Int) < (xs.length : Int) := by omega
     have hne : ¬ j = p := by omega
     have hpj : p ≤ i := by omega
     have HPX : Hid ((swp2 zs j p).Perm xs) := (swp2_perm hjl hpl).trans HP2.out
     have HPJ : Hid (p = a + (gk - 1)) := by have := HJ.out; show _ = _; omega
     have HIX := Lib.hid (fun W (hW : Fr [] wr W) => (HI2.out.keep' hW).swap j p)
     have HFX := Lib.hid (fun W (hW : Fr [] wr W) => (HF2.out.then_ (hW.mono (fun k hk => by cases hk))).then_ (Fr.swap W gb j p (.int .i64 zs[p]!) (.int .i64 zs[j]!)))
     have HKC := Lib.hid (fun u : Ext wr => HC.out u.v (HF2.out.then_ (u.fr.mono (fun k hk => by cases hk))) _ (HP2.out.mem_iff.1 m2) _ (HP2.out.mem_iff.1 m1))
     obtain ⟨x, hx⟩ : ∃ x, zs[j]! = x := ⟨_, rfl⟩
     obtain ⟨y, hy⟩ : ∃ y, zs[p]! = y := ⟨_, rfl⟩
     rw [hx] at c2 HIX HFX HKC
     rw [hy] at c1 HIX HFX HKC
     obtain ⟨r, hr⟩ : ∃ r, q x y = r := ⟨_, rfl⟩
     rw [hr] at HKC
     have e1 := Ext.cell c1
     have e2 := Ext.cell c2
     clear hr hx hy m1 m2 hlen hpl hjl hp
     have hjj : (a : Int) < (j : Int) := by omega
     have hdj : decide ((a : Int) < (j : Int)) = true := decide_eq_true hjj
     by_cases hr0 : r < 0
     ·have hd : decide (r < 0) = true := decide_eq_true hr0
      go_wp2_with fail
      refine wp_region_ext (by kernel_rfl) (by kernel_rfl) ?_
      repeat (go_big_quiet_step (exact call_ext (HKC.out _)))
      refine wpQuiet_nil ?_
      rintro w2 ⟨u2, hu2⟩
      have HF_w2 : Hid (Fr [] wr w2) := hu2 ▸ u2.fr
      clear hu2 u2
      clear e1 e2
      have c1 := HF_w2.out.cellS c1
      have c2 := HF_w2.out.cellS c2
      have f1 := (HI2.out.keep' HF_w2.out).frozen p
      have f2 := (HI2.out.keep' HF_w2.out).frozen j
      go_wp2_with fail
      go_region
      clear c1 c2 f1 f2
      go_wp2_with fail
      go_roundg (gk - 1)
      case measure => have := HJ.out; omega
      case rel => exact ⟨p, swp2 zs j p, HPJ.out, hpj, by go_num, HPX.out, HIX.out _ HF_w2.out, HFX.out _ HF_w2.out⟩
     ·have hr1 : 0 ≤ r := by omega
      have hd : decide (r < 0) = false := decide_eq_false hr0
      have HIW := Lib.hid (fun W (hW : Fr [] wr W) => HI2.out.keep' hW)
      have HFW := Lib.hid (fun W (hW : Fr [] wr W) => HF2.out.then_ (hW.mono (fun k hk => by cases hk)))
      clear HIX HFX HPX
      go_wp2_with fail
      refine wp_region_ext (by kernel_rfl) (by kernel_rfl) ?_
      repeat (go_big_quiet_step (exact call_ext (HKC.out _)))
      refine wpQuiet_nil ?_
      rintro w2 ⟨u2, hu2⟩
      have HF_w2 : Hid (Fr [] wr w2) := hu2 ▸ u2.fr
      clear hu2 u2
      clear e1 e2 c1 c2
      go_wp2_with fail
      go_roundg (b - (i + 1))
      case measure => have := HK.out; omega
      case rel => exact ⟨i + 1, zs, by omega, by omega, by go_num, HP2.out, HIW.out _ HF_w2.out, HFW.out _ HF_w2.out⟩
    ·have hjj : (j : Int) ≤ (a : Int) := by omega
     have hdj : decide ((a : Int) < (j : Int)) = false := decide_eq_false (by omega)
     go_wp2_with fail
     refine wp_region_ext (by kernel_rfl) (by kernel_rfl) ?_
     repeat (go_big_quiet_step (fail))
     refine wpQuiet_nil ?_
     rintro w2 ⟨u2, hu2⟩
     have HF_w2 : Hid (Fr [] wr w2) := hu2 ▸ u2.fr
     clear hu2 u2
     go_wp2_with fail
     go_roundg (b - (i + 1))
     case measure => have := HK.out; omega
     case rel => exact ⟨i + 1, zs, by omega, by omega, by go_num, HP2.out, HI2.out.keep' HF_w2.out, HF2.out.then_ (HF_w2.out.mono (fun k hk => by cases hk))⟩
  ·have FF : Hid (PmP A c xs w (.returned (.tuple #[])) wr) := ⟨rfl, ys, HP.out, HI.out, HF.out⟩
   go_wp2_with fail
   go_end0
   exact FF.out
theorem rotate_calls (w : World) (A : Option Addr) (c : Nat) (xs : List Int) (h : Ints w A c xs) (hl : xs.length ≤ 17592186044416) (a m b : Nat) (ham : a < m) (hmb : m < b) (hbn : b ≤ xs.length) (g : Nat) (cb : Array Value) :
  Calls Try.prog 101 #[.slice A xs.length c, .int .i64 a, .int .i64 m, .int .i64 b, .func (.func g) #[] cb] w (PmP A c xs w) := by
 have HH := Lib.hid h
 clear h
 obtain ⟨i0, hi0⟩ : ∃ i0, m - a = i0 := ⟨_, rfl⟩
 obtain ⟨j0, hj0⟩ : ∃ j0, b - m = j0 := ⟨_, rfl⟩
 have w0 : IntKind.i64.wrap ((m : Int) - (a : Int)) = (i0 : Int) := by rw [IntWalk.i64_in _ (by omega)]; omega
 have w1 : IntKind.i64.wrap ((b : Int) - (m : Int)) = (j0 : Int) := by rw [IntWalk.i64_in _ (by omega)]; omega
 go_enter Try.func101, Try.ntmps101
 go_wp2_with fail
 clear w0 w1
 go_loopg [10, 11] (i0 + j0) (fun g x10 x11 wr => ∃ (i j : Nat) (ys : List Int), i + j = g ∧ 0 < i ∧ 0 < j ∧ i ≤ m - a ∧ j ≤ b - m ∧ x10 = .int .i64 i ∧ x11 = .int .i64 j ∧ Hid (ys.Perm xs) ∧ Hid (Ints wr A c ys) ∧ Hid (Fr (blks A) w wr))
 case atStart => exact ⟨i0, j0, xs, rfl, by omega, by omega, by omega, by omega, rfl, rfl, List.Perm.refl _, HH.out, Fr.refl _ _⟩
 case round =>
  obtain ⟨i, j, ys, hg, hi, hj, hia, hjb, rfl, rfl, HP, HI, HF⟩ := hrel
  have HG := Lib.hid hg
  have hlen := HP.out.length_eq
  clear hg hi0 hj0
  obtain ⟨p, hp⟩ : ∃ p, m - i = p := ⟨_, rfl⟩
  have w1 : IntKind.i64.wrap ((m : Int) - (i : Int)) = (p : Int) := by rw [IntWalk.i64_in _ (by omega)]; omega
  rcases Nat.lt_trichotomy i j with hij | hij | hij
  ·obtain ⟨q, hq⟩ : ∃ q, m + j = q := ⟨_, rfl⟩
   obtain ⟨r, hr⟩ : ∃ r, q - i = r := ⟨_, rfl⟩
   obtain ⟨j1, hj1⟩ : ∃ j1, j - i = j1 := ⟨_, rfl⟩
   have w2 : IntKind.i64.wrap ((m : Int) + (j : Int)) = (q : Int) := by rw [IntWalk.i64_in _ (by omega)]; omega
   have w3 : IntKind.i64.wrap ((q : Int) - (i : Int)) = (r : Int) := by rw [IntWalk.i64_in _ (by omega)]; omega
   have w4 : IntKind.i64.wrap ((j : Int) - (i : Int)) = (j1 : Int) := by rw [IntWalk.i64_in _ (by omega)]; omega
   have KS := Lib.hid (swaprange_calls wr A c ys HI.out (by omega) p r i (by omega) (by omega) g cb)
   rw [hlen] at KS
   have hne : ¬ (i : Int) = (j : Int) := by omega
   have hle : (i : Int) ≤ (j : Int) := by omega
   have HJ : Hid (0 < j1 ∧ j1 ≤ b - m ∧ i + j1 < gk) := ⟨by omega, by omega, by have := HG.out; omega⟩
   clear hlen hp hq hr hj1 HI
   go_wp2_with fail
   refine KS.out.mono ?_
   clear KS
   rintro e w2 ⟨rfl, zs, z1, z2, z3⟩
   have HP2 := Lib.hid (z1.trans HP.out)
   have HI2 := Lib.hid z2
   have HF2 := Lib.hid (HF.out.then_ z3)
   clear z1 z2 z3 HP HF
   go_wp2_with fail
   go_roundg (i + j1)
   case measure => have := HJ.out; omega
   case rel => exact ⟨i, j1, zs, rfl, hi, HJ.out.1, hia, HJ.out.2.1, rfl, rfl, HP2.out, HI2.out, HF2.out⟩
  ·subst hij
   have KS := Lib.hid (swaprange_calls wr A c ys HI.out (by omega) p m i (by omega) (by omega) g cb)
   rw [hlen] at KS
   clear hlen hp HI
   go_wp2_with fail
   refine KS.out.mono ?_
   clear KS
   rintro e w2 ⟨rfl, zs, z1, z2, z3⟩
   have FF : Hid (PmP A c xs w (.returned (.tuple #[])) w2) := ⟨rfl, zs, z1.trans HP.out, z2, HF.out.then_ z3⟩
   clear z1 z2 z3 HP HF
   go_wp2_with fail
   go_end0
   exact FF.out
  ·obtain ⟨i1, hi1⟩ : ∃ i1, i - j = i1 := ⟨_, rfl⟩
   have w4 : IntKind.i64.wrap ((i : Int) - (j : Int)) = (i1 : Int) := by rw [IntWalk.i64_in _ (by omega)]; omega
   have KS := Lib.hid (swaprange_calls wr A c ys HI.out (by omega) p m j (by omega) (by omega) g cb)
   rw [hlen] at KS
   have hne : ¬ (i : Int) = (j : Int) := by omega
   have hle : (j : Int) < (i : Int) := by omega
   have HJ : Hid (0 < i1 ∧ i1 ≤ m - a ∧ i1 + j < gk) := ⟨by omega, by omega, by have := HG.out; omega⟩
   clear hlen hp hi1 HI
   go_wp2_with fail
   refine KS.out.mono ?_
   clear KS
   rintro e w2 ⟨rfl, zs, z1, z2, z3⟩
   have HP2 := Lib.hid (z1.trans HP.out)
   have HI2 := Lib.hid z2
   have HF2 := Lib.hid (HF.out.then_ z3)
   clear z1 z2 z3 HP HF
   go_wp2_with fail
   go_roundg (i1 + j)
   case measure => have := HJ.out; omega
   case rel => exact ⟨i1, j, zs, rfl, HJ.out.1, hj, HJ.out.2.1, hjb, rfl, rfl, HP2.out, HI2.out, HF2.out⟩
def Pm (A : Option Addr) (c : Nat) (xs : List Int) (w w' : World) : Prop := ∃ ys : List Int, ys.Perm xs ∧ Ints w' A c ys ∧ Fr (blks A) w w'
theorem PmP.pm {A : Option Addr} {c : Nat} {xs : List Int} {w w' : World} {e : Ending} (h : PmP A c xs w e w') : e = .returned (.tuple #[]) ∧ Pm A c xs w w' := h
theorem Pm.pmp {A : Option Addr} {c : Nat} {xs : List Int} {w w' : World} (h : Pm A c xs w w') : PmP A c xs w (.returned (.tuple #[])) w' := ⟨rfl, h⟩
theorem Pm.step {A : Option Addr} {c : Nat} {xs ys : List Int} {w w' w'' : World} (hp : ys.Perm xs) (hf : Fr (blks A) w w') (h : Pm A c ys w' w'') : Pm A c xs w w'' := by
 obtain ⟨zs, h1, h2, h3⟩ := h
 exact ⟨zs, h1.trans hp, h2, hf.then_ h3⟩
theorem symmerge_one (g : Nat) (cb : Array Value) (q : Int → Int → Int) (eg : ∀ args w, (callFunc g args).run Try.prog w = .ok (.enter g args) w) (w : World) (A : Option Addr) (c : Nat) (xs : List Int) (h : Ints w A c xs) (hl : xs.length ≤ 17592186044416) (a m b : Nat) (ham : a < m) (hmb : m < b) (hbn : b ≤ xs.length) (hc : Cmps g cb q A xs w) (h1 : m - a = 1) :
  Calls Try.prog 97 #[.slice A xs.length c, .int .i64 a, .int .i64 m, .int .i64 b, .func (.func g) #[] cb] w (PmP A c xs w) := by
 obtain ⟨ga, hA, hgl⟩ := h.pos (i := a) (by omega)
 subst hA
 have HH := Lib.hid h
 have HC := Lib.hid hc
 have KC : Hid (∀ (wr : World), Fr [] w wr → ∀ i j : Nat, i < xs.length → j < xs.length → ∀ u : Ext wr, Calls Try.prog g (#[.int .i64 xs[i]!, .int .i64 xs[j]!] ++ cb) u.v fun e W' => e = .returned (.int .i64 (q xs[i]! xs[j]!)) ∧ Fr [] u.v W') := fun wr hf i j hi hj u => HC.out u.v ((hf.then_ u.fr).mono (fun k hk => by cases hk)) _ (mem_get hi) _ (mem_get hj)
 have CE : Hid (∀ (wr : World), Fr [] w wr → ∀ i : Nat, i < xs.length → ∀ u : Ext wr, u.v.cell? ⟨ga, i, none⟩ = some (.int .i64 xs[i]!)) := fun wr hf i hi u => (HH.out.keep' (hf.then_ u.fr)).cell hi
 obtain ⟨d1, hd1⟩ : ∃ d, m - a = d := ⟨_, rfl⟩
 obtain ⟨d2, hd2⟩ : ∃ d, b - m = d := ⟨_, rfl⟩
 have w0 : IntKind.i64.wrap ((m : Int) - (a : Int)) = (d1 : Int) := by rw [IntWalk.i64_in _ (by omega)]; omega
 have w1 : IntKind.i64.wrap ((b : Int) - (m : Int)) = (d2 : Int) := by rw [IntWalk.i64_in _ (by omega)]; omega
 clear h hc
 obtain rfl : d1 = 1 := by omega
 go_enter Try.func97, Try.ntmps97
 go_wp2_with fail
 clear w0 w1
 go_loopg [10, 11] (b - m) (fun g x10 x11 wr => ∃ (i j : Nat), j = i + g ∧ m ≤ i ∧ j ≤ b ∧ x10 = .int .i64 i ∧ x11 = .int .i64 j ∧ Hid (Fr [] w wr))
 case atStart => exact ⟨m, b, by omega, by omega, by omega, rfl, rfl, Fr.refl _ _⟩
 case round =>
  obtain ⟨i, j, hg, hi, hj, rfl, rfl, HF⟩ := hrel
  have HG := Lib.hid hg
  have hij0 : i ≤ j := by omega
  clear hg
  by_cases hij : i < j
  ·have w2 : IntKind.i64.wrap ((i : Int) + (j : Int)) = (i : Int) + (j : Int) := IntWalk.i64_in _ (by omega)
   obtain ⟨h, hh⟩ : ∃ h : Nat, ((i : Int) + (j : Int)) / 2 = (h : Int) := ⟨(i + j) / 2, by omega⟩
   have h0 : i ≤ h := by omega
   have h1 : h < j := by omega
   have hx : (h : Int) < (xs.length : Int) := by omega
   have hax : (a : Int) < (xs.length : Int) := by omega
   have w3 : IntKind.i64.wrap ((h : Int) + 1) = (h : Int) + 1 := IntWalk.i64_in _ (by omega)
   have KCC := Lib.hid (KC.out wr HF.out h a (by omega) (by omega))
   have e1 := CE.out wr HF.out h (by omega)
   have e2 := CE.out wr HF.out a (by omega)
   obtain ⟨x, hxx⟩ : ∃ x, xs[h]! = x := ⟨_, rfl⟩
   obtain ⟨y, hyy⟩ : ∃ y, xs[a]! = y := ⟨_, rfl⟩
   rw [hxx] at e1 KCC
   rw [hyy] at e2 KCC
   obtain ⟨r, hr⟩ : ∃ r, q x y = r := ⟨_, rfl⟩
   rw [hr] at KCC
   have H2 := Lib.hid hh
   clear hxx hyy hr
   go_upto_region 5 with fail
   clear hh
   have hh := H2.out
   try rw [hh]
   clear hh
   by_cases hr0 : r < 0
   ·have hd : decide (r < 0) = true := decide_eq_true hr0
    refine wp_region_ext (by kernel_rfl) (by kernel_rfl) ?_
    repeat (go_big_quiet_step (exact call_ext (KCC.out _)))
    refine wpQuiet_nil ?_
    rintro w4 ⟨u2, hu2⟩
    have HF_w4 : Hid (Fr [] wr w4) := hu2 ▸ u2.fr
    clear hu2 u2
    have HF2 := Lib.hid (HF.out.then_ HF_w4.out)
    clear e1 e2 HF HF_w4 KCC
    go_wp2_with fail
    go_roundg (j - (h + 1))
    case measure => have := HG.out; omega
    case rel => exact ⟨h + 1, j, by omega, by omega, by omega, by go_num, rfl, HF2.out⟩
   ·have hr1 : 0 ≤ r := by omega
    have hd : decide (r < 0) = false := decide_eq_false hr0
    refine wp_region_ext (by kernel_rfl) (by kernel_rfl) ?_
    repeat (go_big_quiet_step (exact call_ext (KCC.out _)))
    refine wpQuiet_nil ?_
    rintro w4 ⟨u2, hu2⟩
    have HF_w4 : Hid (Fr [] wr w4) := hu2 ▸ u2.fr
    clear hu2 u2
    have HF2 := Lib.hid (HF.out.then_ HF_w4.out)
    clear e1 e2 HF HF_w4 KCC
    go_wp2_with fail
    go_roundg (h - i)
    case measure => have := HG.out; omega
    case rel => exact ⟨i, h, by omega, by omega, by omega, rfl, rfl, HF2.out⟩
  ·obtain ⟨p, hp⟩ : ∃ p, i - 1 = p := ⟨_, rfl⟩
   have w2 : IntKind.i64.wrap ((i : Int) - 1) = (p : Int) := by rw [IntWalk.i64_in _ (by omega)]; omega
   have hpb : p < b := by omega
   have hapb : a ≤ p := by omega
   clear hp
   have HI0 := Lib.hid (HH.out.keep' HF.out)
   have HF0 : Hid (Fr (blks (some ⟨ga, 0, none⟩)) w wr) := HF.out.mono (fun k hk => by cases hk)
   clear HF
   go_wp2_with fail
   go_loopg [13] (p - a) (fun g x13 wr => ∃ (k : Nat) (ys : List Int), p = k + g ∧ a ≤ k ∧ x13 = .int .i64 k ∧ Hid (ys.Perm xs) ∧ Hid (Ints wr (some ⟨ga, 0, none⟩) c ys) ∧ Hid (Fr (blks (some ⟨ga, 0, none⟩)) w wr))
   case atStart => exact ⟨a, xs, by omega, by omega, rfl, List.Perm.refl _, HI0.out, HF0.out⟩
   case round =>
    obtain ⟨k, ys, hg, hk, rfl, HP, HI, HF⟩ := hrel
    have HG2 := Lib.hid hg
    have hlen := HP.out.length_eq
    clear hg HI0 HF0
    by_cases hkp : k < p
    ·obtain ⟨k1, hk1⟩ : ∃ k1, k + 1 = k1 := ⟨_, rfl⟩
     have w3 : IntKind.i64.wrap ((k : Int) + 1) = (k1 : Int) := by rw [IntWalk.i64_in _ (by omega)]; omega
     have hkl : k < ys.length := by omega
     have hkl1 : k1 < ys.length := by omega
     have c1 := HI.out.cell hkl
     have c2 := HI.out.cell hkl1
     have f1 := HI.out.frozen k
     have f2 := HI.out.frozen k1
     have hne : ¬ k = k1 := by omega
     have hx1 : (k : Int) < (xs.length : Int) := by omega
     have hx2 : (k1 : Int) < (xs.length : Int) := by omega
     have HPX : Hid ((swp2 ys k k1).Perm xs) := (swp2_perm hkl hkl1).trans HP.out
     have HIX := Lib.hid (HI.out.swap k k1)
     have HFX := Lib.hid (HF.out.then_ (Fr.swap wr ga k k1 (.int .i64 ys[k1]!) (.int .i64 ys[k]!)))
     have HK1 := Lib.hid hk1
     obtain ⟨x, hxx⟩ : ∃ x, ys[k]! = x := ⟨_, rfl⟩
     obtain ⟨y, hyy⟩ : ∃ y, ys[k1]! = y := ⟨_, rfl⟩
     rw [hxx] at c1 HIX HFX
     rw [hyy] at c2 HIX HFX
     clear hxx hyy hlen hkl hkl1 hk1 HI HF HP
     go_wp2_with fail
     go_region
     clear c1 c2 f1 f2
     go_wp2_with fail
     go_roundg (p - k1)
     case measure => have := HG2.out; have := HK1.out; omega
     case rel => exact ⟨k1, swp2 ys k k1, by have := HK1.out; omega, by have := HK1.out; omega, by go_num, HPX.out, HIX.out, HFX.out⟩
    ·have FF : Hid (PmP (some ⟨ga, 0, none⟩) c xs w (.returned (.tuple #[])) wr) := ⟨rfl, ys, HP.out, HI.out, HF.out⟩
     go_wp2_with fail
     go_end0
     exact FF.out
theorem symmerge_two (g : Nat) (cb : Array Value) (q : Int → Int → Int) (eg : ∀ args w, (callFunc g args).run Try.prog w = .ok (.enter g args) w) (w : World) (A : Option Addr) (c : Nat) (xs : List Int) (h : Ints w A c xs) (hl : xs.length ≤ 17592186044416) (a m b : Nat) (ham : a < m) (hmb : m < b) (hbn : b ≤ xs.length) (hc : Cmps g cb q A xs w) (h1 : m - a ≠ 1) (h2 : b - m = 1) :
  Calls Try.prog 97 #[.slice A xs.length c, .int .i64 a, .int .i64 m, .int .i64 b, .func (.func g) #[] cb] w (PmP A c xs w) := by
 obtain ⟨ga, hA, hgl⟩ := h.pos (i := a) (by omega)
 subst hA
 have HH := Lib.hid h
 have HC := Lib.hid hc
 have KC : Hid (∀ (wr : World), Fr [] w wr → ∀ i j : Nat, i < xs.length → j < xs.length → ∀ u : Ext wr, Calls Try.prog g (#[.int .i64 xs[i]!, .int .i64 xs[j]!] ++ cb) u.v fun e W' => e = .returned (.int .i64 (q xs[i]! xs[j]!)) ∧ Fr [] u.v W') := fun wr hf i j hi hj u => HC.out u.v ((hf.then_ u.fr).mono (fun k hk => by cases hk)) _ (mem_get hi) _ (mem_get hj)
 have CE : Hid (∀ (wr : World), Fr [] w wr → ∀ i : Nat, i < xs.length → ∀ u : Ext wr, u.v.cell? ⟨ga, i, none⟩ = some (.int .i64 xs[i]!)) := fun wr hf i hi u => (HH.out.keep' (hf.then_ u.fr)).cell hi
 obtain ⟨d1, hd1⟩ : ∃ d, m - a = d := ⟨_, rfl⟩
 obtain ⟨d2, hd2⟩ : ∃ d, b - m = d := ⟨_, rfl⟩
 have w0 : IntKind.i64.wrap ((m : Int) - (a : Int)) = (d1 : Int) := by rw [IntWalk.i64_in _ (by omega)]; omega
 have w1 : IntKind.i64.wrap ((b : Int) - (m : Int)) = (d2 : Int) := by rw [IntWalk.i64_in _ (by omega)]; omega
 clear h hc
 have hn1 : ¬ (d1 : Int) = 1 := by omega
 have hb1 : ((d1 : Int) == 1) = false := by simpa using hn1
 obtain rfl : d2 = 1 := by omega
 go_enter Try.func97, Try.ntmps97
 go_wp2_with fail
 clear w0 w1 hn1 hb1
 go_loopg [14, 15] (m - a) (fun g x10 x11 wr => ∃ (i j : Nat), j = i + g ∧ a ≤ i ∧ j ≤ m ∧ x10 = .int .i64 i ∧ x11 = .int .i64 j ∧ Hid (Fr [] w wr))
 case atStart => exact ⟨a, m, by omega, by omega, by omega, rfl, rfl, Fr.refl _ _⟩
 case round =>
  obtain ⟨i, j, hg, hi, hj, rfl, rfl, HF⟩ := hrel
  have HG := Lib.hid hg
  have hij0 : i ≤ j := by omega
  clear hg
  by_cases hij : i < j
  ·have w2 : IntKind.i64.wrap ((i : Int) + (j : Int)) = (i : Int) + (j : Int) := IntWalk.i64_in _ (by omega)
   obtain ⟨h, hh⟩ : ∃ h : Nat, ((i : Int) + (j : Int)) / 2 = (h : Int) := ⟨(i + j) / 2, by omega⟩
   have h0 : i ≤ h := by omega
   have h1 : h < j := by omega
   have hx : (h : Int) < (xs.length : Int) := by omega
   have hax : (m : Int) < (xs.length : Int) := by omega
   have w3 : IntKind.i64.wrap ((h : Int) + 1) = (h : Int) + 1 := IntWalk.i64_in _ (by omega)
   have KCC := Lib.hid (KC.out wr HF.out m h (by omega) (by omega))
   have e1 := CE.out wr HF.out h (by omega)
   have e2 := CE.out wr HF.out m (by omega)
   obtain ⟨x, hxx⟩ : ∃ x, xs[h]! = x := ⟨_, rfl⟩
   obtain ⟨y, hyy⟩ : ∃ y, xs[m]! = y := ⟨_, rfl⟩
   rw [hxx] at e1 KCC
   rw [hyy] at e2 KCC
   obtain ⟨r, hr⟩ : ∃ r, q y x = r := ⟨_, rfl⟩
   rw [hr] at KCC
   have H2 := Lib.hid hh
   clear hxx hyy hr
   go_upto_region 17 with fail
   clear hh
   have hh := H2.out
   try rw [hh]
   clear hh
   by_cases hr0 : r < 0
   ·have hd : decide (r < 0) = true := decide_eq_true hr0
    refine wp_region_ext (by kernel_rfl) (by kernel_rfl) ?_
    repeat (go_big_quiet_step (exact call_ext (KCC.out _)))
    refine wpQuiet_nil ?_
    rintro w4 ⟨u2, hu2⟩
    have HF_w4 : Hid (Fr [] wr w4) := hu2 ▸ u2.fr
    clear hu2 u2
    have HF2 := Lib.hid (HF.out.then_ HF_w4.out)
    clear e1 e2 HF HF_w4 KCC
    go_wp2_with fail
    go_roundg (h - i)
    case measure => have := HG.out; omega
    case rel => exact ⟨i, h, by omega, by omega, by omega, rfl, rfl, HF2.out⟩
   ·have hr1 : 0 ≤ r := by omega
    have hd : decide (r < 0) = false := decide_eq_false hr0
    refine wp_region_ext (by kernel_rfl) (by kernel_rfl) ?_
    repeat (go_big_quiet_step (exact call_ext (KCC.out _)))
    refine wpQuiet_nil ?_
    rintro w4 ⟨u2, hu2⟩
    have HF_w4 : Hid (Fr [] wr w4) := hu2 ▸ u2.fr
    clear hu2 u2
    have HF2 := Lib.hid (HF.out.then_ HF_w4.out)
    clear e1 e2 HF HF_w4 KCC
    go_wp2_with fail
    go_roundg (j - (h + 1))
    case measure => have := HG.out; omega
    case rel => exact ⟨h + 1, j, by omega, by omega, by omega, by go_num, rfl, HF2.out⟩
  ·have him : i ≤ m := by omega
   have HI0 := Lib.hid (HH.out.keep' HF.out)
   have HF0 : Hid (Fr (blks (some ⟨ga, 0, none⟩)) w wr) := HF.out.mono (fun k hk => by cases hk)
   clear HF
   go_wp2_with fail
   go_loopg [17] (m - i) (fun g x13 wr => ∃ (k : Nat) (ys : List Int), k = i + g ∧ k ≤ m ∧ x13 = .int .i64 k ∧ Hid (ys.Perm xs) ∧ Hid (Ints wr (some ⟨ga, 0, none⟩) c ys) ∧ Hid (Fr (blks (some ⟨ga, 0, none⟩)) w wr))
   case atStart => exact ⟨m, xs, by omega, by omega, rfl, List.Perm.refl _, HI0.out, HF0.out⟩
   case round =>
    obtain ⟨k, ys, hg, hk, rfl, HP, HI, HF⟩ := hrel
    have HG2 := Lib.hid hg
    have hlen := HP.out.length_eq
    have hik : i ≤ k := by omega
    clear hg HI0 HF0
    by_cases hkp : i < k
    ·obtain ⟨k1, hk1⟩ : ∃ k1, k - 1 = k1 := ⟨_, rfl⟩
     have w3 : IntKind.i64.wrap ((k : Int) - 1) = (k1 : Int) := by rw [IntWalk.i64_in _ (by omega)]; omega
     have hkl : k < ys.length := by omega
     have hkl1 : k1 < ys.length := by omega
     have c1 := HI.out.cell hkl
     have c2 := HI.out.cell hkl1
     have f1 := HI.out.frozen k
     have f2 := HI.out.frozen k1
     have hne : ¬ k = k1 := by omega
     have hx1 : (k : Int) < (xs.length : Int) := by omega
     have hx2 : (k1 : Int) < (xs.length : Int) := by omega
     have HPX : Hid ((swp2 ys k k1).Perm xs) := (swp2_perm hkl hkl1).trans HP.out
     have HIX := Lib.hid (HI.out.swap k k1)
     have HFX := Lib.hid (HF.out.then_ (Fr.swap wr ga k k1 (.int .i64 ys[k1]!) (.int .i64 ys[k]!)))
     have HK1 := Lib.hid hk1
     obtain ⟨x, hxx⟩ : ∃ x, ys[k]! = x := ⟨_, rfl⟩
     obtain ⟨y, hyy⟩ : ∃ y, ys[k1]! = y := ⟨_, rfl⟩
     rw [hxx] at c1 HIX HFX
     rw [hyy] at c2 HIX HFX
     clear hxx hyy hlen hkl hkl1 hk1 HI HF HP
     go_wp2_with fail
     go_region
     clear c1 c2 f1 f2
     go_wp2_with fail
     go_roundg (k1 - i)
     case measure => have := HG2.out; have := HK1.out; omega
     case rel => exact ⟨k1, swp2 ys k k1, by have := HK1.out; omega, by have := HK1.out; omega, by go_num, HPX.out, HIX.out, HFX.out⟩
    ·have FF : Hid (PmP (some ⟨ga, 0, none⟩) c xs w (.returned (.tuple #[])) wr) := ⟨rfl, ys, HP.out, HI.out, HF.out⟩
     go_wp2_with fail
     go_end0
     exact FF.out
end Go.Proofs.Ytjchilcpflfcnaa
