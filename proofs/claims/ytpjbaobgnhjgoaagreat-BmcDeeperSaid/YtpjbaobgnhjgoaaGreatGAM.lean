/- Parts of a proof. -/
import Derived.Test.YtpjbaobgnhjgoaaGreatGAL
import Derived.Laws.MakeOwn
set_option linter.unusedVariables false
set_option linter.unusedSimpArgs false
set_option maxHeartbeats 8000000
namespace Go.Proofs.YtpjbaobgnhjgoaaGreat
open Go.RowKit
set_option maxRecDepth 100000 in
theorem ye (w : World) (A : Option Addr) (c : Nat) (xs : List Int) (h : Ints w A c xs) (hl : xs.length ≤ 17592186044416) (a m b : Nat) (uq : a < m) (vP : m < b) (qI : b ≤ xs.length) (g : Nat) (cb : Array Value) :
  Calls Tryz.prog 197 #[.slice A xs.length c, .int .i64 a, .int .i64 m, .int .i64 b, .func (.func g) #[] cb] w (B9 A c xs (lS m (b - a) (m - a) (b - m) xs) w) := by
 obtain ⟨RES, co⟩ : ∃ RES, lS m (b - a) (m - a) (b - m) xs = RES := ⟨_, rfl⟩
 rw [co]
 have HH := aa h
 clear h
 obtain ⟨i0, P2⟩ : ∃ i0, m - a = i0 := ⟨_, rfl⟩
 obtain ⟨j0, zt⟩ : ∃ j0, b - m = j0 := ⟨_, rfl⟩
 rw [P2, zt] at co
 have dC := aa co
 clear co
 have w0 : IntKind.i64.wrap ((m : Int) - (a : Int)) = (i0 : Int) := by rw [IntWalk.i64_in _ (by omega)]; omega
 have w1 : IntKind.i64.wrap ((b : Int) - (m : Int)) = (j0 : Int) := by rw [IntWalk.i64_in _ (by omega)]; omega
 go_enter Tryz.func197, Tryz.ntmps197
 go_wp2_with fail
 clear w0 w1
 go_loopg [10, 11] (i0 + j0) (fun g wD xC wr => ∃ (i j : Nat) (ys : List Int), i + j = g ∧ 0 < i ∧ 0 < j ∧ i ≤ m - a ∧ j ≤ b - m ∧ wD = .int .i64 i ∧ xC = .int .i64 j ∧ Hid (ys.Perm xs) ∧ Hid (Ints wr A c ys) ∧ Hid (Fr (ah A) w wr) ∧ Hid (∃ f, i + j ≤ f ∧ lS m f i j ys = RES))
 case atStart => exact ⟨i0, j0, xs, rfl, by omega, by omega, by omega, by omega, rfl, rfl, cN _, HH.out, Fr.refl _ _, ⟨b - a, by omega, dC.out⟩⟩
 case round =>
  obtain ⟨i, j, ys, hg, hi, hj, hia, hjb, rfl, rfl, HP, HI, HF, HE⟩ := hrel
  have HG := aa hg
  have hlen := HP.out.length_eq
  clear hg P2 zt
  obtain ⟨p, hp⟩ : ∃ p, m - i = p := ⟨_, rfl⟩
  have w1 : IntKind.i64.wrap ((m : Int) - (i : Int)) = (p : Int) := by rw [IntWalk.i64_in _ (by omega)]; omega
  rcases Nat.lt_trichotomy i j with rt | rt | rt
  ·obtain ⟨q, hq⟩ : ∃ q, m + j = q := ⟨_, rfl⟩
   obtain ⟨r, hr⟩ : ∃ r, q - i = r := ⟨_, rfl⟩
   obtain ⟨j1, hj1⟩ : ∃ j1, j - i = j1 := ⟨_, rfl⟩
   have w2 : IntKind.i64.wrap ((m : Int) + (j : Int)) = (q : Int) := by rw [IntWalk.i64_in _ (by omega)]; omega
   have w3 : IntKind.i64.wrap ((q : Int) - (i : Int)) = (r : Int) := by rw [IntWalk.i64_in _ (by omega)]; omega
   have w4 : IntKind.i64.wrap ((j : Int) - (i : Int)) = (j1 : Int) := by rw [IntWalk.i64_in _ (by omega)]; omega
   have KS := aa (iK wr A c ys HI.out (by omega) p r i (by omega) (by omega) g cb)
   rw [hlen] at KS
   have GC : Hid (∃ f, i + j1 ≤ f ∧ lS m f i j1 (ld p r i 0 ys) = RES) := by
    obtain ⟨f, h1, h2⟩ := HE.out
    rw [OA (by omega) rt, hp, hj1, hq, hr] at h2
    exact ⟨f - 1, by omega, h2⟩
   have dN : ¬ (i : Int) = (j : Int) := by omega
   have hle : (i : Int) ≤ (j : Int) := by omega
   have HJ : Hid (0 < j1 ∧ j1 ≤ b - m ∧ i + j1 < gk) := ⟨by omega, by omega, by have := HG.out; omega⟩
   clear hlen hp hq hr hj1 HI HE
   go_wp2_with fail
   refine KS.out.mono ?_
   clear KS
   rintro e w2 ⟨rfl, zs, z1, z2, z3, rfl⟩
   have zl := aa (z1.trans HP.out)
   have lZ := aa z2
   have cJ := aa (HF.out.ag z3)
   clear z1 z2 z3 HP HF
   go_wp2_with fail
   go_roundg (i + j1)
   case measure => have := HJ.out; omega
   case rel => exact ⟨i, j1, _, rfl, hi, HJ.out.1, hia, HJ.out.2.1, rfl, rfl, zl.out, lZ.out, cJ.out, GC.out⟩
  ·subst rt
   have KS := aa (iK wr A c ys HI.out (by omega) p m i (by omega) (by omega) g cb)
   rw [hlen] at KS
   have GC : Hid (ld p m i 0 ys = RES) := by
    obtain ⟨f, h1, h2⟩ := HE.out
    rw [OC (by omega), hp] at h2
    exact h2
   clear hlen hp HI HE
   go_wp2_with fail
   refine KS.out.mono ?_
   clear KS
   rintro e w2 ⟨rfl, zs, z1, z2, z3, rfl⟩
   have FF : Hid (B9 A c xs RES w (.returned (.tuple #[])) w2) := ⟨rfl, _, z1.trans HP.out, z2, HF.out.ag z3, GC.out⟩
   clear z1 z2 z3 HP HF
   go_wp2_with fail
   go_end0
   exact FF.out
  ·obtain ⟨i1, LS⟩ : ∃ i1, i - j = i1 := ⟨_, rfl⟩
   have w4 : IntKind.i64.wrap ((i : Int) - (j : Int)) = (i1 : Int) := by rw [IntWalk.i64_in _ (by omega)]; omega
   have KS := aa (iK wr A c ys HI.out (by omega) p m j (by omega) (by omega) g cb)
   rw [hlen] at KS
   have GC : Hid (∃ f, i1 + j ≤ f ∧ lS m f i1 j (ld p m j 0 ys) = RES) := by
    obtain ⟨f, h1, h2⟩ := HE.out
    rw [OB (by omega) rt, hp, LS] at h2
    exact ⟨f - 1, by omega, h2⟩
   have dN : ¬ (i : Int) = (j : Int) := by omega
   have hle : (j : Int) < (i : Int) := by omega
   have HJ : Hid (0 < i1 ∧ i1 ≤ m - a ∧ i1 + j < gk) := ⟨by omega, by omega, by have := HG.out; omega⟩
   clear hlen hp LS HI HE
   go_wp2_with fail
   refine KS.out.mono ?_
   clear KS
   rintro e w2 ⟨rfl, zs, z1, z2, z3, rfl⟩
   have zl := aa (z1.trans HP.out)
   have lZ := aa z2
   have cJ := aa (HF.out.ag z3)
   clear z1 z2 z3 HP HF
   go_wp2_with fail
   go_roundg (i1 + j)
   case measure => have := HJ.out; omega
   case rel => exact ⟨i1, j, _, rfl, HJ.out.1, hj, HJ.out.2.1, hjb, rfl, rfl, zl.out, lZ.out, cJ.out, GC.out⟩
def SA (w : World) (g : Nat) (cb : Array Value) (p : List Int → Bool) (hs : List Ls) : Prop := ∀ W, Fr [] w W → ∀ h, h ∈ hs → N6 W h →
 Calls Tryz.prog g (#[h.val] ++ cb) W fun e w' => e = .returned (.bool (p h.l)) ∧ Fr [] W w'
theorem Aw (w : World) (A : Option Addr) (c : Nat) (hs : List Ls) (g : Nat) (cb : Array Value) (p : List Int → Bool) (eg : ∀ args w, (callFunc g args).run Tryz.prog w = .ok (.enter g args) w) (h : CC w A hs) (hl : hs.length ≤ 17592186044416) (hp : SA w g cb p hs) :
  Calls Tryz.prog 50 #[.slice A hs.length c, .func (.func g) #[] cb] w (JO (hs.any fun h => p h.l) w) := by
 have HH := aa h
 have HP := aa hp
 have rI : Hid (∀ (n : Nat) W, n ≤ 17592186044416 → (hs.any fun h => p h.l) = true → Fr [] w W → JO (hs.any fun h => p h.l) w (.returned (.int .i64 (n : Int))) W) := fun n W h1 h2 h3 => ⟨n, rfl, by omega, by omega, by rw [h2]; exact decide_eq_true (by omega), h3⟩
 have NO : Hid (∀ W, (hs.any fun h => p h.l) = false → Fr [] w W → JO (hs.any fun h => p h.l) w (.returned (.int .i64 (-1))) W) := fun W h2 h3 => ⟨-1, rfl, by omega, by omega, by rw [h2]; rfl, h3⟩
 clear h hp
 go_enter Tryz.func50, Tryz.ntmps50
 go_wp2_with fail
 go_loopg [8] hs.length (fun g i wr => ∃ k : Nat, k + g = hs.length ∧ i = .int .i64 k ∧ Fr [] w wr ∧ ev hs (fun h => p h.l) k)
 case atStart => exact ⟨0, by omega, rfl, Fr.refl _ _, ev.zero _ _⟩
 case round =>
  obtain ⟨k, hk, rfl, hx, hn⟩ := hrel
  have HK := aa hk
  have HX := aa hx
  have HN := aa hn
  have j4 : k ≤ hs.length := by omega
  clear hk hx hn
  by_cases bM : k < hs.length
  ·obtain ⟨b, o, B, d, l, hA, he, cx, ok⟩ := (HH.out.keep HX.out).one bM
   subst hA
   obtain ⟨q, HQ⟩ : ∃ q, Hid (p l = q) := ⟨_, rfl⟩
   have KC := HP.out wr HX.out ⟨B, d, l⟩ (by rw [← he.out]; exact bw bM) ok
   have HC : Hid (Calls Tryz.prog g (#[.slice B l.length d] ++ cb) wr fun e w' => e = .returned (.bool (p l)) ∧ Fr [] wr w') := KC
   clear ok KC
   go_wp2_with fail
   refine HC.out.mono ?_
   rw [HQ.out]
   rintro e w2 ⟨rfl, hf⟩
   have HF := aa (HX.out.ag hf)
   clear hf
   cases q with
   | true =>
    go_wp2_with fail
    go_ret
    exact rI.out k _ (by omega) (sY _ _ k bM (by rw [he.out]; exact HQ.out)) HF.out
   | false =>
    go_wp2_with fail
    go_roundg (gk - 1)
    case measure => have := HK.out; omega
    case rel => exact ⟨k + 1, by have := HK.out; omega, by go_num, HF.out, HN.out.step (by rw [he.out]; exact HQ.out)⟩
  ·have HT := aa (HN.out.all bM)
   clear HN HK
   go_wp2_with fail
   go_ret
   exact NO.out _ HT.out HX.out
theorem mT (w : World) (A : Option Addr) (c : Nat) (hs : List Ls) (g : Nat) (cb : Array Value) (p : List Int → Bool) (eg : ∀ args w, (callFunc g args).run Tryz.prog w = .ok (.enter g args) w) (h : CC w A hs) (hl : hs.length ≤ 17592186044416) (hp : SA w g cb p hs) :
  Calls Tryz.prog 23 #[.slice A hs.length c, .func (.func g) #[] cb] w fun e w' => e = .returned (.bool (hs.any fun h => p h.l)) ∧ Fr [] w w' := by
 have HC := aa (Aw w A c hs g cb p eg h hl hp)
 clear h hp
 go_enter Tryz.func23, Tryz.ntmps23
 go_wp2_with fail
 refine HC.out.mono ?_
 rintro e w2 ⟨n, rfl, h1, h2, h3, hf⟩
 have H3 := aa h3
 have HF := aa hf
 clear h3 hf
 go_wp2_with fail
 go_ret
 exact ⟨by rw [← H3.out]; rfl, HF.out⟩
def cT (b l : Int) : Int := if l % 2 = 1 then -(b + l / 2 + 1) else b + l / 2 + 1
theorem wU (w : World) (b v : Int) (hb : 0 ≤ b ∧ b ≤ 1000000) (hv : 0 ≤ v ∧ v ≤ 1000000) :
  Calls Tryz.prog 117 #[.int .i64 b, .int .i64 v] w fun e w' => e = .returned (.int .i64 (b + v + 1)) ∧ w = w' := by
 have h1 : IntKind.i64.wrap (b + v) = b + v := IntWalk.i64_in _ (by omega)
 have h2 : IntKind.i64.wrap (b + v + 1) = b + v + 1 := IntWalk.i64_in _ (by omega)
 go_enter Tryz.func117, Tryz.ntmps117
 go_wp2_with fail
 go_ret
 exact ⟨rfl, rfl⟩
theorem lu (w : World) (b l : Int) (hb : 0 ≤ b ∧ b ≤ 1000000) (hl : 0 ≤ l ∧ l ≤ 1000000) :
  Calls Tryz.prog 79 #[.int .i64 b, .int .i64 l] w fun e w' => e = .returned (.int .i64 (cT b l)) ∧ w = w' := by
 have KN := aa (pD w l hl.1 (by omega))
 have KV := aa (ii w l hl.1 (by omega))
 have KO := aa (wU w b (l / 2) hb (by omega))
 by_cases h1 : l % 2 = 1
 ·have d1 : (l % 2 == 1) = true := by rw [h1]; rfl
  have HT : Hid (cT b l = -(b + l / 2 + 1)) := if_pos h1
  rw [HT.out]
  have hw : IntKind.i64.wrap (-(b + l / 2 + 1)) = -(b + l / 2 + 1) := IntWalk.i64_in _ (by omega)
  clear h1
  go_enter Tryz.func79, Tryz.ntmps79
  go_wp2_with fail
  refine KN.out.mono ?_
  rintro e w1 ⟨rfl, rfl⟩
  go_wp2_with fail
  refine KV.out.mono ?_
  rintro e w1 ⟨rfl, rfl⟩
  go_wp2_with fail
  refine KO.out.mono ?_
  rintro e w1 ⟨rfl, rfl⟩
  go_wp2_with fail
  go_ret
  exact ⟨rfl, rfl⟩
 ·have d1 : (l % 2 == 1) = false := by rw [beq_eq_false_iff_ne]; exact h1
  have HT : Hid (cT b l = b + l / 2 + 1) := if_neg h1
  rw [HT.out]
  clear h1
  go_enter Tryz.func79, Tryz.ntmps79
  go_wp2_with fail
  refine KN.out.mono ?_
  rintro e w1 ⟨rfl, rfl⟩
  go_wp2_with fail
  refine KV.out.mono ?_
  rintro e w1 ⟨rfl, rfl⟩
  go_wp2_with fail
  refine KO.out.mono ?_
  rintro e w1 ⟨rfl, rfl⟩
  go_wp2_with fail
  go_ret
  exact ⟨rfl, rfl⟩
theorem xx (w : World) (b : Int) (hb : 0 ≤ b ∧ b ≤ 262144) :
  Calls Tryz.prog 78 #[.int .i64 b] w fun e w' => e = .returned (.int .i64 b) ∧ w = w' := by
 have h1 : decide (b < 0) = false := decide_eq_false (by omega)
 have h2 : decide (262144 < b) = false := decide_eq_false (by omega)
 go_enter Tryz.func78, Tryz.ntmps78
 go_wp2_with fail
 go_ret
 exact ⟨rfl, rfl⟩
theorem qC (w : World) (b l : Int) (hb : 0 ≤ b ∧ b ≤ 262144) (hl : 0 ≤ l ∧ l ≤ 4097) :
  Calls Tryz.prog 41 #[.int .i64 b, .int .i64 l] w fun e w' => e = .returned (.int .i64 (cT b l)) ∧ w = w' := by
 have KA := aa (xx w b hb)
 have KL := aa (lu w b l (by omega) (by omega))
 have hm : min l 4097 = l := by omega
 go_enter Tryz.func41, Tryz.ntmps41
 go_wp2_with fail
 refine KA.out.mono ?_
 rintro e w1 ⟨rfl, rfl⟩
 go_wp2_with fail
 refine KL.out.mono ?_
 rintro e w1 ⟨rfl, rfl⟩
 go_wp2_with fail
 go_ret
 exact ⟨rfl, rfl⟩
theorem dw {C : Pc} (h : Valid C) : ∀ x ∈ cm C, 2 ≤ x ∧ x ≤ 2 * C.mx ∧ x % 2 = 0 := by
 intro x hx
 obtain ⟨j, hj, hg⟩ := List.getElem_of_mem hx
 have := h.own j hj
 simp only [jL, aD, decide_eq_true_eq] at this
 rw [ae, af hj, aq, hg] at this
 exact ⟨this.1.1.1, this.1.2, this.1.1.2⟩
theorem ji {C : Pc} (h : Valid C) (j : Nat) (hj : j < C.aX.length) : 2 ≤ (C.aX[j]!).a ∧ (C.aX[j]!).a ≤ 2 * C.mx ∧ (C.aX[j]!).a % 2 = 0 := by
 refine dw h _ ?_
 rw [ae, af hj]
 simp only [cm, aj, bE, aq]
 exact .inl (.inr ⟨_, List.getElem_mem hj, rfl⟩)
def eH (C : Pc) (f : Int) : Int := f * (C.mx + 1)
theorem lJ {C : Pc} (h0 : 0 ≤ C.mx) (h1 : C.mx ≤ 2048) {f : Int} (hf : 0 ≤ f ∧ f ≤ 81) : 0 ≤ eH C f ∧ eH C f ≤ 165969 := by
 unfold eH
 have h2 : f * (C.mx + 1) ≤ 81 * 2049 := by
  have h3 : f * (C.mx + 1) ≤ 81 * (C.mx + 1) := Int.mul_le_mul_of_nonneg_right hf.2 (by omega)
  omega
 exact ⟨Int.mul_nonneg hf.1 (by omega), by omega⟩
theorem jR (w : World) (H : Hd) (C : Pc) (h0 : 0 ≤ C.mx) (h1 : C.mx ≤ 2048) (f : Int) (hf : 0 ≤ f ∧ f ≤ 81) :
  Calls Tryz.prog 68 #[dn H C, .int .i64 f] w fun e w' => e = .returned (.int .i64 (eH C f)) ∧ Fr [] w w' := by
 have HX := aa (Cx.start w H C)
 have hb := lJ h0 h1 hf
 have ep : IntKind.i64.wrap (C.mx + 1) = C.mx + 1 := IntWalk.i64_in _ (by omega)
 have kD : IntKind.i64.wrap (f * (C.mx + 1)) = f * (C.mx + 1) := IntWalk.i64_in _ (by unfold eH at hb; omega)
 have HB : Hid (eH C f = f * (C.mx + 1)) := (rfl : eH C f = f * (C.mx + 1))
 rw [HB.out]
 clear hb HB
 obtain ⟨mx, ins, aX, outs, aO, aN, au, bO⟩ := C
 obtain ⟨iA, iC, lA, lC, oA, oC, bA, bC, vA, vC, gA, gC, nA, nC⟩ := H
 simp only [dn, gH] at *
 obtain ⟨c0, c1, c2, c3, c4, c5, c6, c7⟩ := HX.out.cells
 simp only at c0 c1 c2 c3 c4 c5 c6 c7
 go_enter Tryz.func68, Tryz.ntmps68
 go_wp2_with fail
 go_ret
 exact ⟨rfl, HX.out.fr⟩
theorem i4 (w : World) (H : Hd) (C : Pc) (h : iE w H C) (hv : Valid C) (f : Int) (hf : 0 ≤ f ∧ f ≤ 80) :
  Calls Tryz.prog 67 #[dn H C, .int .i64 f] w fun e w' => e = .returned (.bool true) ∧ Fr [] w w' := by
 have HX := aa (Cx.start w H C)
 have KC : Hid (Calls Tryz.prog 22 #[dn H C] (w.alloc (.cells (gH H C) 27)) fun e w' => e = .returned (.int .i64 0) ∧ Fr [] (w.alloc (.cells (gH H C) 27)) w') := (j6 _ H C (h.keep HX.out.fr)).mono fun e w' ⟨h1, h2⟩ => by
  rcases h1 with ⟨h3, _⟩ | ⟨_, h3⟩
  ·exact ⟨h3, h2⟩
  ·exact absurd hv h3
 have d0 : decide (0 ≤ f) = true := decide_eq_true hf.1
 have d1 : decide (f ≤ 80) = true := decide_eq_true hf.2
 clear h hv
 obtain ⟨mx, ins, aX, outs, aO, aN, au, bO⟩ := C
 obtain ⟨iA, iC, lA, lC, oA, oC, bA, bC, vA, vC, gA, gC, nA, nC⟩ := H
 simp only [dn, gH] at *
 obtain ⟨c0, c1, c2, c3, c4, c5, c6, c7⟩ := HX.out.cells
 simp only at c0 c1 c2 c3 c4 c5 c6 c7
 go_enter Tryz.func67, Tryz.ntmps67
 go_wp2_with fail
 refine KC.out.mono ?_
 rintro e w1 ⟨rfl, cE⟩
 have HF := aa (HX.out.fr.ag cE)
 clear cE
 go_wp2_with fail
 go_ret
 exact ⟨rfl, HF.out⟩
theorem ml (w : World) (H : Hd) (C : Pc) (h : iE w H C) (hv : Valid C) (f : Int) (hf : 0 ≤ f ∧ f ≤ 80) :
  Calls Tryz.prog 37 #[dn H C, .int .i64 f] w fun e w' => e = .returned (.int .i64 (eH C f)) ∧ Fr [] w w' := by
 have HX := aa (Cx.start w H C)
 have KR := aa (i4 _ H C (h.keep HX.out.fr) hv f hf)
 have KB := aa (fun W => jR W H C hv.m0 hv.m1 f (by omega))
 obtain ⟨B, hB⟩ : ∃ B, eH C f = B := ⟨_, rfl⟩
 simp only [hB] at KB ⊢
 clear h hv hB
 obtain ⟨mx, ins, aX, outs, aO, aN, au, bO⟩ := C
 obtain ⟨iA, iC, lA, lC, oA, oC, bA, bC, vA, vC, gA, gC, nA, nC⟩ := H
 simp only [dn, gH] at *
 obtain ⟨c0, c1, c2, c3, c4, c5, c6, c7⟩ := HX.out.cells
 simp only at c0 c1 c2 c3 c4 c5 c6 c7
 go_enter Tryz.func37, Tryz.ntmps37
 go_wp2_with fail
 refine KR.out.mono ?_
 rintro e w1 ⟨rfl, cE⟩
 have hG := aa (HX.out.keep cE)
 obtain ⟨d0, d1, d2, d3, d4, d5, d6, d7⟩ := hG.out.cells
 simp only at d0 d1 d2 d3 d4 d5 d6 d7
 clear cE c0 c1 c2 c3 c4 c5 c6 c7
 go_wp2_with fail
 refine (KB.out w1).mono ?_
 rintro e w2 ⟨rfl, cd⟩
 have HF := aa (hG.out.fr.ag cd)
 clear cd
 go_wp2_with fail
 go_ret
 exact ⟨rfl, HF.out⟩
theorem qQ (w : World) (H : Hd) (C : Pc) (h : iE w H C) (hv : Valid C) (f : Int) (hf : 0 ≤ f ∧ f ≤ 80) :
  Calls Tryz.prog 20 #[dn H C, .int .i64 f] w fun e w' => e = .returned (.int .i64 (eH C f)) ∧ Fr [] w w' := by
 have HX := aa (Cx.start w H C)
 have KB := aa (ml _ H C (h.keep HX.out.fr) hv f hf)
 clear h hv
 obtain ⟨mx, ins, aX, outs, aO, aN, au, bO⟩ := C
 obtain ⟨iA, iC, lA, lC, oA, oC, bA, bC, vA, vC, gA, gC, nA, nC⟩ := H
 simp only [dn, gH] at *
 obtain ⟨c0, c1, c2, c3, c4, c5, c6, c7⟩ := HX.out.cells
 simp only at c0 c1 c2 c3 c4 c5 c6 c7
 go_enter Tryz.func20, Tryz.ntmps20
 go_wp2_with fail
 refine KB.out.mono ?_
 rintro e w2 ⟨rfl, cd⟩
 have HF := aa (HX.out.fr.ag cd)
 clear cd
 go_wp2_with fail
 go_ret
 exact ⟨rfl, HF.out⟩
def vk (C : Pc) (f n : Int) : Int := if n < 0 then -(cT (eH C f) (C.aX[(-n - 1).toNat]!).a) else cT (eH C f) (C.aX[(n - 1).toNat]!).a
theorem o6 (w : World) (H : Hd) (C : Pc) (h : iE w H C) (hv : Valid C) (f : Int) (hf : 0 ≤ f ∧ f ≤ 80) (n : Int) (hn : n ≠ 0 ∧ -(C.aX.length : Int) ≤ n ∧ n ≤ C.aX.length) :
  Calls Tryz.prog 100 #[dn H C, .int .i64 f, .int .i64 n] w fun e w' => e = .returned (.int .i64 (vk C f n)) ∧ Fr [] w w' := by
 obtain ⟨wb, fd⟩ : ∃ W, w.alloc (.cells (gH H C) 27) = W := ⟨_, rfl⟩
 have hx := Cx.start w H C
 rw [fd] at hx
 have HX := aa hx
 have T4 := hv.l
 obtain ⟨j, hj, PZ⟩ : ∃ j : Nat, j < C.aX.length ∧ (n = (j : Int) + 1 ∨ n = -((j : Int) + 1)) := by
  by_cases h0 : n < 0
  ·exact ⟨(-n - 1).toNat, by omega, .inr (by omega)⟩
  ·exact ⟨(n - 1).toNat, by omega, .inl (by omega)⟩
 obtain ⟨b, o, x, y, z, hA, he, cx, -⟩ := (h.keep hx.fr).l.one h.lr hj
 have dj := ji hv j hj
 rw [he.out] at dj
 have hb := lJ hv.m0 hv.m1 (f := f) (by omega)
 have KB := aa (fun W => jR W H C hv.m0 hv.m1 f (by omega))
 have lX := hv.m1
 have KL := aa (fun W => qC W (eH C f) x (by omega) (by simp only at dj; omega))
 obtain ⟨B, hB⟩ : ∃ B, eH C f = B := ⟨_, rfl⟩
 have ug : 1 ≤ cT B x ∧ cT B x ≤ 1000000 := by
  unfold cT
  rw [hB] at hb
  simp only at dj
  rw [if_neg (by omega)]
  omega
 obtain ⟨t, ht⟩ : ∃ t, cT B x = t := ⟨_, rfl⟩
 have Gz : Hid (vk C f n = if n < 0 then -t else t) := by
  show _ = _
  unfold vk
  rw [hB]
  rcases PZ with rfl | rfl
  ·rw [if_neg (by omega), if_neg (by omega), show ((j : Int) + 1 - 1).toNat = j by omega, he.out, ht]
  ·rw [if_pos (by omega), if_pos (by omega), show (-(-((j : Int) + 1)) - 1).toNat = j by omega, he.out, ht]
 rw [Gz.out]
 simp only [hB, ht] at KB KL
 rw [ht] at ug
 have Ip : (j : Int) < (C.aX.length : Int) := by omega
 have Nc := aa fd
 clear h hv hx dj hb hB ht Gz he fd
 obtain ⟨mx, ins, aX, outs, aO, aN, au, bO⟩ := C
 obtain ⟨iA, iC, lA, lC, oA, oC, bA, bC, vA, vC, gA, gC, nA, nC⟩ := H
 simp only [dn, gH] at *
 try simp only at hA
 subst hA
 obtain ⟨c0, c1, c2, c3, c4, c5, c6, c7⟩ := HX.out.cells
 simp only at c0 c1 c2 c3 c4 c5 c6 c7
 obtain ⟨e0, e1, e2, e3, e4, e5, e6, e7⟩ := HX.out.ext
 simp only at e0 e1 e2 e3 e4 e5 e6 e7
 have ex := Ext.cell cx
 have fd := Nc.out
 try simp only [gH] at fd
 rcases PZ with rfl | rfl
 ·have d0 : decide ((j : Int) + 1 < 0) = false := decide_eq_false (by omega)
  rw [if_neg (by omega)]
  have ep : IntKind.i64.wrap (-((j : Int) + 1)) = -((j : Int) + 1) := IntWalk.i64_in _ (by omega)
  have oQ : max ((j : Int) + 1) (-((j : Int) + 1)) = (j : Int) + 1 := by omega
  have kD : IntKind.i64.wrap ((j : Int) + 1 - 1) = (j : Int) := by rw [show (j : Int) + 1 - 1 = (j : Int) by omega]; exact IntWalk.i64_in _ (by omega)
  go_enter Tryz.func100, Tryz.ntmps100
  go_upto_region 1 with fail
  refine al (by kernel_rfl) (by kernel_rfl) ?_
  repeat (go_big_quiet_step (first | exact bN (KB.out _) | exact aV (KL.out _)))
  refine wpQuiet_nil ?_
  rintro w2 ⟨u2, bJ⟩
  have aT : Hid (Fr [] wb w2) := bJ ▸ u2.fr
  clear bJ u2
  go_wp2_with fail
  go_ret
  exact ⟨rfl, HX.out.fr.ag aT.out⟩
 ·have d0 : decide (-((j : Int) + 1) < 0) = true := decide_eq_true (by omega)
  rw [if_pos (by omega)]
  have ep : IntKind.i64.wrap (- -((j : Int) + 1)) = (j : Int) + 1 := by rw [Int.neg_neg]; exact IntWalk.i64_in _ (by omega)
  have oQ : max (-((j : Int) + 1)) ((j : Int) + 1) = (j : Int) + 1 := by omega
  have kD : IntKind.i64.wrap ((j : Int) + 1 - 1) = (j : Int) := by rw [show (j : Int) + 1 - 1 = (j : Int) by omega]; exact IntWalk.i64_in _ (by omega)
  have kW : IntKind.i64.wrap (-t) = -t := IntWalk.i64_in _ (by omega)
  go_enter Tryz.func100, Tryz.ntmps100
  go_upto_region 1 with fail
  refine al (by kernel_rfl) (by kernel_rfl) ?_
  repeat (go_big_quiet_step (first | exact bN (KB.out _) | exact aV (KL.out _)))
  refine wpQuiet_nil ?_
  rintro w2 ⟨u2, bJ⟩
  have aT : Hid (Fr [] wb w2) := bJ ▸ u2.fr
  clear bJ u2
  go_wp2_with fail
  go_ret
  exact ⟨rfl, HX.out.fr.ag aT.out⟩
structure Qn where
 C : Pc
 am : List Ls
 ls : List Ls
 ks : List Ls
 bad : Int
 dep : Int
 gT : Int
structure Qh where
 H : Hd
 aA : Option Addr
 aC : Nat
 lA : Option Addr
 lC : Nat
 kA : Option Addr
 kC : Nat
def tI (H : Qh) (q : Qn) : Array Value :=
 #[.int .i64 q.C.mx, .slice H.H.iA q.C.ins.length H.H.iC, .slice H.H.lA q.C.aX.length H.H.lC, .slice H.H.oA q.C.outs.length H.H.oC, .slice H.H.bA q.C.aO.length H.H.bC, .slice H.H.vA q.C.aN.length H.H.vC, .slice H.H.gA q.C.au.length H.H.gC, .slice H.H.nA q.C.bO.length H.H.nC,
  .slice H.aA q.am.length H.aC, .slice H.lA q.ls.length H.lC, .slice H.kA q.ks.length H.kC, .int .i64 q.bad, .int .i64 q.dep, .int .i64 q.gT]
def qt (H : Qh) (q : Qn) : Value := .agg (tI H q)
structure u5 (w : World) (H : Qh) (q : Qn) : Prop where
 c : iE w H.H q.C
 a : CC w H.aA q.am
 l : CC w H.lA q.ls
 k : CC w H.kA q.ks
 aL : q.am.length ≤ 5864062014805
 lL : q.ls.length ≤ 5864062014805
 kL : q.ks.length ≤ 5864062014805
 br : dB q.bad
 dr : dB q.dep
 ur : dB q.gT
theorem u5.keep {w w' : World} {H : Qh} {q : Qn} (h : u5 w H q) (hf : Fr [] w w') : u5 w' H q := ⟨h.c.keep hf, h.a.keep hf, h.l.keep hf, h.k.keep hf, h.aL, h.lL, h.kL, h.br, h.dr, h.ur⟩
def nD (mx : Int) (l : List Int) : Bool := decide (1024 < (l.length : Int)) || !OZ mx l
theorem J7 (W : World) (g : Nat) (mx : Int) (hc : W.cell? ⟨g, 0, none⟩ = some (.int .i64 mx)) (h0 : 0 ≤ mx) (h1 : mx ≤ 2048) (h : Ls) (hk : N6 W h) :
  Calls Tryz.prog 51 #[h.val, .pointer (some ⟨g, 0, none⟩)] W fun e w' => e = .returned (.bool (nD mx h.l)) ∧ Fr [] W w' := by
 obtain ⟨A, c, l⟩ := h
 have KL := aa (yu W mx A c l h0 h1 hk.1 hk.2.1 hk.2.2.1)
 show Calls Tryz.prog 51 #[.slice A l.length c, .pointer (some ⟨g, 0, none⟩)] W fun e w' => e = .returned (.bool (nD mx l)) ∧ Fr [] W w'
 obtain ⟨Y, hY⟩ : ∃ Y, nD mx l = Y := ⟨_, rfl⟩
 rw [hY]
 have HY := aa hY
 clear hk hY
 by_cases hl : 1024 < (l.length : Int)
 ·have d0 : decide (1024 < (l.length : Int)) = true := decide_eq_true hl
  have hf : Y = true := by rw [← HY.out]; unfold nD; rw [d0]; rfl
  subst hf
  go_enter Tryz.func51, Tryz.ntmps51
  go_wp2_with fail
  go_ret
  exact ⟨rfl, Fr.refl _ _⟩
 ·have d0 : decide (1024 < (l.length : Int)) = false := decide_eq_false hl
  obtain ⟨b, hb⟩ : ∃ b, OZ mx l = b := ⟨_, rfl⟩
  rw [hb] at KL
  have hf : Y = !b := by rw [← HY.out]; unfold nD; rw [d0, hb]; rfl
  subst hf
  clear hb HY hl
  cases b with
  | true =>
   go_enter Tryz.func51, Tryz.ntmps51
   go_wp2_with fail
   refine KL.out.mono ?_
   rintro e w2 ⟨rfl, hf⟩
   have HF := aa hf
   clear hf
   simp only [Xd]
   go_wp2_with fail
   go_ret
   exact ⟨rfl, HF.out⟩
  | false =>
   go_enter Tryz.func51, Tryz.ntmps51
   go_wp2_with fail
   refine KL.out.mono ?_
   rintro e w2 ⟨rfl, hf⟩
   have HF := aa hf
   clear hf
   simp only [Xd]
   go_wp2_with fail
   go_ret
   exact ⟨rfl, HF.out⟩
theorem sq : ∀ args w, (callFunc 51 args).run Tryz.prog w = .ok (.enter 51 args) w := enters_of Tryz.func51 (by kernel_rfl) rfl
theorem vF (w : World) (H : Hd) (C : Pc) :
  Calls Tryz.prog 24 #[dn H C] w fun e w' => e = .returned (.func (.func 51) #[] #[.pointer (some ⟨w.heap.size, 0, none⟩)]) ∧ w' = w.alloc (.cells (gH H C) 27) := by
 obtain ⟨mx, ins, aX, outs, aO, aN, au, bO⟩ := C
 obtain ⟨iA, iC, lA, lC, oA, oC, bA, bC, vA, vC, gA, gC, nA, nC⟩ := H
 simp only [dn, gH] at *
 go_enter Tryz.func24, Tryz.ntmps24
 go_wp2_with fail
 go_ret
 exact ⟨rfl, rfl⟩
theorem xU (w : World) (H : Hd) (C : Pc) :
  Calls Tryz.prog 24 #[dn H C] w fun e w' => ∃ g, e = .returned (.func (.func 51) #[] #[.pointer (some ⟨g, 0, none⟩)]) ∧ w'.cell? ⟨g, 0, none⟩ = some (.int .i64 C.mx) ∧ Fr [] w w' :=
 (vF w H C).mono fun e w' ⟨h1, h2⟩ => ⟨w.heap.size, h1, by rw [h2]; exact (MP w H C).cell 0, h2 ▸ dO _ _⟩
theorem nf : (Tryz.prog.info? 22).map (fun i => (i.zero, i.size, i.bytes)) = some (some (.slice none 0 0), 1, 24) := by kernel_rfl
theorem z8 {w : World} {e e' : TypeId} {size WF n n' c c' : Nat} {A A' : Option Addr} {vs vs' : List Value} (h : w.ownsRow 0 e size (.slice A n c) n vs) (h' : w.ownsRow 0 e' WF (.slice A' n' c') n' vs') (dN : e ≠ e') : ∀ k, k ∈ ah A → k ∉ ah A' := by
 intro k hk nV
 rcases h.2 with ⟨h1, _⟩ | ⟨g, cap, cur, hv, _, hg, _⟩
 ·simp only [Value.slice.injEq] at h1
  rw [h1.1] at hk
  simp [ah] at hk
 ·rcases h'.2 with ⟨h1, _⟩ | ⟨g', afh, amO, hv', _, nq, _⟩
  ·simp only [Value.slice.injEq] at h1
   rw [h1.1] at nV
   simp [ah] at nV
  ·simp only [Value.slice.injEq, true_and] at hv hv'
   obtain ⟨rfl, rfl⟩ := hv
   obtain ⟨rfl, rfl⟩ := hv'
   simp [ah] at hk nV
   subst hk nV
   rw [hg] at nq
   simp only [Option.some.injEq, Obj.cells.injEq] at nq
   exact dN nq.2.1
structure NwLs (w : World) (B : Nat) (A : Option Addr) (c : Nat) (hs : List Ls) : Prop where
 row : w.ownsRow 0 22 1 (.slice A hs.length c) hs.length (hs.map Ls.val)
 new : ∀ k, k ∈ ah A → B ≤ k
 each : ∀ h ∈ hs, Ints w h.A h.c h.l ∧ Ra h.l ∧ h.l.length ≤ 1048576 ∧ ∀ k, k ∈ ah h.A → B ≤ k
namespace NwLs
variable {w w' : World} {B : Nat} {A : Option Addr} {c : Nat} {hs : List Ls}
theorem keep (k : NwLs w B A c hs) (hf : Fr [] w w') : NwLs w' B A c hs := ⟨hf.own k.row (by simp), k.new, fun h hh => ⟨(k.each h hh).1.fr hf (fun _ _ hm => by cases hm), (k.each h hh).2⟩⟩
theorem low {B' : Nat} (k : NwLs w B A c hs) (h : B' ≤ B) : NwLs w B' A c hs := ⟨k.row, fun j hj => aE h (k.new j hj), fun x hx => ⟨(k.each x hx).1, (k.each x hx).2.1, (k.each x hx).2.2.1, fun j hj => aE h ((k.each x hx).2.2.2 j hj)⟩⟩
theorem nil (w : World) (B : Nat) : NwLs w B none 0 [] := ⟨World.ownsRow_nil _ 0 _ 1, by simp [ah], fun h hh => by cases hh⟩
theorem okl (k : NwLs w B A c hs) : ∀ h ∈ hs, N6 w h := fun h hh => ⟨(k.each h hh).1.rd, (k.each h hh).2.1, by have := (k.each h hh).2.2.1; omega, fun e => by
 rcases (k.each h hh).1.form with ⟨_, h1, h2⟩ | ⟨g, h1, _⟩
 ·exact ⟨by rw [h2]; rfl, h1⟩
 ·rw [e] at h1; cases h1⟩
theorem more {wa : World} {A' : Option Addr} {c' : Nat} {ms : List Ls} (k : NwLs w B A c hs) (NX : Fr [] w wa) (hm : ∀ h ∈ ms, Ints wa h.A h.c h.l ∧ Ra h.l ∧ h.l.length ≤ 1048576 ∧ ∀ k, k ∈ ah h.A → B ≤ k) (hf : Fr (ah A) wa w')
  (fJ : w'.ownsRow 0 22 1 (.slice A' (hs.length + ms.length) c') (hs.length + ms.length) (hs.map Ls.val ++ ms.map Ls.val)) (kG : ∀ k, k ∈ ah A' → k ∈ ah A ∨ k = wa.heap.size) (hB : B ≤ wa.heap.size) : NwLs w' B A' c' (hs ++ ms) := by
 have ka := k.keep NX
 have fy : ∀ x : Ls, Ints wa x.A x.c x.l → Ints w' x.A x.c x.l := fun x hx => hx.fr hf (fun j hj hm => z8 hx ka.row (by decide) j hj hm)
 refine ⟨by simpa using fJ, fun j hj => ?_, fun x hx => ?_⟩
 ·rcases kG j hj with h1 | h1
  ·exact k.new j h1
  ·omega
 ·rcases aj.1 hx with h1 | h1
  ·have := ka.each x h1
   exact ⟨fy x this.1, this.2⟩
  ·have := hm x h1
   exact ⟨fy x this.1, this.2⟩
end NwLs
theorem pj (w : World) (ty : TypeId) (A : Option Addr) (c : Nat) (hs : List Ls) (dj : w.ownsRow 0 22 1 (.slice A hs.length c) hs.length (hs.map Ls.val)) (ad : Addr) (m d : Nat) (ms : List Ls) (hm : m = ms.length)
  (hr : ∀ j : Nat, j < ms.length → w.cell? (ad.add j) = some (ms[j]!).val) (hlen : hs.length + ms.length ≤ 4194304) :
  ∃ A' cap w', (Builtin.append_ #[28, 28] ty #[.slice A hs.length c, .slice (some ad) m d]).run Tryz.prog w = .ok (.slice A' (hs.length + m) cap) w' ∧ w'.ownsRow 0 22 1 (.slice A' (hs.length + ms.length) cap) (hs.length + ms.length) (hs.map Ls.val ++ ms.map Ls.val) ∧ Fr (ah A) w w' ∧ (∀ k, k ∈ ah A' → k ∈ ah A ∨ k = w.heap.size) ∧ w.heap.size ≤ w'.heap.size := by
 subst hm
 obtain ⟨A', cap, w', lV, h2, h3, h4, h5, h6, h7⟩ := gK w 28 ty 22 (.slice none 0 0) 1 24 Tryz.underlying28 nf rfl (by decide) A c hs.length (hs.map Ls.val) dj ad ms.length d (ms.map Ls.val) (by simp) (fun j u hu => by
  simp only [bh, Option.map_eq_some_iff] at hu
  obtain ⟨y, hy, rfl⟩ := hu
  have hj := (List.getElem?_eq_some_iff.1 hy).1
  have := hr j hj
  rw [ae, hy] at this
  exact this) (by
   intro u hu
   obtain ⟨y, _, rfl⟩ := bE.1 hu
   rfl) (by unfold maxLen; omega) (by omega)
 exact ⟨A', cap, w', lV, h2, h3, h4, h5⟩
theorem dp (w : World) {ops : Array Oper} {rest : List Oper} {o : Oper} {a : Act} {Q : Exit → Act → World → Prop} (ui : o.guard = none) (s x : Operand)
  (ho : o.op = .call { callee := .builtin .append, args := #[s, x], argTypes := #[28, 28] }) (A : Option Addr) (c : Nat) (hs : List Ls) (n : Nat) (VS : a.eval s = .slice A n c) (hn : n = hs.length) (dj : w.ownsRow 0 22 1 (.slice A hs.length c) hs.length (hs.map Ls.val))
  (ad : Addr) (m d : Nat) (ms : List Ls) (hx : a.eval x = .slice (some ad) m d) (hm : m = ms.length) (hr : ∀ j : Nat, j < ms.length → w.cell? (ad.add j) = some (ms[j]!).val) (hlen : hs.length + ms.length ≤ 4194304)
  (h : ∀ A' cap w', w'.ownsRow 0 22 1 (.slice A' (hs.length + ms.length) cap) (hs.length + ms.length) (hs.map Ls.val ++ ms.map Ls.val) → Fr (ah A) w w' → (∀ k, k ∈ ah A' → k ∈ ah A ∨ k = w.heap.size) → w.heap.size ≤ w'.heap.size → wpList Tryz.prog ops Q rest (a.put o.dst (.slice A' (n + m) cap)) w') :
  wpList Tryz.prog ops Q (o :: rest) a w := by
 subst hn
 refine wpList_plain ui fun K hK => ?_
 obtain ⟨A', cap, w', lV, h2, h3, h4, h5⟩ := pj w o.type A c hs dj ad m d ms hm hr hlen
 unfold Oper.wp execOp
 simp only [ho, resolve, invoke, builtin, Sem.run_bind, Sem.run_pure, Result.andThen_ok, List.map_toArray, dW, fX, VS, hx, lV]
 exact hK _ _ (h A' cap w' h2 h3 h4 h5)
theorem Kf {x : Int} (h : dB x) : Ra [x] := fun j hj => by
 have : j = 0 := by simp at hj; omega
 subst this
 exact h
theorem FM {C : Pc} (hv : Valid C) {f n : Int} (hf : 0 ≤ f ∧ f ≤ 81) (hn : n ≠ 0 ∧ -(C.aX.length : Int) ≤ n ∧ n ≤ C.aX.length) : dB (vk C f n) := by
 have hb := lJ hv.m0 hv.m1 hf
 have hm := hv.m1
 have key : ∀ j : Nat, j < C.aX.length → 1 ≤ cT (eH C f) (C.aX[j]!).a ∧ cT (eH C f) (C.aX[j]!).a ≤ 1000000 := fun j hj => by
  have := ji hv j hj
  unfold cT
  rw [if_neg (by omega)]
  omega
 unfold vk dB
 split
 ·have := key (-n - 1).toNat (by omega)
  omega
 ·have := key (n - 1).toNat (by omega)
  omega
def EC (C : Pc) (i : Nat) : List (List Int) := if (C.aX[i]!).c = 0 then [[vk C 0 (-(i : Int) - 1)]] else if (C.aX[i]!).c = 1 then [[vk C 0 ((i : Int) + 1)]] else []
def uB (C : Pc) (k : Nat) : List (List Int) := (List.range k).flatMap (EC C)
theorem xp (C : Pc) (k : Nat) : uB C (k + 1) = uB C k ++ EC C k := by
 unfold uB
 rw [List.range_succ, List.flatMap_append]
 simp
theorem uA (C : Pc) (k : Nat) : (uB C k).length ≤ k := by
 induction k with
 | zero => simp [uB]
 | succ k ih =>
  rw [xp, ai]
  have : (EC C k).length ≤ 1 := by unfold EC; split <;> (try split) <;> simp
  omega
theorem xJ (w : World) (H : Hd) (C : Pc) (h : iE w H C) (hv : Valid C) :
  Calls Tryz.prog 71 #[dn H C] w fun e w' => ∃ A c hs, e = .returned (.slice A hs.length c) ∧ NwLs w' w.heap.size A c hs ∧ hs.map (·.l) = uB C C.aX.length ∧ Fr [] w w' := by
 have HX := aa (Cx.start w H C)
 have KR := aa (i4 _ H C (h.keep HX.out.fr) hv 0 (by omega))
 have KL := aa (fun W (hW : Fr [] w W) n hn => o6 W H C (h.keep hW) hv 0 (by omega) n hn)
 have T4 := hv.l
 have HH := aa h
 have oM := aa h.lr
 clear h
 obtain ⟨mx, ins, aX, outs, aO, aN, au, bO⟩ := C
 obtain ⟨iA, iC, lA, lC, oA, oC, bA, bC, vA, vC, gA, gC, nA, nC⟩ := H
 simp only [dn, gH] at *
 obtain ⟨c0, c1, c2, c3, c4, c5, c6, c7⟩ := HX.out.cells
 simp only at c0 c1 c2 c3 c4 c5 c6 c7
 go_enter Tryz.func71, Tryz.ntmps71
 go_wp2_with fail
 refine KR.out.mono ?_
 rintro e w1 ⟨rfl, cE⟩
 have hG := aa (HX.out.keep cE)
 obtain ⟨e0, e1, e2, e3, e4, e5, e6, e7⟩ := hG.out.cells
 simp only at e0 e1 e2 e3 e4 e5 e6 e7
 clear cE c0 c1 c2 c3 c4 c5 c6 c7 KR
 go_wp2_with fail
 go_loopg [3, 12] aX.length (fun g x3 NU wr => ∃ (k : Nat) (A' : Option Addr) (c' : Nat) (hs : List Ls), k + g = aX.length ∧ x3 = .slice A' hs.length c' ∧ NU = .int .i64 k ∧ Hid (NwLs wr (w.heap.size + 1) A' c' hs) ∧ Hid (hs.map (·.l) = uB ⟨mx, ins, aX, outs, aO, aN, au, bO⟩ k) ∧ Hid (Cx w wr ⟨iA, iC, lA, lC, oA, oC, bA, bC, vA, vC, gA, gC, nA, nC⟩ ⟨mx, ins, aX, outs, aO, aN, au, bO⟩))
 case atStart => exact ⟨0, none, 0, [], by omega, rfl, rfl, NwLs.nil _ _, rfl, hG.out⟩
 case round =>
  obtain ⟨k, A', c', hs, hk, rfl, rfl, HN, HE, eR⟩ := hrel
  have HK := aa hk
  have j4 : k ≤ aX.length := by omega
  have FR : hs.length ≤ k := by
   have := uA ⟨mx, ins, aX, outs, aO, aN, au, bO⟩ k
   rw [← HE.out, ax] at this
   exact this
  obtain ⟨d0, d1, d2, d3, d4, d5, d6, d7⟩ := eR.out.cells
  simp only at d0 d1 d2 d3 d4 d5 d6 d7
  clear hk hG e0 e1 e2 e3 e4 e5 e6 e7
  by_cases bM : k < aX.length
  ·obtain ⟨b, o, x, y, z, hA, he, cx, cy, cz, hx, hy, hz⟩ := (HH.out.keep eR.out.fr).l.one oM.out bM
   simp only at hA he
   subst hA
   have nZ := aa (xp ⟨mx, ins, aX, outs, aO, aN, au, bO⟩ k)
   have cE : EC ⟨mx, ins, aX, outs, aO, aN, au, bO⟩ k = if z = 0 then [[vk ⟨mx, ins, aX, outs, aO, aN, au, bO⟩ 0 (-(k : Int) - 1)]] else if z = 1 then [[vk ⟨mx, ins, aX, outs, aO, aN, au, bO⟩ 0 ((k : Int) + 1)]] else [] := by
    unfold EC
    simp only [he.out]
   have dv := aa cE
   clear cE
   by_cases vK : z = 0
   ·have b0 : (z == (0 : Int)) = true := by simp [vK]
    rw [if_pos vK] at dv
    clear vK
    go_upto_region 7 with fail
    obtain ⟨wx, mP⟩ : ∃ W, wr.alloc (.cells #[.int .i64 x, .int .i64 y, .int .i64 z] 62) = W := ⟨_, rfl⟩
    have rZ : At wx wr.heap.size 62 #[.int .i64 x, .int .i64 y, .int .i64 z] := mP ▸ At.new _ _ _
    have kR : Hid (Fr [] wr wx) := mP ▸ aP _ _
    have f2 := rZ.cell 2
    simp at f2
    have zA := aa (eR.out.keep kR.out)
    obtain ⟨e0, e1, e2, e3, e4, e5, e6, e7⟩ := zA.out.cells
    simp only at e0 e1 e2 e3 e4 e5 e6 e7
    rw [mP]
    clear mP rZ d0 d1 d2 d3 d4 d5 d6 d7
    have Ja := aa (KL.out wx zA.out.fr (-(k : Int) - 1) (by show _ ∧ -(aX.length : Int) ≤ _ ∧ _ ≤ (aX.length : Int); omega))
    obtain ⟨v, oy⟩ : ∃ v, vk ⟨mx, ins, aX, outs, aO, aN, au, bO⟩ 0 (-(k : Int) - 1) = v := ⟨_, rfl⟩
    rw [oy] at Ja dv
    have vM : dB v := by
     rw [← oy]
     exact FM hv (by omega) (by simp only; omega)
    have tc := aa vM
    clear oy vM
    have ep : IntKind.i64.wrap (-(k : Int)) = -(k : Int) := IntWalk.i64_in _ (by omega)
    have kD : IntKind.i64.wrap (-(k : Int) - 1) = -(k : Int) - 1 := IntWalk.i64_in _ (by omega)
    go_wp2_with fail
    refine Ja.out.mono ?_
    clear Ja
    rintro e w3 ⟨rfl, cY⟩
    have cR := aa (kR.out.ag cY)
    clear cY e0 e1 e2 e3 e4 e5 e6 e7 f2 cx cy cz
    obtain ⟨wb, fd⟩ : ∃ W, (w3.alloc (.cells #[.int .i64 v] 3)).alloc (.cells #[.slice (some ⟨w3.heap.size, 0, none⟩) 1 1] 22) = W := ⟨_, rfl⟩
    have oO : Hid (Ints wb (some ⟨w3.heap.size, 0, none⟩) 1 [v]) := fd ▸ (gM w3 [v] (by simp [maxLen])).alloc _
    have gu : Hid (Fr [] w3 wb) := fd ▸ ((aP _ _).ag (aP _ _))
    have nJ : wb.cell? ⟨w3.heap.size + 1, 0, none⟩ = some (.slice (some ⟨w3.heap.size, 0, none⟩) 1 1) := by
     have := (At.new (w3.alloc (.cells #[.int .i64 v] 3)) 22 #[.slice (some ⟨w3.heap.size, 0, none⟩) 1 1]).cell 0
     rw [fd] at this
     simpa using this
    have zo := aa nJ
    have rL : Hid (w.heap.size + 1 ≤ w3.heap.size) := (aE eR.out.bx.lt cR.out.size : w.heap.size + 1 ≤ w3.heap.size)
    go_wp2_with (at_builtin; (refine dp _ rfl _ _ rfl A' c' hs hs.length rfl rfl (HN.out.keep (cR.out.ag gu.out)).row ⟨w3.heap.size + 1, 0, none⟩ 1 1 [⟨some ⟨w3.heap.size, 0, none⟩, 1, [v]⟩] rfl rfl (fun j hj => by (have : j = 0 := by simpa using hj); subst this; rw [dM]; exact zo.out) (by simp; omega) ?_; intro A4 c4 w4 yB eF F1 XE; have wv := aa ((HN.out.keep cR.out).more gu.out (fun h hh => by (have := an.1 hh); subst this; exact ⟨oO.out, Kf tc.out, by simp, fun k hk => by simp [ah] at hk; subst hk; exact rL.out⟩) eF yB F1 (aE rL.out gu.out.size)); have jH : Hid (Cx w w4 ⟨iA, iC, some ⟨b, o, none⟩, lC, oA, oC, bA, bC, vA, vC, gA, gC, nA, nC⟩ ⟨mx, ins, aX, outs, aO, aN, au, bO⟩) := ⟨((eR.out.fr.ag cR.out).ag gu.out).trans eF (fun k hk => .inr (by have := HN.out.new k hk; omega)), eF.at_ ((eR.out.bx.keep cR.out).keep gu.out) (fun hm => by have := HN.out.new _ hm; omega)⟩; clear yB eF F1 XE nJ))
    clear fd
    go_roundg (gk - 1)
    case measure => have := HK.out; omega
    case rel => exact ⟨k + 1, A4, c4, hs ++ [(⟨some ⟨w3.heap.size, 0, none⟩, 1, [v]⟩ : Ls)], by have := HK.out; omega, by simp, by go_num, wv.out, (by rw [bP, HE.out, nZ.out, dv.out]; rfl : _ = _), jH.out⟩
   ·have b0 : (z == (0 : Int)) = false := by simp [vK]
    rw [if_neg vK] at dv
    by_cases ow : z = 1
    ·have b1 : (z == (1 : Int)) = true := by simp [ow]
     rw [if_pos ow] at dv
     clear vK ow
     go_upto_region 7 with fail
     obtain ⟨wx, mP⟩ : ∃ W, wr.alloc (.cells #[.int .i64 x, .int .i64 y, .int .i64 z] 62) = W := ⟨_, rfl⟩
     have rZ : At wx wr.heap.size 62 #[.int .i64 x, .int .i64 y, .int .i64 z] := mP ▸ At.new _ _ _
     have kR : Hid (Fr [] wr wx) := mP ▸ aP _ _
     have f2 := rZ.cell 2
     simp at f2
     have zA := aa (eR.out.keep kR.out)
     obtain ⟨e0, e1, e2, e3, e4, e5, e6, e7⟩ := zA.out.cells
     simp only at e0 e1 e2 e3 e4 e5 e6 e7
     rw [mP]
     clear mP rZ d0 d1 d2 d3 d4 d5 d6 d7
     have Ja := aa (KL.out wx zA.out.fr ((k : Int) + 1) (by show _ ∧ -(aX.length : Int) ≤ _ ∧ _ ≤ (aX.length : Int); omega))
     obtain ⟨v, oy⟩ : ∃ v, vk ⟨mx, ins, aX, outs, aO, aN, au, bO⟩ 0 ((k : Int) + 1) = v := ⟨_, rfl⟩
     rw [oy] at Ja dv
     have vM : dB v := by
      rw [← oy]
      exact FM hv (by omega) (by simp only; omega)
     have tc := aa vM
     clear oy vM
     have ep : IntKind.i64.wrap ((k : Int) + 1) = (k : Int) + 1 := IntWalk.i64_in _ (by omega)
     go_wp2_with fail
     refine Ja.out.mono ?_
     clear Ja
     rintro e w3 ⟨rfl, cY⟩
     have cR := aa (kR.out.ag cY)
     clear cY e0 e1 e2 e3 e4 e5 e6 e7 f2 cx cy cz
     obtain ⟨wb, fd⟩ : ∃ W, (w3.alloc (.cells #[.int .i64 v] 3)).alloc (.cells #[.slice (some ⟨w3.heap.size, 0, none⟩) 1 1] 22) = W := ⟨_, rfl⟩
     have oO : Hid (Ints wb (some ⟨w3.heap.size, 0, none⟩) 1 [v]) := fd ▸ (gM w3 [v] (by simp [maxLen])).alloc _
     have gu : Hid (Fr [] w3 wb) := fd ▸ ((aP _ _).ag (aP _ _))
     have nJ : wb.cell? ⟨w3.heap.size + 1, 0, none⟩ = some (.slice (some ⟨w3.heap.size, 0, none⟩) 1 1) := by
      have := (At.new (w3.alloc (.cells #[.int .i64 v] 3)) 22 #[.slice (some ⟨w3.heap.size, 0, none⟩) 1 1]).cell 0
      rw [fd] at this
      simpa using this
     have zo := aa nJ
     have rL : Hid (w.heap.size + 1 ≤ w3.heap.size) := (aE eR.out.bx.lt cR.out.size : w.heap.size + 1 ≤ w3.heap.size)
     go_wp2_with (at_builtin; (refine dp _ rfl _ _ rfl A' c' hs hs.length rfl rfl (HN.out.keep (cR.out.ag gu.out)).row ⟨w3.heap.size + 1, 0, none⟩ 1 1 [⟨some ⟨w3.heap.size, 0, none⟩, 1, [v]⟩] rfl rfl (fun j hj => by (have : j = 0 := by simpa using hj); subst this; rw [dM]; exact zo.out) (by simp; omega) ?_; intro A4 c4 w4 yB eF F1 XE; have wv := aa ((HN.out.keep cR.out).more gu.out (fun h hh => by (have := an.1 hh); subst this; exact ⟨oO.out, Kf tc.out, by simp, fun k hk => by simp [ah] at hk; subst hk; exact rL.out⟩) eF yB F1 (aE rL.out gu.out.size)); have jH : Hid (Cx w w4 ⟨iA, iC, some ⟨b, o, none⟩, lC, oA, oC, bA, bC, vA, vC, gA, gC, nA, nC⟩ ⟨mx, ins, aX, outs, aO, aN, au, bO⟩) := ⟨((eR.out.fr.ag cR.out).ag gu.out).trans eF (fun k hk => .inr (by have := HN.out.new k hk; omega)), eF.at_ ((eR.out.bx.keep cR.out).keep gu.out) (fun hm => by have := HN.out.new _ hm; omega)⟩; clear yB eF F1 XE nJ))
     clear fd
     go_roundg (gk - 1)
     case measure => have := HK.out; omega
     case rel => exact ⟨k + 1, A4, c4, hs ++ [(⟨some ⟨w3.heap.size, 0, none⟩, 1, [v]⟩ : Ls)], by have := HK.out; omega, by simp, by go_num, wv.out, (by rw [bP, HE.out, nZ.out, dv.out]; rfl : _ = _), jH.out⟩
    ·have b1 : (z == (1 : Int)) = false := by simp [ow]
     rw [if_neg ow] at dv
     clear vK ow
     go_upto_region 7 with fail
     obtain ⟨wx, mP⟩ : ∃ W, wr.alloc (.cells #[.int .i64 x, .int .i64 y, .int .i64 z] 62) = W := ⟨_, rfl⟩
     have rZ : At wx wr.heap.size 62 #[.int .i64 x, .int .i64 y, .int .i64 z] := mP ▸ At.new _ _ _
     have kR : Hid (Fr [] wr wx) := mP ▸ aP _ _
     have f2 := rZ.cell 2
     simp at f2
     have zA := aa (eR.out.keep kR.out)
     obtain ⟨e0, e1, e2, e3, e4, e5, e6, e7⟩ := zA.out.cells
     simp only at e0 e1 e2 e3 e4 e5 e6 e7
     rw [mP]
     clear mP rZ d0 d1 d2 d3 d4 d5 d6 d7
     go_wp2_with fail
     go_roundg (gk - 1)
     case measure => have := HK.out; omega
     case rel => exact ⟨k + 1, A', c', hs, by have := HK.out; omega, rfl, by go_num, HN.out.keep kR.out, (by rw [HE.out, nZ.out, dv.out, dJ] : _ = _), eR.out.keep kR.out⟩
  ·obtain rfl : k = aX.length := by omega
   clear HK
   go_wp2_with fail
   go_ret
   exact ⟨A', c', hs, rfl, HN.out.low (by omega), HE.out, eR.out.fr⟩
def Oq (C : Pc) (l : List Int) : Bool := !(kK (C.aX.length : Int) l == 0)
theorem ab7 (W : World) (g : Nat) (A : Option Addr) (n c : Nat) (hc : W.cell? ⟨g, 2, none⟩ = some (.slice A n c)) (C : Pc) (hn : n = C.aX.length) (h : Ls) (hk : N6 W h) :
  Calls Tryz.prog 25 #[h.val, .pointer (some ⟨g, 0, none⟩)] W fun e w' => e = .returned (.bool (Oq C h.l)) ∧ Fr [] W w' := by
 subst hn
 obtain ⟨B, d, l⟩ := h
 have KL := aa (il W (C.aX.length : Int) B d l hk.1 hk.2.1)
 show Calls Tryz.prog 25 #[.slice B l.length d, .pointer (some ⟨g, 0, none⟩)] W fun e w' => e = .returned (.bool (Oq C l)) ∧ Fr [] W w'
 obtain ⟨k, hkk⟩ : ∃ k, kK (C.aX.length : Int) l = k := ⟨_, rfl⟩
 rw [hkk] at KL
 have hu : Oq C l = (k != 0) := by unfold Oq; rw [hkk]; rfl
 rw [hu]
 clear hk hkk hu
 go_enter Tryz.func25, Tryz.ntmps25
 go_wp2_with fail
 refine KL.out.mono ?_
 rintro e w2 ⟨rfl, hf⟩
 have HF := aa hf
 clear hf
 go_wp2_with fail
 go_ret
 exact ⟨rfl, HF.out⟩
theorem Bw : ∀ args w, (callFunc 25 args).run Tryz.prog w = .ok (.enter 25 args) w := enters_of Tryz.func25 (by kernel_rfl) rfl
open Classical in
noncomputable def od (q : Qn) : Int :=
 if ¬ Valid q.C then 9
 else if q.bad < 0 ∨ (q.C.aO.length : Int) ≤ q.bad ∨ q.dep < 0 ∨ 80 ≤ q.dep ∨ q.gT < 0 ∨ 1099511627776 < q.gT then 4
 else if 64 < (q.am.length : Int) ∨ 64 < (q.ls.length : Int) ∨ 256 < (q.ks.length : Int) then 3
 else if (q.am.any fun h => nD q.C.mx h.l) = true ∨ (q.ls.any fun h => nD q.C.mx h.l) = true then 23
 else if (q.ks.any fun h => Oq q.C h.l) = true then 23 else 0
set_option maxRecDepth 100000 in
theorem kY (w : World) (H : Qh) (q : Qn) (h : u5 w H q) :
  Calls Tryz.prog 9 #[qt H q] w fun e w' => e = .returned (.int .i64 (od q)) ∧ Fr [] w w' := by
 obtain ⟨w1, ep⟩ : ∃ W, w.alloc (.cells (tI H q) 40) = W := ⟨_, rfl⟩
 obtain ⟨w2, kD⟩ : ∃ W, w1.alloc (.cells (gH H.H q.C) 27) = W := ⟨_, rfl⟩
 have cE : Fr [] w w1 := ep ▸ dO _ _
 have cd : Fr [] w1 w2 := kD ▸ dO _ _
 have cJ := aa (cE.ag cd)
 have rq : At w1 w.heap.size 40 (tI H q) := ep ▸ At.new _ _ _
 have wu := aa (rq.keep cd)
 have kS : Hid (At w2 w1.heap.size 27 (gH H.H q.C)) := kD ▸ At.new _ _ _
 have HH := aa (h.keep cJ.out)
 have pG : w1.heap.size = w.heap.size + 1 := by rw [← ep]; simp
 obtain ⟨r, hr⟩ : ∃ r, od q = r := ⟨_, rfl⟩
 rw [hr]
 have HR := aa hr
 have KC := aa (j6 w2 H.H q.C HH.out.c)
 have KST := aa (fun W => xU W H.H q.C)
 obtain ⟨⟨mx, ins, aX, outs, aO, aN, au, bO⟩, am, ls, ks, bad, dep, gT⟩ := q
 obtain ⟨⟨iA, iC, lA, lC, oA, oC, bA, bC, vA, vC, gA, gC, nA, nC⟩, aA, aC, mA, mC, kA, kC⟩ := H
 simp only [qt, tI, dn, gH] at *
 have p0 := rq.cell 0
 have p1 := rq.cell 1
 have p2 := rq.cell 2
 have p3 := rq.cell 3
 have p4 := rq.cell 4
 have p5 := rq.cell 5
 have p6 := rq.cell 6
 have p7 := rq.cell 7
 have q0 := wu.out.cell 0
 have q1 := wu.out.cell 1
 have q2 := wu.out.cell 2
 have q3 := wu.out.cell 3
 have q4 := wu.out.cell 4
 have q5 := wu.out.cell 5
 have q6 := wu.out.cell 6
 have q7 := wu.out.cell 7
 have q8 := wu.out.cell 8
 have q9 := wu.out.cell 9
 have lT := wu.out.cell 10
 have mG := wu.out.cell 11
 have mc := wu.out.cell 12
 have mF := wu.out.cell 13
 have c0 := kS.out.cell 0
 have c1 := kS.out.cell 1
 have c2 := kS.out.cell 2
 have c3 := kS.out.cell 3
 have c4 := kS.out.cell 4
 have c5 := kS.out.cell 5
 have c6 := kS.out.cell 6
 have c7 := kS.out.cell 7
 simp at p0 p1 p2 p3 p4 p5 p6 p7
 simp at q0 q1 q2 q3 q4 q5 q6 q7 q8 q9 lT mG mc mF c0 c1 c2 c3 c4 c5 c6 c7
 rw [pG] at c0 c1 c2 c3 c4 c5 c6 c7
 have HS := aa pG
 clear h hr cE cd rq
 go_enter Tryz.func9, Tryz.ntmps9
 go_upto_region 2 with fail
 go_wp2_with fail
 refine KC.out.mono ?_
 clear KC p0 p1 p2 p3 p4 p5 p6 p7 q0 q1 q2 q3 q4 q5 q6 q7 q8 q9 lT mG mc mF c0 c1 c2 c3 c4 c5 c6 c7 ep kD
 rintro e w3 ⟨hc, cY⟩
 have cR := aa (cJ.out.ag cY)
 have JS := aa (wu.out.keep cY)
 have Ci := aa (kS.out.keep cY)
 have Of := aa (HH.out.keep cY)
 have HVD : Hid ((e = .returned (.int .i64 0) ∧ Valid ⟨mx, ins, aX, outs, aO, aN, au, bO⟩) ∨ (e = .returned (.int .i64 9) ∧ ¬ Valid ⟨mx, ins, aX, outs, aO, aN, au, bO⟩)) := hc
 clear hc cY wu kS HH
 rcases HVD.out with ⟨rfl, hv⟩ | ⟨rfl, hv⟩
 ·have HV := aa hv
  clear hv HVD
  have q8 := JS.out.cell 8
  have q9 := JS.out.cell 9
  have lT := JS.out.cell 10
  have mG := JS.out.cell 11
  have mc := JS.out.cell 12
  have mF := JS.out.cell 13
  have c4 := Ci.out.cell 4
  simp at q8 q9 lT mG mc mF c4
  rw [pG] at c4
  by_cases h1 : bad < 0
  ·have d1 : decide (bad < 0) = true := decide_eq_true (by omega)
   have kE : r = 4 := by rw [← HR.out]; unfold od; rw [if_neg (fun h => h HV.out), if_pos (by simp only; omega)]
   subst kE
   clear h1
   go_wp2_with fail
   go_ret
   exact ⟨rfl, cR.out⟩
  ·have d1 : decide (bad < 0) = false := decide_eq_false (by omega)
   by_cases h2 : (aO.length : Int) ≤ bad
   ·have d2 : decide ((aO.length : Int) ≤ bad) = true := decide_eq_true (by omega)
    have kE : r = 4 := by rw [← HR.out]; unfold od; rw [if_neg (fun h => h HV.out), if_pos (by simp only; omega)]
    subst kE
    clear h2
    go_wp2_with fail
    go_ret
    exact ⟨rfl, cR.out⟩
   ·have d2 : decide ((aO.length : Int) ≤ bad) = false := decide_eq_false (by omega)
    by_cases h3 : dep < 0
    ·have d3 : decide (dep < 0) = true := decide_eq_true (by omega)
     have kE : r = 4 := by rw [← HR.out]; unfold od; rw [if_neg (fun h => h HV.out), if_pos (by simp only; omega)]
     subst kE
     clear h3
     go_wp2_with fail
     go_ret
     exact ⟨rfl, cR.out⟩
    ·have d3 : decide (dep < 0) = false := decide_eq_false (by omega)
     by_cases h4 : 80 ≤ dep
     ·have d4 : decide (80 ≤ dep) = true := decide_eq_true (by omega)
      have kE : r = 4 := by rw [← HR.out]; unfold od; rw [if_neg (fun h => h HV.out), if_pos (by simp only; omega)]
      subst kE
      clear h4
      go_wp2_with fail
      go_ret
      exact ⟨rfl, cR.out⟩
     ·have d4 : decide (80 ≤ dep) = false := decide_eq_false (by omega)
      by_cases h5 : gT < 0
      ·have d5 : decide (gT < 0) = true := decide_eq_true (by omega)
       have kE : r = 4 := by rw [← HR.out]; unfold od; rw [if_neg (fun h => h HV.out), if_pos (by simp only; omega)]
       subst kE
       clear h5
       go_wp2_with fail
       go_ret
       exact ⟨rfl, cR.out⟩
      ·have d5 : decide (gT < 0) = false := decide_eq_false (by omega)
       by_cases h6 : 1099511627776 < gT
       ·have d6 : decide (1099511627776 < gT) = true := decide_eq_true (by omega)
        have kE : r = 4 := by rw [← HR.out]; unfold od; rw [if_neg (fun h => h HV.out), if_pos (by simp only; omega)]
        subst kE
        clear h6
        go_wp2_with fail
        go_ret
        exact ⟨rfl, cR.out⟩
       ·have d6 : decide (1099511627776 < gT) = false := decide_eq_false (by omega)
        by_cases h7 : 64 < (am.length : Int)
        ·have d7 : decide (64 < (am.length : Int)) = true := decide_eq_true (by omega)
         have kE : r = 3 := by rw [← HR.out]; unfold od; rw [if_neg (fun h => h HV.out), if_neg (by simp only; omega), if_pos (by simp only; omega)]
         subst kE
         clear h7
         go_wp2_with fail
         go_ret
         exact ⟨rfl, cR.out⟩
        ·have d7 : decide (64 < (am.length : Int)) = false := decide_eq_false (by omega)
         by_cases h8 : 64 < (ls.length : Int)
         ·have d8 : decide (64 < (ls.length : Int)) = true := decide_eq_true (by omega)
          have kE : r = 3 := by rw [← HR.out]; unfold od; rw [if_neg (fun h => h HV.out), if_neg (by simp only; omega), if_pos (by simp only; omega)]
          subst kE
          clear h8
          go_wp2_with fail
          go_ret
          exact ⟨rfl, cR.out⟩
         ·have d8 : decide (64 < (ls.length : Int)) = false := decide_eq_false (by omega)
          by_cases h9 : 256 < (ks.length : Int)
          ·have d9 : decide (256 < (ks.length : Int)) = true := decide_eq_true (by omega)
           have kE : r = 3 := by rw [← HR.out]; unfold od; rw [if_neg (fun h => h HV.out), if_neg (by simp only; omega), if_pos (by simp only; omega)]
           subst kE
           clear h9
           go_wp2_with fail
           go_ret
           exact ⟨rfl, cR.out⟩
          ·have d9 : decide (256 < (ks.length : Int)) = false := decide_eq_false (by omega)
           have HI : Hid (od ⟨⟨mx, ins, aX, outs, aO, aN, au, bO⟩, am, ls, ks, bad, dep, gT⟩ = if (am.any fun h => nD mx h.l) = true ∨ (ls.any fun h => nD mx h.l) = true then 23 else if (ks.any fun h => Oq ⟨mx, ins, aX, outs, aO, aN, au, bO⟩ h.l) = true then 23 else 0) := by
            show _ = _
            unfold od
            rw [if_neg (fun h => h HV.out), if_neg (by simp only; omega), if_neg (by simp only; omega)]
           rw [HR.out] at HI
           have vp := HV.out.m0
           have lX := HV.out.m1
           simp only at vp lX
           have KA : Hid (∀ (l : List Ls) (A : Option Addr) (c : Nat), CC w3 A l → l.length ≤ 17592186044416 → ∀ (W : World) (g : Nat), W.cell? ⟨g, 0, none⟩ = some (.int .i64 mx) → Fr [] w3 W → Calls Tryz.prog 23 #[.slice A l.length c, .func (.func 51) #[] #[.pointer (some ⟨g, 0, none⟩)]] W fun e w' => e = .returned (.bool (l.any fun h => nD mx h.l)) ∧ Fr [] W w') :=
            fun l A c hl hn W g hg hW => mT W A c l 51 #[.pointer (some ⟨g, 0, none⟩)] (nD mx) sq (hl.keep hW) hn (fun W' Us h _ ok => J7 W' g mx (Us.av hg) vp lX h ok)
           have KB : Hid (∀ W, Fr [] w3 W → Calls Tryz.prog 23 #[.slice kA ks.length kC, .func (.func 25) #[] #[.pointer (some ⟨w.heap.size + 1, 0, none⟩)]] W fun e w' => e = .returned (.bool (ks.any fun h => Oq ⟨mx, ins, aX, outs, aO, aN, au, bO⟩ h.l)) ∧ Fr [] W w') := by
            have c2 := Ci.out.cell 2
            simp at c2
            rw [pG] at c2
            have nH := Of.out.kL
            simp only at nH
            exact fun W hW => mT W kA kC ks 25 #[.pointer (some ⟨w.heap.size + 1, 0, none⟩)] (Oq ⟨mx, ins, aX, outs, aO, aN, au, bO⟩) Bw (Of.out.k.keep hW) (by omega) (fun W' Us h _ ok => ab7 W' _ _ _ _ ((hW.ag Us).av c2) ⟨mx, ins, aX, outs, aO, aN, au, bO⟩ rfl h ok)
           obtain ⟨a1, V7⟩ : ∃ b, (am.any fun h => nD mx h.l) = b := ⟨_, rfl⟩
           obtain ⟨a2, ut⟩ : ∃ b, (ls.any fun h => nD mx h.l) = b := ⟨_, rfl⟩
           obtain ⟨a3, ha3⟩ : ∃ b, (ks.any fun h => Oq ⟨mx, ins, aX, outs, aO, aN, au, bO⟩ h.l) = b := ⟨_, rfl⟩
           have Zf := KA.out am aA aC Of.out.a (by have := Of.out.aL; simp only at this; omega)
           have KA2 := KA.out ls mA mC Of.out.l (by have := Of.out.lL; simp only at this; omega)
           rw [V7] at Zf HI
           rw [ut] at KA2 HI
           rw [ha3] at HI KB
           have Zf := aa Zf
           have KA2 := aa KA2
           have c0 := Ci.out.cell 0
           have c1 := Ci.out.cell 1
           have c2 := Ci.out.cell 2
           have c3 := Ci.out.cell 3
           have c5 := Ci.out.cell 5
           have c6 := Ci.out.cell 6
           have c7 := Ci.out.cell 7
           simp at c0 c1 c2 c3 c5 c6 c7
           rw [pG] at c0 c1 c2 c3 c5 c6 c7
           have Q4 := aa c0
           have zE := aa c1
           have Sr := aa c2
           have Vx := aa c3
           have NN := aa c4
           have HD5 := aa c5
           have HD6 := aa c6
           have HD7 := aa c7
           have NM := aa q8
           have HD9 := aa q9
           have Vy := aa lT
           clear KA V7 ut ha3 vp lX c0 c1 c2 c3 c5 c6 c7
           go_upto_region 8 with fail
           clear c4 q8 q9 lT mG mc mF
           cases a1 with
           | true =>
            have kE : r = 23 := by rw [HI.out]; rfl
            subst kE
            refine wp_region_noPanic ?_
            refine bj (fun w' : World => Fr [] w3 w') 4 (by kernel_rfl) ((Fr.refl [] w3).drew) (fun dd => ?_)
            apply TB 3 [(0, []), (1, [1, 4]), (2, [2, 3, 4])]; kernel_rfl; rfl; · (repeat (apply ef; rfl; rfl; (· intro w aY; (try (have aY := aY.resolve_left (aF _ _); (have s0 := aY.av Q4.out; have s1 := aY.av zE.out; have s2 := aY.av Sr.out; have s3 := aY.av Vx.out; have s4 := aY.av NN.out; have s5 := aY.av HD5.out; have s6 := aY.av HD6.out; have s7 := aY.av HD7.out; have s8 := aY.av NM.out; have s9 := aY.av HD9.out))); go_simp <;> with_reducible rfl); try simp only [Act.put, q5, q6, q7])); exact ee
            exact dd; intro dd
            refine R2 3 (by kernel_rfl) (by rfl) dd fun K hK ap => ?_
            (go_simp; refine (KST.out _).mono ?_; rintro e w5 ⟨g5, rfl, JI, LU⟩; dsimp only)
            refine hK.out _ _ (.inr ?_) (fun iR => ?_)
            ·first | exact ap.ag kh | exact ap.ag P6 | exact ap.ag fZ | exact ap.ag LU | exact ap
            clear hK K
            try simp only [Act.put, q5, q6, q7]
            refine R2 4 (by kernel_rfl) (by rfl) iR fun K hK ap => ?_
            (go_simp; refine (Zf.out _ _ JI ap).mono ?_; rintro e w6 ⟨rfl, fZ⟩; dsimp only)
            refine hK.out _ _ (.inl rfl) (fun V9 => ?_)
            clear hK K
            try simp only [Act.put, q5, q6, q7]
            apply TB 1 [(5, [])]; kernel_rfl; rfl; · (repeat (apply ef; rfl; rfl; (· intro w aY; go_simp <;> with_reducible rfl); try simp only [Act.put, q5, q6, q7])); exact ee
            exact V9; intro V9
            refine bp (rs := [6, 8]) (by kernel_rfl) (by simp) ?_
            refine aU.cons (o := ?acj) ?Pe ?Dz ?_
            case Pe => rfl
            case Dz =>
             intro K hK
             go_simp
             refine hK.out _ _ (.inl rfl) (fun Cy => ?_)
             clear hK K
             try simp only [Act.put, q5, q6, q7]
             refine bp (rs := [7, 8]) (by kernel_rfl) (by simp) ?_
             refine aU.cons (o := ?aci) ?Pd ?Dy ?_
             case Pd => rfl
             case Dy =>
              intro K hK
              go_simp
              refine hK.out _ _ (.inl rfl) (fun Ml => ?_)
              clear hK K
              try simp only [Act.put, q5, q6, q7]
              refine R1 (i := 8) (o := ?ach) (by kernel_rfl) (by rfl) ?_
              intro K hK
              go_simp
              refine hK.out _ _ (.inl rfl) (fun Mk => ?_)
              clear hK K
              try simp only [Act.put, q5, q6, q7]
              refine R1 (i := 9) (o := ?aaM) (by kernel_rfl) (by rfl) ?_
              intro K hK
              go_simp
              refine hK.out _ _ (.inl rfl) (fun ix => ?_)
              clear hK K
              try simp only [Act.put, q5, q6, q7]
              refine R1 (i := 10) (o := ?aaL) (by kernel_rfl) (by rfl) ?_
              intro K hK
              go_simp
              refine hK.out _ _ (.inl rfl) (fun eP => ?_)
              clear hK K
              try simp only [Act.put, q5, q6, q7]
              apply TB 1 [(11, [])]; kernel_rfl; rfl; · (repeat (apply ef; rfl; rfl; (· intro w aY; go_simp <;> with_reducible rfl); try simp only [Act.put, q5, q6, q7])); exact ee
              exact eP; intro eP
              refine R1 (i := 12) (o := ?aaK) (by kernel_rfl) (by rfl) ?_
              intro K hK
              go_simp
              refine hK.out _ _ (.inl rfl) (fun iu => ?_)
              clear hK K
              try simp only [Act.put, q5, q6, q7]
              refine az (by kernel_rfl) ?_ _
              refine NoPanic.normal ?_
              have lR := aa (ap.ag fZ)
              clear ap fZ
              go_wp2_with fail
              go_ret
              exact ⟨rfl, cR.out.ag lR.out⟩
             refine aU.cons (o := ?aaJ) ?Ly ?AI ?_
             case Ly => rfl
             case AI =>
              intro K hK
              go_simp
              refine hK.out _ _ (.inl rfl) (fun Ml => ?_)
              clear hK K
              try simp only [Act.put, q5, q6, q7]
              refine bp (rs := [7, 9]) (by kernel_rfl) (by simp) ?_
              refine aU.cons (o := ?aaI) ?Lx ?AH ?_
              case Lx => rfl
              case AH =>
               intro K hK
               go_simp
               refine hK.out _ _ (.inl rfl) (fun Mk => ?_)
               clear hK K
               try simp only [Act.put, q5, q6, q7]
               refine R1 (i := 9) (o := ?aaH) (by kernel_rfl) (by rfl) ?_
               intro K hK
               go_simp
               refine hK.out _ _ (.inl rfl) (fun ix => ?_)
               clear hK K
               try simp only [Act.put, q5, q6, q7]
               refine R1 (i := 10) (o := ?aaG) (by kernel_rfl) (by rfl) ?_
               intro K hK
               go_simp
               refine hK.out _ _ (.inl rfl) (fun eP => ?_)
               clear hK K
               try simp only [Act.put, q5, q6, q7]
               apply TB 1 [(11, [])]; kernel_rfl; rfl; · (repeat (apply ef; rfl; rfl; (· intro w aY; go_simp <;> with_reducible rfl); try simp only [Act.put, q5, q6, q7])); exact ee
               exact eP; intro eP
               refine R1 (i := 12) (o := ?aaF) (by kernel_rfl) (by rfl) ?_
               intro K hK
               go_simp
               refine hK.out _ _ (.inl rfl) (fun iu => ?_)
               clear hK K
               try simp only [Act.put, q5, q6, q7]
               refine az (by kernel_rfl) ?_ _
               refine NoPanic.normal ?_
               have lR := aa (ap.ag fZ)
               clear ap fZ
               go_wp2_with fail
               go_ret
               exact ⟨rfl, cR.out.ag lR.out⟩
              refine aU.cons (o := ?aaE) ?Lv ?AG ?_
              case Lv => rfl
              case AG =>
               intro K hK
               go_simp
               refine hK.out _ _ (.inl rfl) (fun Mk => ?_)
               clear hK K
               try simp only [Act.put, q5, q6, q7]
               refine R1 (i := 7) (o := ?aaD) (by kernel_rfl) (by rfl) ?_
               intro K hK
               go_simp
               refine hK.out _ _ (.inl rfl) (fun ix => ?_)
               clear hK K
               try simp only [Act.put, q5, q6, q7]
               refine R1 (i := 10) (o := ?aaC) (by kernel_rfl) (by rfl) ?_
               intro K hK
               go_simp
               refine hK.out _ _ (.inl rfl) (fun eP => ?_)
               clear hK K
               try simp only [Act.put, q5, q6, q7]
               apply TB 1 [(11, [])]; kernel_rfl; rfl; · (repeat (apply ef; rfl; rfl; (· intro w aY; go_simp <;> with_reducible rfl); try simp only [Act.put, q5, q6, q7])); exact ee
               exact eP; intro eP
               refine R1 (i := 12) (o := ?aaB) (by kernel_rfl) (by rfl) ?_
               intro K hK
               go_simp
               refine hK.out _ _ (.inl rfl) (fun iu => ?_)
               clear hK K
               try simp only [Act.put, q5, q6, q7]
               refine az (by kernel_rfl) ?_ _
               refine NoPanic.normal ?_
               have lR := aa (ap.ag fZ)
               clear ap fZ
               go_wp2_with fail
               go_ret
               exact ⟨rfl, cR.out.ag lR.out⟩
              exact aU.nil
             exact aU.nil
            refine aU.cons (o := ?aaA) ?Lu ?AF ?_
            case Lu => rfl
            case AF =>
             intro K hK
             go_simp
             refine hK.out _ _ (.inl rfl) (fun Cy => ?_)
             clear hK K
             try simp only [Act.put, q5, q6, q7]
             refine bp (rs := [6, 9]) (by kernel_rfl) (by simp) ?_
             refine aU.cons (o := ?aaz) ?Lt ?AE ?_
             case Lt => rfl
             case AE =>
              intro K hK
              go_simp
              refine hK.out _ _ (.inl rfl) (fun Ml => ?_)
              clear hK K
              try simp only [Act.put, q5, q6, q7]
              refine bp (rs := [7, 9]) (by kernel_rfl) (by simp) ?_
              refine aU.cons (o := ?aay) ?Lr ?AD ?_
              case Lr => rfl
              case AD =>
               intro K hK
               go_simp
               refine hK.out _ _ (.inl rfl) (fun Mk => ?_)
               clear hK K
               try simp only [Act.put, q5, q6, q7]
               refine R1 (i := 9) (o := ?aax) (by kernel_rfl) (by rfl) ?_
               intro K hK
               go_simp
               refine hK.out _ _ (.inl rfl) (fun ix => ?_)
               clear hK K
               try simp only [Act.put, q5, q6, q7]
               refine R1 (i := 10) (o := ?aaw) (by kernel_rfl) (by rfl) ?_
               intro K hK
               go_simp
               refine hK.out _ _ (.inl rfl) (fun eP => ?_)
               clear hK K
               try simp only [Act.put, q5, q6, q7]
               apply TB 1 [(11, [])]; kernel_rfl; rfl; · (repeat (apply ef; rfl; rfl; (· intro w aY; go_simp <;> with_reducible rfl); try simp only [Act.put, q5, q6, q7])); exact ee
               exact eP; intro eP
               refine R1 (i := 12) (o := ?aav) (by kernel_rfl) (by rfl) ?_
               intro K hK
               go_simp
               refine hK.out _ _ (.inl rfl) (fun iu => ?_)
               clear hK K
               try simp only [Act.put, q5, q6, q7]
               refine az (by kernel_rfl) ?_ _
               refine NoPanic.normal ?_
               have lR := aa (ap.ag fZ)
               clear ap fZ
               go_wp2_with fail
               go_ret
               exact ⟨rfl, cR.out.ag lR.out⟩
              refine aU.cons (o := ?aau) ?Lq ?AC ?_
              case Lq => rfl
              case AC =>
               intro K hK
               go_simp
               refine hK.out _ _ (.inl rfl) (fun Mk => ?_)
               clear hK K
               try simp only [Act.put, q5, q6, q7]
               refine R1 (i := 7) (o := ?aat) (by kernel_rfl) (by rfl) ?_
               intro K hK
               go_simp
               refine hK.out _ _ (.inl rfl) (fun ix => ?_)
               clear hK K
               try simp only [Act.put, q5, q6, q7]
               refine R1 (i := 10) (o := ?aas) (by kernel_rfl) (by rfl) ?_
               intro K hK
               go_simp
               refine hK.out _ _ (.inl rfl) (fun eP => ?_)
               clear hK K
               try simp only [Act.put, q5, q6, q7]
               apply TB 1 [(11, [])]; kernel_rfl; rfl; · (repeat (apply ef; rfl; rfl; (· intro w aY; go_simp <;> with_reducible rfl); try simp only [Act.put, q5, q6, q7])); exact ee
               exact eP; intro eP
               refine R1 (i := 12) (o := ?aar) (by kernel_rfl) (by rfl) ?_
               intro K hK
               go_simp
               refine hK.out _ _ (.inl rfl) (fun iu => ?_)
               clear hK K
               try simp only [Act.put, q5, q6, q7]
               refine az (by kernel_rfl) ?_ _
               refine NoPanic.normal ?_
               have lR := aa (ap.ag fZ)
               clear ap fZ
               go_wp2_with fail
               go_ret
               exact ⟨rfl, cR.out.ag lR.out⟩
              exact aU.nil
             refine aU.cons (o := ?aaq) ?Lp ?AB ?_
             case Lp => rfl
             case AB =>
              intro K hK
              go_simp
              refine hK.out _ _ (.inl rfl) (fun Ml => ?_)
              clear hK K
              try simp only [Act.put, q5, q6, q7]
              refine R1 (i := 6) (o := ?aap) (by kernel_rfl) (by rfl) ?_
              intro K hK
              go_simp
              refine hK.out _ _ (.inl rfl) (fun Mk => ?_)
              clear hK K
              try simp only [Act.put, q5, q6, q7]
              refine R1 (i := 7) (o := ?aao) (by kernel_rfl) (by rfl) ?_
              intro K hK
              go_simp
              refine hK.out _ _ (.inl rfl) (fun ix => ?_)
              clear hK K
              try simp only [Act.put, q5, q6, q7]
              refine R1 (i := 10) (o := ?aan) (by kernel_rfl) (by rfl) ?_
              intro K hK
              go_simp
              refine hK.out _ _ (.inl rfl) (fun eP => ?_)
              clear hK K
              try simp only [Act.put, q5, q6, q7]
              apply TB 1 [(11, [])]; kernel_rfl; rfl; · (repeat (apply ef; rfl; rfl; (· intro w aY; go_simp <;> with_reducible rfl); try simp only [Act.put, q5, q6, q7])); exact ee
              exact eP; intro eP
              refine R1 (i := 12) (o := ?aam) (by kernel_rfl) (by rfl) ?_
              intro K hK
              go_simp
              refine hK.out _ _ (.inl rfl) (fun iu => ?_)
              clear hK K
              try simp only [Act.put, q5, q6, q7]
              refine az (by kernel_rfl) ?_ _
              refine NoPanic.normal ?_
              have lR := aa (ap.ag fZ)
              clear ap fZ
              go_wp2_with fail
              go_ret
              exact ⟨rfl, cR.out.ag lR.out⟩
             exact aU.nil
            exact aU.nil
           | false =>
            refine wp_region_noPanic ?_
            refine bj (fun w' : World => Fr [] w3 w') 10 (by kernel_rfl) ((Fr.refl [] w3).drew) (fun dd => ?_)
            apply TB 3 [(0, []), (1, [1, 4, 5, 10]), (2, [2, 3, 4, 5, 10])]; kernel_rfl; rfl; · (repeat (apply ef; rfl; rfl; (· intro w aY; (try (have aY := aY.resolve_left (aF _ _); (have s0 := aY.av Q4.out; have s1 := aY.av zE.out; have s2 := aY.av Sr.out; have s3 := aY.av Vx.out; have s4 := aY.av NN.out; have s5 := aY.av HD5.out; have s6 := aY.av HD6.out; have s7 := aY.av HD7.out; have s8 := aY.av NM.out; have s9 := aY.av HD9.out))); go_simp <;> with_reducible rfl); try simp only [Act.put, q5, q6, q7])); exact ee
            exact dd; intro dd
            refine R2 3 (by kernel_rfl) (by rfl) dd fun K hK ap => ?_
            (go_simp; refine (KST.out _).mono ?_; rintro e w5 ⟨g5, rfl, JI, LU⟩; dsimp only)
            refine hK.out _ _ (.inr ?_) (fun iR => ?_)
            ·first | exact ap.ag kh | exact ap.ag P6 | exact ap.ag fZ | exact ap.ag LU | exact ap
            clear hK K
            try simp only [Act.put, q5, q6, q7]
            refine R2 4 (by kernel_rfl) (by rfl) iR fun K hK ap => ?_
            (go_simp; refine (Zf.out _ _ JI ap).mono ?_; rintro e w6 ⟨rfl, fZ⟩; dsimp only)
            refine hK.out _ _ (.inr ?_) (fun V9 => ?_)
            ·first | exact ap.ag kh | exact ap.ag P6 | exact ap.ag fZ | exact ap.ag LU | exact ap
            clear hK K
            try simp only [Act.put, q5, q6, q7]
            apply TB 4 [(5, []), (6, []), (7, [7, 10]), (8, [8, 9, 10])]; kernel_rfl; rfl; · (repeat (apply ef; rfl; rfl; (· intro w aY; (try (have aY := aY.resolve_left (aF _ _); (have s0 := aY.av Q4.out; have s1 := aY.av zE.out; have s2 := aY.av Sr.out; have s3 := aY.av Vx.out; have s4 := aY.av NN.out; have s5 := aY.av HD5.out; have s6 := aY.av HD6.out; have s7 := aY.av HD7.out; have s8 := aY.av NM.out; have s9 := aY.av HD9.out))); go_simp <;> with_reducible rfl); try simp only [Act.put, q5, q6, q7])); exact ee
            exact V9; intro V9
            refine R2 9 (by kernel_rfl) (by rfl) V9 fun K hK ap => ?_
            (go_simp; refine (KST.out _).mono ?_; rintro e w7 ⟨g7, rfl, Ue, P6⟩; dsimp only)
            refine hK.out _ _ (.inr ?_) (fun ix => ?_)
            ·first | exact ap.ag kh | exact ap.ag P6 | exact ap.ag fZ | exact ap.ag LU | exact ap
            clear hK K
            try simp only [Act.put, q5, q6, q7]
            refine R2 10 (by kernel_rfl) (by rfl) ix fun K hK ap => ?_
            (go_simp; refine (KA2.out _ _ Ue ap).mono ?_; rintro e w8 ⟨rfl, kh⟩; dsimp only)
            refine hK.out _ _ (.inl rfl) (fun eP => ?_)
            clear hK K
            try simp only [Act.put, q5, q6, q7]
            apply TB 1 [(11, [])]; kernel_rfl; rfl; · (repeat (apply ef; rfl; rfl; (· intro w aY; go_simp <;> with_reducible rfl); try simp only [Act.put, q5, q6, q7])); exact ee
            exact eP; intro eP
            refine R1 (i := 12) (o := ?aaO) (by kernel_rfl) (by rfl) ?_
            intro K hK
            go_simp
            refine hK.out _ _ (.inl rfl) (fun iu => ?_)
            clear hK K
            try simp only [Act.put, q5, q6, q7]
            refine az (by kernel_rfl) ?_ _
            refine NoPanic.normal ?_
            have lR := aa (ap.ag kh)
            clear ap kh
            cases a2 with
            | true =>
             have kE : r = 23 := by rw [HI.out]; simp
             subst kE
             go_wp2_with fail
             go_ret
             exact ⟨rfl, cR.out.ag lR.out⟩
            | false =>
             have lT := lR.out.av Vy.out
             have KB8 := aa (KB.out _ lR.out)
             cases a3 with
             | true =>
              have kE : r = 23 := by rw [HI.out]; simp
              subst kE
              go_wp2_with fail
              refine KB8.out.mono ?_
              rintro e w9 ⟨rfl, sh⟩
              have vf := aa (lR.out.ag sh)
              clear sh
              go_wp2_with fail
              go_ret
              exact ⟨rfl, cR.out.ag vf.out⟩
             | false =>
              have kE : r = 0 := by rw [HI.out]; simp
              subst kE
              go_wp2_with fail
              refine KB8.out.mono ?_
              rintro e w9 ⟨rfl, sh⟩
              have vf := aa (lR.out.ag sh)
              clear sh
              go_wp2_with fail
              go_ret
              exact ⟨rfl, cR.out.ag vf.out⟩
 ·have Cr : r = 9 := by rw [← HR.out]; unfold od; rw [if_pos hv]
  subst Cr
  clear hv HVD
  go_wp2_with fail
  go_ret
  exact ⟨rfl, cR.out⟩
theorem zJ {C : Pc} (h : Valid C) {v : Int} (hk : ou C v = true) : v ≤ C.mx := by
 simp only [ou, Bool.or_eq_true, decide_eq_true_eq, List.any_eq_true, hit, aD] at hk
 have h0 := h.m0
 rcases hk with ((rfl | ⟨x, hx, _, rfl⟩) | ⟨x, hx, _, rfl⟩) | ⟨x, hx, _, rfl⟩
 ·exact h0
 ·have := dw h x (by simp [cm, hx]); omega
 ·have := dw h x.a (by simp only [cm, aj, bE]; exact .inl (.inr ⟨x, hx, rfl⟩)); omega
 ·have := dw h x.a (by simp only [cm, aj, bE]; exact .inr ⟨x, hx, rfl⟩); omega
theorem jh {C : Pc} (h : Valid C) {l : Int} (hk : fS C l = true) : 0 ≤ l ∧ l ≤ 2 * C.mx + 1 := by
 simp only [fS, aD, decide_eq_true_eq] at hk
 have := zJ h hk.2
 omega
theorem tp {C : Pc} (h : Valid C) (j : Nat) (hj : j < C.aX.length) : 0 ≤ (C.aX[j]!).b ∧ (C.aX[j]!).b ≤ 2 * C.mx + 1 := by
 have h2 := h.aX j hj
 simp only [K0, aD] at h2
 exact jh h h2.2
theorem mK {b l : Int} (hb : 0 ≤ b ∧ b ≤ 262144) (hl : 0 ≤ l ∧ l ≤ 4097) : -1000000 ≤ cT b l ∧ cT b l ≤ 1000000 := by
 unfold cT
 split <;> omega
theorem OV {C : Pc} (hv : Valid C) {f n : Int} (hf : 0 ≤ f ∧ f ≤ 81) (hn : n ≠ 0 ∧ -(C.aX.length : Int) ≤ n ∧ n ≤ C.aX.length) : -1000000 ≤ vk C f n ∧ vk C f n ≤ 1000000 := by
 have hb := lJ hv.m0 hv.m1 hf
 have hm := hv.m1
 have key : ∀ j : Nat, j < C.aX.length → -1000000 ≤ cT (eH C f) (C.aX[j]!).a ∧ cT (eH C f) (C.aX[j]!).a ≤ 1000000 := fun j hj => mK (by omega) (by have := ji hv j hj; omega)
 unfold vk
 split
 ·have := key (-n - 1).toNat (by omega)
  omega
 ·have := key (n - 1).toNat (by omega)
  omega
def Hb (C : Pc) (f : Int) (i : Nat) : List (List Int) := [[vk C (f + 1) ((i : Int) + 1), -(cT (eH C f) (C.aX[i]!).b)], [-(vk C (f + 1) ((i : Int) + 1)), cT (eH C f) (C.aX[i]!).b]]
def mJ (C : Pc) (f : Int) (k : Nat) : List (List Int) := (List.range k).flatMap (Hb C f)
theorem wY (C : Pc) (f : Int) (k : Nat) : mJ C f (k + 1) = mJ C f k ++ Hb C f k := by
 unfold mJ
 rw [List.range_succ, List.flatMap_append]
 simp
theorem pB (C : Pc) (f : Int) (k : Nat) : (mJ C f k).length = 2 * k := by
 induction k with
 | zero => simp [mJ]
 | succ k ih =>
  rw [wY, ai, ih]
  simp [Hb]
  omega
theorem OE {x y : Int} (h : dB x) (h2 : dB y) : Ra [x, y] := fun j hj => by
 have : j = 0 ∨ j = 1 := by simp at hj; omega
 rcases this with rfl | rfl
 ·exact h
 ·exact h2
theorem zN (w : World) (H : Hd) (C : Pc) (h : iE w H C) (hv : Valid C) (f : Int) (hf : 0 ≤ f ∧ f ≤ 79) :
  Calls Tryz.prog 72 #[dn H C, .int .i64 f] w fun e w' => ∃ A c hs, e = .returned (.slice A hs.length c) ∧ NwLs w' w.heap.size A c hs ∧ hs.map (·.l) = mJ C f C.aX.length ∧ Fr [] w w' := by
 have HX := aa (Cx.start w H C)
 have KR := aa (i4 _ H C (h.keep HX.out.fr) hv f (by omega))
 have KL := aa (fun W (hW : Fr [] w W) n hn => o6 W H C (h.keep hW) hv (f + 1) (by omega) n hn)
 have KB := aa (fun W => jR W H C hv.m0 hv.m1 f (by omega))
 have hb := lJ hv.m0 hv.m1 (f := f) (by omega)
 have KT := aa (fun W x (hx : 0 ≤ x ∧ x ≤ 4097) => qC W (eH C f) x (by omega) hx)
 have CG := aa (fun x (hx : 0 ≤ x ∧ x ≤ 4097) => mK (b := eH C f) (l := x) (by omega) hx)
 have Gz := aa (fun n hn => OV hv (f := f + 1) (n := n) (by omega) hn)
 have nZ := aa (fun j hj => tp hv j hj)
 have oQ := hv.m1
 have T4 := hv.l
 have HH := aa h
 have oM := aa h.lr
 have hwf : IntKind.i64.wrap (f + 1) = f + 1 := IntWalk.i64_in _ (by omega)
 clear h hb hv
 obtain ⟨mx, ins, aX, outs, aO, aN, au, bO⟩ := C
 obtain ⟨iA, iC, lA, lC, oA, oC, bA, bC, vA, vC, gA, gC, nA, nC⟩ := H
 simp only [dn, gH] at *
 obtain ⟨c0, c1, c2, c3, c4, c5, c6, c7⟩ := HX.out.cells
 simp only at c0 c1 c2 c3 c4 c5 c6 c7
 go_enter Tryz.func72, Tryz.ntmps72
 go_wp2_with fail
 refine KR.out.mono ?_
 rintro e w1 ⟨rfl, cE⟩
 have hG := aa (HX.out.keep cE)
 obtain ⟨e0, e1, e2, e3, e4, e5, e6, e7⟩ := hG.out.cells
 simp only at e0 e1 e2 e3 e4 e5 e6 e7
 clear cE c0 c1 c2 c3 c4 c5 c6 c7 KR
 go_wp2_with fail
 go_loopg [5, 17] aX.length (fun g x5 GH wr => ∃ (k : Nat) (A' : Option Addr) (c' : Nat) (hs : List Ls), k + g = aX.length ∧ x5 = .slice A' hs.length c' ∧ GH = .int .i64 k ∧ Hid (NwLs wr (w.heap.size + 1) A' c' hs) ∧ Hid (hs.map (·.l) = mJ ⟨mx, ins, aX, outs, aO, aN, au, bO⟩ f k) ∧ Hid (Cx w wr ⟨iA, iC, lA, lC, oA, oC, bA, bC, vA, vC, gA, gC, nA, nC⟩ ⟨mx, ins, aX, outs, aO, aN, au, bO⟩))
 case atStart => exact ⟨0, none, 0, [], by omega, rfl, rfl, NwLs.nil _ _, rfl, hG.out⟩
 case round =>
  obtain ⟨k, A', c', hs, hk, rfl, rfl, HN, HE, eR⟩ := hrel
  have HK := aa hk
  have j4 : k ≤ aX.length := by omega
  have FR : hs.length = 2 * k := by
   have := pB ⟨mx, ins, aX, outs, aO, aN, au, bO⟩ f k
   rw [← HE.out, ax] at this
   exact this
  obtain ⟨d0, d1, d2, d3, d4, d5, d6, d7⟩ := eR.out.cells
  simp only at d0 d1 d2 d3 d4 d5 d6 d7
  clear hk hG e0 e1 e2 e3 e4 e5 e6 e7
  by_cases bM : k < aX.length
  ·obtain ⟨b, o, x, y, z, hA, he, cx, cy, cz, hx, hy, hz⟩ := (HH.out.keep eR.out.fr).l.one oM.out bM
   simp only at hA he
   subst hA
   have Hj := nZ.out k bM
   try simp only at Hj
   rw [he.out] at Hj
   try simp only at Hj
   have zD := aa (wY ⟨mx, ins, aX, outs, aO, aN, au, bO⟩ f k)
   obtain ⟨u, hu⟩ : ∃ u, cT (eH ⟨mx, ins, aX, outs, aO, aN, au, bO⟩ f) y = u := ⟨_, rfl⟩
   obtain ⟨v, Jw⟩ : ∃ v, vk ⟨mx, ins, aX, outs, aO, aN, au, bO⟩ (f + 1) ((k : Int) + 1) = v := ⟨_, rfl⟩
   have cE : Hb ⟨mx, ins, aX, outs, aO, aN, au, bO⟩ f k = [[v, -u], [-v, u]] := by
    unfold Hb
    rw [Jw]
    simp only [he.out]
    rw [hu]
   have dv := aa cE
   have hur := CG.out y (by omega)
   have vM := Gz.out ((k : Int) + 1) (by show _ ∧ -(aX.length : Int) ≤ _ ∧ _ ≤ (aX.length : Int); omega)
   rw [hu] at hur
   rw [Jw] at vM
   have Zc := fun W => KT.out W y (by omega)
   simp only [hu] at Zc
   have Zc := aa Zc
   clear cE
   go_upto_region 7 with fail
   obtain ⟨wx, mP⟩ : ∃ W, wr.alloc (.cells #[.int .i64 x, .int .i64 y, .int .i64 z] 62) = W := ⟨_, rfl⟩
   have rZ : At wx wr.heap.size 62 #[.int .i64 x, .int .i64 y, .int .i64 z] := mP ▸ At.new _ _ _
   have kR : Hid (Fr [] wr wx) := mP ▸ aP _ _
   have f1 := rZ.cell 1
   simp at f1
   have zA := aa (eR.out.keep kR.out)
   obtain ⟨e0, e1, e2, e3, e4, e5, e6, e7⟩ := zA.out.ext
   simp only at e0 e1 e2 e3 e4 e5 e6 e7
   have g1 := Ext.cell f1
   have Ja := fun u : Ext wx => KL.out u.v (zA.out.fr.ag u.fr) ((k : Int) + 1) (by show _ ∧ -(aX.length : Int) ≤ _ ∧ _ ≤ (aX.length : Int); omega)
   simp only [Jw] at Ja
   have Ja := aa Ja
   have ep : IntKind.i64.wrap ((k : Int) + 1) = (k : Int) + 1 := IntWalk.i64_in _ (by omega)
   have kD : IntKind.i64.wrap (-u) = -u := IntWalk.i64_in _ (by omega)
   have kW : IntKind.i64.wrap (-v) = -v := IntWalk.i64_in _ (by omega)
   rw [mP]
   clear mP rZ d0 d1 d2 d3 d4 d5 d6 d7 cx cy cz hu Jw f1
   refine al (by kernel_rfl) (by kernel_rfl) ?_
   repeat (go_big_quiet_step (first | exact bN (Ja.out _) | exact bN (KB.out _) | exact aV (Zc.out _)))
   refine wpQuiet_nil ?_
   rintro w3 ⟨u2, bJ⟩
   have rO : Hid (Fr [] wx w3) := bJ ▸ u2.fr
   clear bJ u2
   have cR := aa (kR.out.ag rO.out)
   clear e0 e1 e2 e3 e4 e5 e6 e7 g1 Ja Zc rO
   obtain ⟨wb, fd⟩ : ∃ W, ((w3.alloc (.cells #[.int .i64 v, .int .i64 (-u)] 3)).alloc (.cells #[.int .i64 (-v), .int .i64 u] 3)).alloc (.cells #[.slice (some ⟨w3.heap.size, 0, none⟩) 2 2, .slice (some ⟨w3.heap.size + 1, 0, none⟩) 2 2] 22) = W := ⟨_, rfl⟩
   have oO : Hid (Ints wb (some ⟨w3.heap.size, 0, none⟩) 2 [v, -u]) := fd ▸ ((gM w3 [v, -u] (by simp [maxLen])).alloc _).alloc _
   have lY : Hid (Ints wb (some ⟨w3.heap.size + 1, 0, none⟩) 2 [-v, u]) := by
    have := gM (w3.alloc (.cells #[.int .i64 v, .int .i64 (-u)] 3)) [-v, u] (by simp [maxLen])
    rw [show (w3.alloc (.cells #[.int .i64 v, .int .i64 (-u)] 3)).heap.size = w3.heap.size + 1 by simp] at this
    exact fd ▸ this.alloc _
   have gu : Hid (Fr [] w3 wb) := fd ▸ (((aP _ _).ag (aP _ _)).ag (aP _ _))
   have kk : At wb (w3.heap.size + 2) 22 #[.slice (some ⟨w3.heap.size, 0, none⟩) 2 2, .slice (some ⟨w3.heap.size + 1, 0, none⟩) 2 2] := by
    have := At.new ((w3.alloc (.cells #[.int .i64 v, .int .i64 (-u)] 3)).alloc (.cells #[.int .i64 (-v), .int .i64 u] 3)) 22 #[.slice (some ⟨w3.heap.size, 0, none⟩) 2 2, .slice (some ⟨w3.heap.size + 1, 0, none⟩) 2 2]
    rw [show ((w3.alloc (.cells #[.int .i64 v, .int .i64 (-u)] 3)).alloc (.cells #[.int .i64 (-v), .int .i64 u] 3)).heap.size = w3.heap.size + 2 by simp] at this
    exact fd ▸ this
   have NR := aa kk
   clear kk
   have HUR := aa hur
   have tc := aa vM
   have rL : Hid (w.heap.size + 1 ≤ w3.heap.size) := (aE eR.out.bx.lt cR.out.size : w.heap.size + 1 ≤ w3.heap.size)
   go_wp2_with (at_builtin; (refine dp _ rfl _ _ rfl A' c' hs hs.length rfl rfl (HN.out.keep (cR.out.ag gu.out)).row ⟨w3.heap.size + 2, 0, none⟩ 2 2 [⟨some ⟨w3.heap.size, 0, none⟩, 2, [v, -u]⟩, ⟨some ⟨w3.heap.size + 1, 0, none⟩, 2, [-v, u]⟩] rfl rfl (fun j hj => by (have : j = 0 ∨ j = 1 := by simp at hj; omega); rcases this with rfl | rfl; (rw [dM, NR.out.cell]; rfl); (rw [dM, NR.out.cell]; rfl)) (by simp; omega) ?_; intro A4 c4 w4 yB eF F1 XE; have wv := aa ((HN.out.keep cR.out).more gu.out (fun h hh => by (have Yh := hh; simp only [ay, cG, or_false] at Yh); rcases Yh with rfl | rfl; (exact ⟨oO.out, OE ⟨by have := tc.out; omega, by have := tc.out; omega⟩ ⟨by have := HUR.out; omega, by have := HUR.out; omega⟩, by simp, fun k hk => by simp [ah] at hk; subst hk; exact rL.out⟩); (exact ⟨lY.out, OE ⟨by have := tc.out; omega, by have := tc.out; omega⟩ ⟨by have := HUR.out; omega, by have := HUR.out; omega⟩, by simp, fun k hk => by simp [ah] at hk; subst hk; have := rL.out; omega⟩)) eF yB F1 (aE rL.out gu.out.size)); have jH : Hid (Cx w w4 ⟨iA, iC, some ⟨b, o, none⟩, lC, oA, oC, bA, bC, vA, vC, gA, gC, nA, nC⟩ ⟨mx, ins, aX, outs, aO, aN, au, bO⟩) := ⟨((eR.out.fr.ag cR.out).ag gu.out).trans eF (fun k hk => .inr (by have := HN.out.new k hk; omega)), eF.at_ ((eR.out.bx.keep cR.out).keep gu.out) (fun hm => by have := HN.out.new _ hm; omega)⟩; clear yB eF F1 XE))
   clear fd
   go_roundg (gk - 1)
   case measure => have := HK.out; omega
   case rel => exact ⟨k + 1, A4, c4, hs ++ [(⟨some ⟨w3.heap.size, 0, none⟩, 2, [v, -u]⟩ : Ls), (⟨some ⟨w3.heap.size + 1, 0, none⟩, 2, [-v, u]⟩ : Ls)], by have := HK.out; omega, by rw [ai, FR]; rfl, by go_num, wv.out, (by rw [bP, HE.out, zD.out, dv.out]; rfl : _ = _), jH.out⟩
  ·obtain rfl : k = aX.length := by omega
   clear HK
   go_wp2_with fail
   go_ret
   exact ⟨A', c', hs, rfl, HN.out.low (by omega), HE.out, eR.out.fr⟩
theorem yb (W : World) (n : Nat) (h1 : n ≤ 1099511627776) :
  (Instr.makeSlice 22 (.int .i64 0) (.int .i64 (n : Int))).run Tryz.prog W = .ok (.slice (some ⟨W.heap.size, 0, none⟩) 0 n) (W.alloc (.cells (madeCells #[.int .i64 0] n) 3)) := by
 obtain ⟨i0, hi, vK, ow, Co⟩ := info_parts ng
 have hr := run_make (P := Tryz.prog) W 22 3 i0 (.int .i64 0) Tryz.underlying22 hi vK .i64 .i64 0 n (by omega) (by omega) (by rw [Co]; omega) (by omega)
 simp only [Int.toNat_natCast] at hr ⊢
 rw [ow, Nat.mul_one] at hr
 exact hr
theorem Kz (W : World) (n : Nat) (h : n ≤ maxLen) : Ints (W.alloc (.cells (madeCells #[.int .i64 0] n) 3)) (some ⟨W.heap.size, 0, none⟩) n [] := by
 have := (G9 W n h).nP 0
 simpa using this
theorem o7 (w : World) (H : Hd) (C : Pc) (h : iE w H C) (hv : Valid C) (b : Int) (hb : 0 ≤ b ∧ b ≤ 262144) :
  Calls Tryz.prog 133 #[dn H C, .int .i64 b] w fun e w' => e = .returned (.int .i64 0) ∧ Fr [] w w' := by
 have HX := aa (Cx.start w H C)
 have KC : Hid (Calls Tryz.prog 22 #[dn H C] (w.alloc (.cells (gH H C) 27)) fun e w' => e = .returned (.int .i64 0) ∧ Fr [] (w.alloc (.cells (gH H C) 27)) w') := (j6 _ H C (h.keep HX.out.fr)).mono fun e w' ⟨h1, h2⟩ => by
  rcases h1 with ⟨h3, _⟩ | ⟨_, h3⟩
  ·exact ⟨h3, h2⟩
  ·exact absurd hv h3
 have d0 : decide (b < 0) = false := decide_eq_false (by omega)
 have d1 : decide (262144 < b) = false := decide_eq_false (by omega)
 clear h hv
 obtain ⟨mx, ins, aX, outs, aO, aN, au, bO⟩ := C
 obtain ⟨iA, iC, lA, lC, oA, oC, bA, bC, vA, vC, gA, gC, nA, nC⟩ := H
 simp only [dn, gH] at *
 obtain ⟨c0, c1, c2, c3, c4, c5, c6, c7⟩ := HX.out.cells
 simp only at c0 c1 c2 c3 c4 c5 c6 c7
 go_enter Tryz.func133, Tryz.ntmps133
 go_wp2_with fail
 refine KC.out.mono ?_
 rintro e w1 ⟨rfl, cE⟩
 have HF := aa (HX.out.fr.ag cE)
 clear cE
 go_wp2_with fail
 go_ret
 exact ⟨rfl, HF.out⟩
theorem Ao {α β : Type} [Inhabited α] (f : α → β) {l : List α} {k : Nat} (h : k < l.length) : (l.take (k + 1)).map f = (l.take k).map f ++ [f l[k]!] := by
 rw [List.take_add_one, af h, eI, bP]
 simp only [ae, af h, aq, dW, fX]
theorem vE (w : World) (b : Int) (hb : 0 ≤ b ∧ b ≤ 262144) (A : Option Addr) (c : Nat) (l : List Int) (h : Rd w A l) (hr : ∀ x ∈ l, 0 ≤ x ∧ x ≤ 4097) (hl : l.length ≤ 1048576) :
  Calls Tryz.prog 104 #[.int .i64 b, .slice A l.length c] w fun e w' => ∃ A' c', e = .returned (.slice A' l.length c') ∧ Ints w' A' c' (l.map (cT b)) ∧ (∀ k, k ∈ ah A' → w.heap.size ≤ k) ∧ Fr [] w w' := by
 have KA := aa (xx w b hb)
 have KL := aa (fun W x (hx : 0 ≤ x ∧ x ≤ 4097) => lu W b x (by omega) (by omega))
 have HH := aa h
 have HR := aa hr
 have vz : Hid (Ra l) := (eN (p := dB)).2 fun x hx => by
  have := hr x hx
  exact ⟨by omega, by omega⟩
 have HM := aa (Kz w l.length (by unfold maxLen; omega))
 have PS := yb w l.length (by omega)
 have CF : Hid (Fr [] w (w.alloc (.cells (madeCells #[.int .i64 0] l.length) 3))) := aP _ _
 obtain ⟨w1, ep⟩ : ∃ W, w.alloc (.cells (madeCells #[.int .i64 0] l.length) 3) = W := ⟨_, rfl⟩
 rw [ep] at HM CF PS
 clear h hr
 go_enter Tryz.func104, Tryz.ntmps104
 go_wp2_with fail
 refine KA.out.mono ?_
 rintro e w0 ⟨rfl, rfl⟩
 go_wp2_with fail
 clear KA PS ep
 go_loopg [6, 16] l.length (fun g x6 Ol wr => ∃ (k : Nat) (A' : Option Addr) (c' : Nat) (ys : List Int), k + g = l.length ∧ x6 = .slice A' ys.length c' ∧ Ol = .int .i64 k ∧ Hid (Ints wr A' c' ys) ∧ Hid (ys = (l.take k).map (cT b)) ∧ Hid (∀ j, j ∈ ah A' → w.heap.size ≤ j) ∧ Hid (Fr [] w wr))
 case atStart => exact ⟨0, _, _, [], by omega, rfl, rfl, HM.out, by show _ = _; simp, fun j hj => by simp [ah] at hj; omega, CF.out⟩
 case round =>
  obtain ⟨k, A', c', ys, hk, rfl, rfl, HI, HY, HN, HF⟩ := hrel
  have HK := aa hk
  have j4 : k ≤ l.length := by omega
  have hyl : ys.length ≤ k := by
   rw [HY.out, ax, bk]
   omega
  clear hk
  by_cases bM : k < l.length
  ·obtain ⟨ab, o, x, hA, he, cx, gP, iP⟩ := (HH.out.keep HF.out).one vz.out bM
   subst hA
   have nZ := aa (Ao (cT b) bM)
   rw [he.out] at nZ
   have Cp := HR.out x (by rw [← he.out]; exact bw bM)
   have KLX := aa (KL.out wr x Cp)
   have VX : min x 4097 = x := by omega
   obtain ⟨t, ht⟩ : ∃ t, cT b x = t := ⟨_, rfl⟩
   rw [ht] at KLX nZ
   clear ht
   go_wp2_with fail
   refine KLX.out.mono ?_
   rintro e w3 ⟨rfl, rfl⟩
   obtain ⟨wb, fd⟩ : ∃ W, wr.alloc (.cells #[.int .i64 t] 3) = W := ⟨_, rfl⟩
   have gu : Hid (Fr [] wr wb) := fd ▸ aP _ _
   have nW : wb.cell? ⟨wr.heap.size, 0, none⟩ = some (.int .i64 t) := by
    rw [← fd]
    exact (At.new wr 3 #[.int .i64 t]).cell 0
   go_wp2_with (at_builtin; (refine cM _ rfl _ _ rfl A' c' ys ys.length rfl rfl (HI.out.fr gu.out (fun _ _ hm => by cases hm)) ⟨wr.heap.size, 0, none⟩ 1 t rfl nW (by omega) ?_; intro g cap w4 fJ sg hg hs3; have Nj := aa fJ; have gS : Hid (Fr [] w w4) := (HF.out.ag gu.out).trans sg (fun x hx => .inr (HN.out x hx)); have Vr : Hid (w.heap.size ≤ g) := (by rcases hg with h1 | h1; (exact HN.out g h1); (have := HF.out.size; have := gu.out.size; omega) : w.heap.size ≤ g); clear nW fJ sg hg hs3))
   clear fd
   go_roundg (gk - 1)
   case measure => have := HK.out; omega
   case rel => exact ⟨k + 1, some ⟨g, 0, none⟩, cap, ys ++ [t], by have := HK.out; omega, by simp, by go_num, Nj.out, (by rw [nZ.out, HY.out] : ys ++ [t] = (l.take (k + 1)).map (cT b)), fun j hj => by simp [ah] at hj; subst hj; exact Vr.out, gS.out⟩
  ·obtain rfl : k = l.length := by omega
   have hy : ys = l.map (cT b) := by rw [HY.out, fO]
   have adi : ys.length = l.length := by rw [hy, ax]
   have HY2 := aa hy
   rw [adi]
   clear HK hy HY
   go_wp2_with fail
   go_ret
   exact ⟨A', c', rfl, by rw [← HY2.out]; exact HI.out, HN.out, HF.out⟩
end Go.Proofs.YtpjbaobgnhjgoaaGreat
