/- Parts of a proof. -/
import Derived.Test.YtpjbaobgnhjgoaaGreatGAQ
set_option linter.unusedVariables false
namespace Go.Proofs.YtpjbaobgnhjgoaaGreat
open Go.RowKit
theorem UI (w : World) : u5 (w.alloc (.cells #[.int .i64 1] 3)) ⟨⟨none, 0, none, 0, none, 0, some ⟨w.heap.size, 0, none⟩, 1, none, 0, none, 0, none, 0⟩, none, 0, none, 0, none, 0⟩ N5 := by
 have nl : ∀ {P : Prop}, ([] : List Ls).length > 0 → P := fun h => absurd h (by decide)
 refine ⟨⟨fun h => absurd h (by decide), fun h => absurd h (by decide), fun h => absurd h (by decide), (gM w [1] (by decide)).rd, fun h => absurd h (by decide), fun h => absurd h (by decide), fun h => absurd h (by decide), by decide, by decide, by decide, by decide, by decide, by decide, by decide, ⟨by decide, by decide⟩, ?_, ?_, ?_, ?_, ?_, ?_, ?_⟩, ⟨fun h => absurd h (by decide), fun j hj => absurd hj (by simp [N5])⟩, ⟨fun h => absurd h (by decide), fun j hj => absurd hj (by simp [N5])⟩, ⟨fun h => absurd h (by decide), fun j hj => absurd hj (by simp [N5])⟩, by decide, by decide, by decide, ⟨by decide, by decide⟩, ⟨by decide, by decide⟩, ⟨by decide, by decide⟩⟩
 ·exact fun j hj => absurd hj (aG _)
 ·exact fun j hj => absurd hj (aG _)
 ·exact fun j hj => absurd hj (aG _)
 ·intro j hj
  have : j = 0 := by
   have : j < 1 := hj
   omega
  subst this
  exact ⟨by decide, by decide⟩
 ·exact fun j hj => absurd hj (aG _)
 ·exact fun j hj => absurd hj (aG _)
 ·exact fun j hj => absurd hj (aG _)
set_option maxRecDepth 100000 in
set_option maxHeartbeats 4000000 in
theorem zh (w : World) : Calls Tryz.prog 5 #[] w fun e w' => e = .returned (.bool true) ∧ Fr [] w w' := by
 obtain ⟨w1, ep⟩ : ∃ W, w.alloc (.cells #[.int .i64 1] 3) = W := ⟨_, rfl⟩
 have dv : Hid (Fr [] w w1) := ep ▸ aP _ _
 have hq := UI w
 rw [ep] at hq
 have KC : Hid (Calls Tryz.prog 6 #[.agg #[.int .i64 0, .slice none 0 0, .slice none 0 0, .slice none 0 0, .slice (some ⟨w.heap.size, 0, none⟩) 1 1, .slice none 0 0, .slice none 0 0, .slice none 0 0, .slice none 0 0, .slice none 0 0, .slice none 0 0, .int .i64 0, .int .i64 0, .int .i64 9]] w1 fun e w' => (∃ st A c us, e = .returned (.tuple #[.agg #[.int .i64 2, .int .i64 0, .string st, .slice A 1 c, .slice none 0 0, .slice none 0 0, .int .i64 us], .int .i64 0])) ∧ Fr [] w1 w') := by
  refine (xu w1 _ N5 hq UH rfl rfl (by decide) (by decide)).mono ?_
  rintro e w' ⟨hf, xq, us, hr, hm⟩
  obtain ⟨S, hS⟩ := QD
  have h1 := kM (q := N5) (f := 0) hS
  rw [if_pos rfl] at h1
  have hr : gV N5 (0 + 1) 0 0 = some (xq, us) := hr
  rw [h1] at hr
  simp only [Option.some.injEq, Prod.mk.injEq] at hr
  rw [← hr.1] at hm
  obtain ⟨A, c, rfl, _⟩ := hm
  exact ⟨⟨_, A, c, us, rfl⟩, hf⟩
 clear hq
 go_enter Tryz.func5, Tryz.ntmps5
 go_wp2_with fail
 refine KC.out.mono ?_
 rintro e w2 ⟨⟨st, A, c, us, rfl⟩, cd⟩
 have cJ := aa (dv.out.ag cd)
 clear cd KC ep
 go_upto_region 2 with fail
 obtain ⟨w3, kW⟩ : ∃ W, w2.alloc (.cells #[.int .i64 2, .int .i64 0, .string st, .slice A 1 c, .slice none 0 0, .slice none 0 0, .int .i64 us] 35) = W := ⟨_, rfl⟩
 have kk : At w3 w2.heap.size 35 #[.int .i64 2, .int .i64 0, .string st, .slice A 1 c, .slice none 0 0, .slice none 0 0, .int .i64 us] := kW ▸ At.new _ _ _
 have cR : Hid (Fr [] w w3) := cJ.out.ag (kW ▸ aP _ _)
 obtain ⟨r0, r1, r2, r3, r4, r5, r6⟩ := iT kk
 rw [kW]
 clear kW kk
 go_wp2_with fail
 go_ret
 exact ⟨rfl, cR.out⟩
theorem WH (x : Int) : ∃ d : Nat, (wrap64 (x.tmod 5 + 5)).tmod 5 = d ∧ d ≤ 4 := by
 have h1 := Int.lt_tmod_of_pos x (b := 5) (by omega)
 have h2 := Int.tmod_lt_of_pos x (b := 5) (by omega)
 have hw : wrap64 (x.tmod 5 + 5) = x.tmod 5 + 5 := IntWalk.wrap64_in _ (by omega)
 rw [hw]
 have h3 := Int.tmod_nonneg (a := x.tmod 5 + 5) 5 (by omega)
 have h4 := Int.tmod_lt_of_pos (x.tmod 5 + 5) (b := 5) (by omega)
 exact ⟨((x.tmod 5 + 5).tmod 5).toNat, by omega, by omega⟩
set_option maxRecDepth 100000 in
set_option maxHeartbeats 4000000 in
theorem we (w : World) (H : Hd) (C : Pc) (h : iE w H C) (aA : Option Addr) (aC : Nat) (am : List Ls) (hr : CC w aA am) (haL : am.length ≤ 5864062014805) (bad : Int) (oG : dB bad) (dep more : Int) (vv : dB dep) (hmr : dB more) :
  Calls Tryz.prog 3 #[dn H C, .slice aA am.length aC, .int .i64 bad, .int .i64 dep, .int .i64 more] w fun e w' => e = .returned (.bool true) ∧ Fr [] w w' := by
 have HX := aa (Cx.start w H C)
 have KA := aa (fun W => zh W)
 have hq : ∀ W, Fr [] w W → ∀ d : Nat, d ≤ 8 → u5 W ⟨H, aA, aC, none, 0, none, 0⟩ ⟨C, am, [], [], bad, d, 1099511627776⟩ := fun W hW d hd =>
  ⟨h.keep hW, hr.keep hW, ⟨fun h => absurd h (Nat.lt_irrefl 0), fun j hj => absurd hj (aG _)⟩, ⟨fun h => absurd h (Nat.lt_irrefl 0), fun j hj => absurd hj (aG _)⟩, haL, bV _, bV _, oG, ⟨by show -9223372036854775808 ≤ (d : Int); omega, by show (d : Int) ≤ 9223372036854775807; omega⟩, ⟨by show (-9223372036854775808 : Int) ≤ 1099511627776; omega, by show (1099511627776 : Int) ≤ 9223372036854775807; omega⟩⟩
 obtain ⟨U, hU⟩ : ∃ U, od (⟨C, am, [], [], bad, ((0 : Nat) : Int), 1099511627776⟩ : Qn) = U := ⟨_, rfl⟩
 obtain ⟨BR, Uy⟩ : ∃ BR, gV (⟨C, am, [], [], bad, ((0 : Nat) : Int), 1099511627776⟩ : Qn) = BR := ⟨_, rfl⟩
 have hUd : ∀ d : Nat, d ≤ 8 → od (⟨C, am, [], [], bad, d, 1099511627776⟩ : Qn) = U := fun d hd => (Oo ⟨C, am, [], [], bad, 0, 1099511627776⟩ (d : Int) ((0 : Nat) : Int) (by omega) (by omega)).trans hU
 have hBd : ∀ (d f m : Nat) (us : Int), gV (⟨C, am, [], [], bad, d, 1099511627776⟩ : Qn) f m us = BR f m us := fun d f m us => (B0 ⟨C, am, [], [], bad, ((0 : Nat) : Int), 1099511627776⟩ (d : Int) f m us).trans (by rw [Uy])
 obtain ⟨ST, Bn⟩ : ∃ ST : Sv → List UInt8, (fun S => Fw S C) = ST := ⟨_, rfl⟩
 obtain ⟨IN, Bp⟩ : ∃ IN : Sv → Nat → List (List UInt8), (fun S => vm S C) = IN := ⟨_, rfl⟩
 have Bo : ∀ S, Fw S C = ST S := fun S => congrFun Bn S
 have yJ : ∀ S, vm S C = IN S := fun S => congrFun Bp S
 have QZ : Hid (∀ S n, (IN S n).length = n) := fun S n => by rw [← yJ]; exact FO S C n
 have US : Hid (∀ W, Fr [] w W → ∀ d : Nat, d ≤ 8 → Calls Tryz.prog 6 #[qt ⟨H, aA, aC, none, 0, none, 0⟩ ⟨C, am, [], [], bad, d, 1099511627776⟩] W fun e w' => Fr [] W w' ∧
   ((U ≠ 0 ∧ e = .returned (.tuple #[tn 0 0 [] none 0 0 0, .int .i64 U])) ∨
   (U = 0 ∧ ∃ us, BR (d + 1) 0 0 = some (none, us) ∧ e = .returned (.tuple #[tn 0 0 [] none 0 0 us, .int .i64 0])) ∨
   (U = 0 ∧ ∃ us S m A c, BR (d + 1) 0 0 = some (some (S, m), us) ∧ e = .returned (.tuple #[tn 2 bad (ST S) A (m + 1) c us, .int .i64 0]) ∧ jg w' A c (IN S (m + 1))))) := fun W hW d hd => by
  by_cases hu : U = 0
  ·have bJ : od (⟨C, am, [], [], bad, d, 1099511627776⟩ : Qn) = 0 := (hUd d hd).trans hu
   have hv := (xH bJ).1
   have vp : 0 ≤ C.mx := hv.m0
   have lX : C.mx ≤ 2048 := hv.m1
   refine (xu W _ _ (hq W hW d hd) bJ rfl rfl (by show (d : Int) ≤ 70; omega) ?_).mono ?_
   ·show ((d : Int) + 1) * (C.mx + 1) ≤ 262143
    have h1 : ((d : Int) + 1) * (C.mx + 1) ≤ 9 * (C.mx + 1) := Int.mul_le_mul_of_nonneg_right (by omega) (by omega)
    omega
   ·rintro e w' ⟨hf, xq, us, sa, hm⟩
    have sa : gV (⟨C, am, [], [], bad, d, 1099511627776⟩ : Qn) (d + 1) 0 0 = some (xq, us) := sa
    rw [hBd] at sa
    refine ⟨hf, .inr ?_⟩
    cases xq with
    | none => exact .inl ⟨hu, us, sa, hm⟩
    | some p =>
     obtain ⟨S, m⟩ := p
     obtain ⟨A, c, he, hs⟩ := hm
     refine .inr ⟨hu, us, S, m, A, c, sa, ?_, ?_⟩
     ·rw [← Bo]; exact he
     ·rw [← yJ]; exact hs
  ·have bJ : od (⟨C, am, [], [], bad, d, 1099511627776⟩ : Qn) ≠ 0 := by rw [hUd d hd]; exact hu
   refine (IX W _ _ (hq W hW d hd) bJ).mono ?_
   rintro e w' ⟨he, hf⟩
   rw [hUd d hd] at he
   exact ⟨hf, .inl ⟨hu, he⟩⟩
 have UP : Hid (∀ (d mo : Nat) xq u so u2, BR (d + 1) 0 0 = some (xq, u) → BR (d + mo + 1) 0 0 = some (so, u2) → (∀ x, xq = some x → so = some x) ∧ (xq = none → ∀ S m', so = some (S, m') → d + 1 ≤ m')) := fun d mo xq u so u2 h1 h2 => by
  rw [← Uy] at h1 h2
  rw [show d + mo + 1 = d + 1 + mo by omega] at h2
  have := xw mo (d + 1) 0 0 xq u so u2 h1 h2
  rwa [cZ] at this
 have afu : Hid (∀ (d : Nat) S m u, BR (d + 1) 0 0 = some (some (S, m), u) → m ≤ d) := fun d S m u h1 => by
  rw [← Uy] at h1
  have := Gj (d + 1) 0 0 S m u h1
  omega
 clear h hr haL oG hq hU Uy hUd hBd Bn Bp Bo yJ
 obtain ⟨mx, ins, aX, outs, aO, aN, au, bO⟩ := C
 obtain ⟨iA, iC, lA, lC, oA, oC, bA, bC, vA, vC, gA, gC, nA, nC⟩ := H
 simp only [dn, gH] at *
 simp only [qt, tI, tn, List.length_nil] at *
 obtain ⟨c0, c1, c2, c3, c4, c5, c6, c7⟩ := HX.out.cells
 try simp only at c0 c1 c2 c3 c4 c5 c6 c7
 go_enter Tryz.func3, Tryz.ntmps3
 go_wp2_with fail
 refine (KA.out _).mono ?_
 rintro e w1 ⟨rfl, cE⟩
 have hG := aa (HX.out.keep cE)
 clear cE c0 c1 c2 c3 c4 c5 c6 c7 HX KA
 obtain ⟨c0, c1, c2, c3, c4, c5, c6, c7⟩ := hG.out.cells
 try simp only at c0 c1 c2 c3 c4 c5 c6 c7
 obtain ⟨d, hd, hd4⟩ := WH dep
 obtain ⟨mo, TR, ad1⟩ := WH more
 have K1 := aa (US.out w1 hG.out.fr d (by omega))
 have hwd : IntKind.i64.wrap ((d : Int) + (mo : Int)) = ((d + mo : Nat) : Int) := by rw [IntWalk.i64_in _ (by omega)]; omega
 have alp : IntKind.i64.wrap ((d : Int) + 1) = (d : Int) + 1 := IntWalk.i64_in _ (by omega)
 have hdm : d + mo ≤ 8 := by omega
 obtain ⟨dm, Uo⟩ : ∃ dm : Nat, d + mo = dm := ⟨_, rfl⟩
 rw [Uo] at hwd hdm
 have HDM := aa Uo
 have NN := aa hd4
 clear Uo ad1 hd4 vv hmr
 go_upto_region 4 with fail
 clear hd TR
 go_upto_region 5 with fail
 refine K1.out.mono ?_
 clear K1
 rintro e w2 ⟨cd, h2⟩
 have ie := aa (hG.out.keep cd)
 clear cd c0 c1 c2 c3 c4 c5 c6 c7 hG
 obtain ⟨c0, c1, c2, c3, c4, c5, c6, c7⟩ := ie.out.cells
 try simp only at c0 c1 c2 c3 c4 c5 c6 c7
 rcases h2 with ⟨hu, rfl⟩ | ⟨hu, us, hb, rfl⟩ | ⟨hu, us, S, m, A, k8, hb, rfl, hs⟩
 ·go_upto_region 5 with fail
  obtain ⟨w3, kW⟩ : ∃ W, w2.alloc (.cells #[.int .i64 0, .int .i64 0, .string ⟨#[]⟩, .slice none 0 0, .slice none 0 0, .slice none 0 0, .int .i64 0] 35) = W := ⟨_, rfl⟩
  have Sd : Hid (At w3 w2.heap.size 35 #[.int .i64 0, .int .i64 0, .string ⟨#[]⟩, .slice none 0 0, .slice none 0 0, .slice none 0 0, .int .i64 0]) := kW ▸ At.new _ _ _
  have cY : Fr [] w2 w3 := kW ▸ aP _ _
  have iU := aa (ie.out.keep cY)
  rw [kW]
  clear kW cY
  have K2 := aa (US.out w3 iU.out.fr dm hdm)
  clear US c0 c1 c2 c3 c4 c5 c6 c7 ie
  obtain ⟨c0, c1, c2, c3, c4, c5, c6, c7⟩ := iU.out.cells
  try simp only at c0 c1 c2 c3 c4 c5 c6 c7
  go_upto_region 6 with fail
  refine K2.out.mono ?_
  clear K2
  have dU : (U != (0 : Int)) = true := by simpa using hu
  rintro e w4 ⟨eF, h4⟩
  have jH := aa (iU.out.keep eF)
  have U5 := aa (Sd.out.keep eF)
  have ZT := aa eF
  clear eF c0 c1 c2 c3 c4 c5 c6 c7 iU Sd
  obtain ⟨c0, c1, c2, c3, c4, c5, c6, c7⟩ := jH.out.cells
  try simp only at c0 c1 c2 c3 c4 c5 c6 c7
  rcases h4 with ⟨bJ, rfl⟩ | ⟨bJ, JX, rA, rfl⟩ | ⟨bJ, JX, S2, m2, A2, k9, rA, rfl, jK⟩
  ·go_upto_region 6 with fail
   obtain ⟨w5, nh⟩ : ∃ W, w4.alloc (.cells #[.int .i64 0, .int .i64 0, .string ⟨#[]⟩, .slice none 0 0, .slice none 0 0, .slice none 0 0, .int .i64 0] 35) = W := ⟨_, rfl⟩
   have up : At w5 w4.heap.size 35 #[.int .i64 0, .int .i64 0, .string ⟨#[]⟩, .slice none 0 0, .slice none 0 0, .slice none 0 0, .int .i64 0] := nh ▸ At.new _ _ _
   have dK : Fr [] w4 w5 := nh ▸ aP _ _
   have ta := aa (jH.out.keep dK)
   obtain ⟨r0, r1, r2, r3, r4, r5, r6⟩ := iT up
   obtain ⟨s0, s1, s2, s3, s4, s5, s6⟩ := iT (U5.out.keep dK)
   rw [nh]
   clear nh up dK c0 c1 c2 c3 c4 c5 c6 c7
   go_wp2_with fail
   go_ret
   exact ⟨rfl, ta.out.fr⟩
  ·exact absurd bJ hu
  ·exact absurd bJ hu
 ·have HB := aa hb
  go_upto_region 5 with fail
  obtain ⟨w3, kW⟩ : ∃ W, w2.alloc (.cells #[.int .i64 0, .int .i64 0, .string ⟨#[]⟩, .slice none 0 0, .slice none 0 0, .slice none 0 0, .int .i64 us] 35) = W := ⟨_, rfl⟩
  have Sd : Hid (At w3 w2.heap.size 35 #[.int .i64 0, .int .i64 0, .string ⟨#[]⟩, .slice none 0 0, .slice none 0 0, .slice none 0 0, .int .i64 us]) := kW ▸ At.new _ _ _
  have cY : Fr [] w2 w3 := kW ▸ aP _ _
  have iU := aa (ie.out.keep cY)
  rw [kW]
  clear kW cY
  have K2 := aa (US.out w3 iU.out.fr dm hdm)
  clear US c0 c1 c2 c3 c4 c5 c6 c7 ie
  obtain ⟨c0, c1, c2, c3, c4, c5, c6, c7⟩ := iU.out.cells
  try simp only at c0 c1 c2 c3 c4 c5 c6 c7
  go_upto_region 6 with fail
  refine K2.out.mono ?_
  clear K2
  rintro e w4 ⟨eF, h4⟩
  have jH := aa (iU.out.keep eF)
  have U5 := aa (Sd.out.keep eF)
  have ZT := aa eF
  clear eF c0 c1 c2 c3 c4 c5 c6 c7 iU Sd
  obtain ⟨c0, c1, c2, c3, c4, c5, c6, c7⟩ := jH.out.cells
  try simp only at c0 c1 c2 c3 c4 c5 c6 c7
  rcases h4 with ⟨bJ, rfl⟩ | ⟨bJ, JX, rA, rfl⟩ | ⟨bJ, JX, S2, m2, A2, k9, rA, rfl, jK⟩
  ·exact absurd hu bJ
  ·go_upto_region 6 with fail
   obtain ⟨w5, nh⟩ : ∃ W, w4.alloc (.cells #[.int .i64 0, .int .i64 0, .string ⟨#[]⟩, .slice none 0 0, .slice none 0 0, .slice none 0 0, .int .i64 JX] 35) = W := ⟨_, rfl⟩
   have up : At w5 w4.heap.size 35 #[.int .i64 0, .int .i64 0, .string ⟨#[]⟩, .slice none 0 0, .slice none 0 0, .slice none 0 0, .int .i64 JX] := nh ▸ At.new _ _ _
   have dK : Fr [] w4 w5 := nh ▸ aP _ _
   have ta := aa (jH.out.keep dK)
   obtain ⟨r0, r1, r2, r3, r4, r5, r6⟩ := iT up
   obtain ⟨s0, s1, s2, s3, s4, s5, s6⟩ := iT (U5.out.keep dK)
   rw [nh]
   clear nh up dK c0 c1 c2 c3 c4 c5 c6 c7
   go_wp2_with fail
   go_ret
   exact ⟨rfl, ta.out.fr⟩
  ·have RQ := (UP.out d mo _ _ _ _ HB.out (by rw [HDM.out]; exact rA)).2 rfl _ _ rfl
   have al2 : (d : Int) < (m2 : Int) := by omega
   have al1 : (d : Int) + 1 < (m2 : Int) + 1 := by omega
   clear RQ
   go_upto_region 6 with fail
   obtain ⟨w5, nh⟩ : ∃ W, w4.alloc (.cells #[.int .i64 2, .int .i64 bad, .string ⟨(ST S2).toArray⟩, .slice A2 (m2 + 1) k9, .slice none 0 0, .slice none 0 0, .int .i64 JX] 35) = W := ⟨_, rfl⟩
   have up : At w5 w4.heap.size 35 #[.int .i64 2, .int .i64 bad, .string ⟨(ST S2).toArray⟩, .slice A2 (m2 + 1) k9, .slice none 0 0, .slice none 0 0, .int .i64 JX] := nh ▸ At.new _ _ _
   have dK : Fr [] w4 w5 := nh ▸ aP _ _
   have ta := aa (jH.out.keep dK)
   obtain ⟨r0, r1, r2, r3, r4, r5, r6⟩ := iT up
   obtain ⟨s0, s1, s2, s3, s4, s5, s6⟩ := iT (U5.out.keep dK)
   rw [nh]
   clear nh up dK c0 c1 c2 c3 c4 c5 c6 c7
   go_wp2_with fail
   go_ret
   exact ⟨rfl, ta.out.fr⟩
 ·have HB := aa hb
  have afX := aa hs
  go_upto_region 5 with fail
  obtain ⟨w3, kW⟩ : ∃ W, w2.alloc (.cells #[.int .i64 2, .int .i64 bad, .string ⟨(ST S).toArray⟩, .slice A (m + 1) k8, .slice none 0 0, .slice none 0 0, .int .i64 us] 35) = W := ⟨_, rfl⟩
  have Sd : Hid (At w3 w2.heap.size 35 #[.int .i64 2, .int .i64 bad, .string ⟨(ST S).toArray⟩, .slice A (m + 1) k8, .slice none 0 0, .slice none 0 0, .int .i64 us]) := kW ▸ At.new _ _ _
  have cY : Fr [] w2 w3 := kW ▸ aP _ _
  have iU := aa (ie.out.keep cY)
  have Zl := aa (afX.out.keep cY)
  rw [kW]
  clear kW cY
  have K2 := aa (US.out w3 iU.out.fr dm hdm)
  clear US c0 c1 c2 c3 c4 c5 c6 c7 ie
  obtain ⟨c0, c1, c2, c3, c4, c5, c6, c7⟩ := iU.out.cells
  try simp only at c0 c1 c2 c3 c4 c5 c6 c7
  go_upto_region 6 with fail
  refine K2.out.mono ?_
  clear K2
  rintro e w4 ⟨eF, h4⟩
  have jH := aa (iU.out.keep eF)
  have U5 := aa (Sd.out.keep eF)
  have ZT := aa eF
  clear eF c0 c1 c2 c3 c4 c5 c6 c7 iU Sd
  obtain ⟨c0, c1, c2, c3, c4, c5, c6, c7⟩ := jH.out.cells
  try simp only at c0 c1 c2 c3 c4 c5 c6 c7
  rcases h4 with ⟨bJ, rfl⟩ | ⟨bJ, JX, rA, rfl⟩ | ⟨bJ, JX, S2, m2, A2, k9, rA, rfl, jK⟩
  ·exact absurd hu bJ
  ·have := (UP.out d mo _ _ _ _ HB.out (by rw [HDM.out]; exact rA)).1 _ rfl
   cases this
  ·have TA := (UP.out d mo _ _ _ _ HB.out (by rw [HDM.out]; exact rA)).1 _ rfl
   simp only [Option.some.injEq, Prod.mk.injEq] at TA
   obtain ⟨rfl, rfl⟩ := TA
   have HSB := aa jK
   go_upto_region 6 with fail
   obtain ⟨w5, nh⟩ : ∃ W, w4.alloc (.cells #[.int .i64 2, .int .i64 bad, .string ⟨(ST S2).toArray⟩, .slice A2 (m2 + 1) k9, .slice none 0 0, .slice none 0 0, .int .i64 JX] 35) = W := ⟨_, rfl⟩
   have up : At w5 w4.heap.size 35 #[.int .i64 2, .int .i64 bad, .string ⟨(ST S2).toArray⟩, .slice A2 (m2 + 1) k9, .slice none 0 0, .slice none 0 0, .int .i64 JX] := nh ▸ At.new _ _ _
   have dK : Fr [] w4 w5 := nh ▸ aP _ _
   have ta := aa (jH.out.keep dK)
   obtain ⟨r0, r1, r2, r3, r4, r5, r6⟩ := iT up
   obtain ⟨s0, s1, s2, s3, s4, s5, s6⟩ := iT (U5.out.keep dK)
   have KT := zS w5 A A2 k8 k9 (IN S2 (m2 + 1)) ((Zl.out.keep ZT.out).keep dK) (HSB.out.keep dK) (by rw [QZ.out]; have := afu.out d _ _ _ HB.out; have := NN.out; omega)
   rw [QZ.out] at KT
   have KT := aa KT
   rw [nh]
   clear nh up dK c0 c1 c2 c3 c4 c5 c6 c7
   go_wp2_with fail
   refine KT.out.mono ?_
   rintro e w6 ⟨rfl, fZ⟩
   have Gv := aa (ta.out.keep fZ)
   clear fZ r0 r1 r2 r3 r4 r5 r6 s0 s1 s2 s3 s4 s5 s6
   go_wp2_with fail
   go_ret
   exact ⟨rfl, Gv.out.fr⟩
end Go.Proofs.YtpjbaobgnhjgoaaGreat
