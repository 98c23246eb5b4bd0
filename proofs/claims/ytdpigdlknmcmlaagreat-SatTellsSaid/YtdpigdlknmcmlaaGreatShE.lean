/-  -/
import Derived.Test.YtdpigdlknmcmlaaGreatShD
import Derived.Test.YtdpigdlknmcmlaaGreatShB
/- The function of SatTells walked. -/
namespace Go.Proofs.YtdpigdlknmcmlaaGreat
open Go.RowKit
set_option linter.unusedVariables false

namespace Sv
theorem Ans.same {us : List Int} {F : (Nat → Bool) → Prop} {V : Nat} {S S' : Sv} {r r' : Int} (hv : S.vars = V) (hv' : S'.vars = V) (h : Ans us F V S r) (h' : Ans us F V S' r') : r = r' := by
 have one : ∀ {S : Sv}, S.vars = V → Ans us F V S 1 → ∃ a, F a ∧ ∀ u ∈ us, Tru a u := fun {S} hv h => by
  rcases h with ⟨_, h1, _, _, h4⟩ | ⟨h1, _⟩
  ·exact ⟨aOf (S.msTo V), h4 _ (fun v v1 v2 => aOf_ms hv h1 v v1 v2)⟩
  ·cases h1
 have two : ∀ {S : Sv}, Ans us F V S 2 → ∀ a, F a → ¬ ∀ u ∈ us, Tru a u := fun {S} h a ha hu => by
  rcases h with ⟨h1, _⟩ | ⟨_, _, h2, h3, _⟩
  ·cases h1
  ·exact h2 a ha fun u hu2 => hu u (h3 u hu2)
 have hr : r = 1 ∨ r = 2 := by rcases h with ⟨h1, _⟩ | ⟨h1, _⟩ <;> omega
 have hr' : r' = 1 ∨ r' = 2 := by rcases h' with ⟨h1, _⟩ | ⟨h1, _⟩ <;> omega
 rcases hr with rfl | rfl <;> rcases hr' with rfl | rfl
 ·rfl
 ·obtain ⟨a, h1, h2⟩ := one hv h
  exact absurd h2 (two h' a h1)
 ·obtain ⟨a, h1, h2⟩ := one hv' h'
  exact absurd h2 (two h a h1)
 ·rfl
end Sv
theorem EndQ_rt {us : List Int} {cls : List (List Int)} {V U W u0 : Nat} {S : Sv} {r : Int} (h8 : V ≤ 8) (hc : ∀ c ∈ cls, InR V c) (hu : InR V us) (h : Sv.EndQ us (FC cls) V U W u0 S r) : Rt V cls us S r := ⟨h8, hc, hu, h.1.vars, h.2.2⟩
theorem Own.tells {w0 w : World} {L : SvL} {S : Sv} (h : Own w0 w L S) {F : (Nat → Bool) → Prop} {V U W : Nat} (k : Sv.Kept F V U W S) (h8 : V ≤ 8) (hU : U ≤ 137438953472) (hW : W ≤ 137438953472) (A : Option Addr) (c : Nat) (us : List Int) (hrd : Rdx w L A us) (hra : Ra us) (hcap : us.length ≤ c) (hul : us.length ≤ 1048576) (hu : InR V us) :
  Calls Tryz.prog 10 #[.pointer (some ⟨L.a, 0, none⟩), .int .i64 1099511627776, .slice A us.length c] w (OsP (Sv.EndQ us F V (U + 2) W (S.used + 1)) L.a w0) :=
 h.solve true (fun _ => reduce_calls) k.inv.ok A c us hrd hra hcap (by omega) 1099511627776 19 68722098185 _ (by have := k.used; omega) (Sv.solve_told k h8 (by omega) (by omega) hu (by omega))

set_option maxRecDepth 100000 in
set_option maxHeartbeats 16000000 in
theorem tells_calls (w : World) (vars : Int) (hv : R64 vars) (A : Option Addr) (c : Nat) (hs : List Ls) (h : hs.length ≤ 1048576 → RdL w A hs) (hl : hs.length ≤ 9223372036854775807) (hlr : ∀ c ∈ hs.map (·.l), Ra c)
  (B : Option Addr) (d : Nat) (us : List Int) (hb : Rd w B us) (hra : Ra us) (hcap : us.length ≤ d)
  (B' : Option Addr) (d' : Nat) (vs : List Int) (hb' : Rd w B' vs) (hra' : Ra vs) (hcap' : vs.length ≤ d') :
  Calls Tryz.prog 4 #[.agg #[.int .i64 vars, .slice A hs.length c], .slice B us.length d, .slice B' vs.length d'] w fun e w' => e = .returned (.bool true) ∧ Fr [] w w' := by
 obtain ⟨w1, hw1⟩ : ∃ w1, w.alloc (.cells #[.int .i64 vars, .slice A hs.length c] 24) = w1 := ⟨_, rfl⟩
 have HF1 : Hid (Fr [] w w1) := hw1 ▸ box_fr' _ _
 have HS : Hid (At w1 w.heap.size 24 #[.int .i64 vars, .slice A hs.length c]) := hw1 ▸ At.new _ _ _
 have c0 := HS.out.cell 0
 have c1 := HS.out.cell 1
 simp at c0 c1
 have HC0 := Lib.hid c0
 have HC1 := Lib.hid c1
 have HH := Lib.hid (fun h1 => (h h1).keep HF1.out)
 have HB := Lib.hid (hb.keep HF1.out)
 have HB' := Lib.hid (hb'.keep HF1.out)
 have HRA := Lib.hid hra
 have HRA' := Lib.hid hra'
 have HCAP := Lib.hid hcap
 have HCAP' := Lib.hid hcap'
 have HLR := Lib.hid hlr
 have KAL := Lib.hid (alive_calls w1)
 have KFW := Lib.hid (fun W (hf : Fr [] w1 W) => few_calls W vars A c hs (fun h1 => (HH.out h1).keep hf) hl)
 obtain ⟨fb, hfb⟩ : ∃ fb, fewB vars (hs.map (·.l)) = fb := ⟨_, rfl⟩
 simp only [hfb] at KFW
 have HFB := Lib.hid hfb
 clear h hb hb' hra hra' hcap hcap' hlr c0 c1 hfb
 go_enter Tryz.func4, Tryz.ntmps4
 go_upto_region 1 with fail
 clear hw1
 go_wp2_with fail
 refine KAL.out.mono ?_
 clear KAL
 rintro e w2 ⟨rfl, hf2⟩
 have HF2 := Lib.hid hf2
 clear hf2
 have c0 := HF2.out.cellS HC0.out
 have c1 := HF2.out.cellS HC1.out
 have KF := Lib.hid (KFW.out w2 HF2.out)
 go_upto_region 3 with fail
 go_wp2_with fail
 refine KF.out.mono ?_
 clear KF KFW
 rintro e w3 ⟨rfl, hf3⟩
 have HF3 := Lib.hid (HF2.out.then_ hf3)
 clear hf3 c0 c1
 cases fb with
 | false =>
  go_wp2_with fail
  go_ret
  exact ⟨rfl, HF1.out.then_ HF3.out⟩
 | true =>
  have d0 := HF3.out.cellS HC0.out
  have d1 := HF3.out.cellS HC1.out
  have KC1 := rcheck_calls w3 vars B d us (HB.out.keep HF3.out) HRA.out
  have KC2 := rcheck_calls w3 vars B' d' vs (HB'.out.keep HF3.out) HRA'.out
  obtain ⟨k1, hk1⟩ : ∃ k, chkF vars us = k := ⟨_, rfl⟩
  obtain ⟨k2, hk2⟩ : ∃ k, chkF vars vs = k := ⟨_, rfl⟩
  rw [hk1] at KC1
  rw [hk2] at KC2
  have KC1 := Lib.hid KC1
  have KC2 := Lib.hid KC2
  have HK1 := Lib.hid hk1
  have HK2 := Lib.hid hk2
  clear hk1 hk2
  by_cases h1 : k1 = 0
  ·have b1 : (k1 != 0) = false := by simp [h1]
   by_cases h2 : k2 = 0
   ·have b2 : (k2 != 0) = false := by simp [h2]
    have hvn : 0 ≤ vars := by
     have := HFB.out
     unfold fewB formB at this
     simp only [Bool.and_eq_true, decide_eq_true_eq] at this
     exact this.2.1.1.1
    obtain ⟨V, rfl⟩ : ∃ V : Nat, vars = (V : Int) := ⟨vars.toNat, by omega⟩
    obtain ⟨f1, f2, f3, f4, f5, f6⟩ := few_laid HLR.out HFB.out
    have hlen : hs.length ≤ 1048576 := by simpa using f2
    have HRD := Lib.hid (HH.out hlen)
    have u1 : us.length ≤ 1024 := by
     have := HK1.out
     unfold chkF at this
     split at this <;> omega
    have u2 : vs.length ≤ 1024 := by
     have := HK2.out
     unfold chkF at this
     split at this <;> omega
    have HU := Lib.hid (chk_in (by omega : V ≤ 262143) HRA.out (HK1.out.trans h1))
    have HU' := Lib.hid (chk_in (by omega : V ≤ 262143) HRA'.out (HK2.out.trans h2))
    have KL := Lib.hid (laid_calls w3 (V : Int) hv A c hs (HRD.out.keep HF3.out) (by omega))
    obtain ⟨RES, hRES⟩ : ∃ RES, Sv.layN (hs.map (·.l)) (Sv.new (V : Int)) = RES := ⟨_, rfl⟩
    rw [hRES] at KL f5 f6
    obtain ⟨S0, b0⟩ := RES
    simp only at f5 f6
    subst f5
    have HK0 := Lib.hid f6
    have HCL := Lib.hid f4
    clear f2 f3 f4 f6 hRES
    go_wp2_with fail
    refine KC1.out.mono ?_
    clear KC1
    rintro e w4 ⟨rfl, rfl⟩
    go_wp2_with fail
    refine KC2.out.mono ?_
    clear KC2
    rintro e w4 ⟨rfl, rfl⟩
    go_upto_region 5 with fail
    go_wp2_with fail
    refine KL.out.mono ?_
    clear KL d0 d1
    rintro e w4 ⟨L1, rfl, o1⟩
    have HO1 := Lib.hid o1
    clear o1
    have KS := Lib.hid (HO1.out.tells HK0.out f1 (by omega) (by omega) B d us (HO1.out.far_old (HB.out.keep HF3.out)) HRA.out HCAP.out (by omega) HU.out)
    go_upto_region 6 with fail
    go_wp2_with fail
    refine KS.out.mono ?_
    clear KS
    rintro e w5 ⟨S1, r1, q1, -, rfl, L2, a2, o2⟩
    have HQ1 := Lib.hid q1
    have HO2 := Lib.hid o2
    have hf5 := HF3.out.then_ o2.fr
    have d0 := hf5.cellS HC0.out
    have d1 := hf5.cellS HC1.out
    have HA2 := Lib.hid a2
    have KR := right_calls w5 L2 S1 o2.sv V A c hs (HRD.out.keep hf5) (by omega) B d us (HB.out.keep hf5) HRA.out (by omega) r1 (EndQ_rt f1 HCL.out HU.out q1)
    rw [a2] at KR
    have KR := Lib.hid KR
    clear q1 o2 hf5 a2
    go_wp2_with fail
    refine KR.out.mono ?_
    clear KR d0 d1
    rintro e w6 ⟨rfl, hf6⟩
    have HO3 := Lib.hid (HO2.out.keep hf6)
    clear hf6
    have KS := HO3.out.tells HQ1.out.1 f1 (by omega) (by omega) B' d' vs (HO3.out.far_old (HB'.out.keep HF3.out)) HRA'.out HCAP'.out (by omega) HU'.out
    rw [HA2.out] at KS
    have KS := Lib.hid KS
    go_upto_region 9 with fail
    go_wp2_with fail
    refine KS.out.mono ?_
    clear KS
    rintro e w7 ⟨S2, r2, q2, -, rfl, L3, a3, o3⟩
    have HQ2 := Lib.hid q2
    have HO4 := Lib.hid o3
    have hf7 := HF3.out.then_ o3.fr
    have d0 := hf7.cellS HC0.out
    have d1 := hf7.cellS HC1.out
    have HA3 := Lib.hid a3
    have KR := right_calls w7 L3 S2 o3.sv V A c hs (HRD.out.keep hf7) (by omega) B' d' vs (HB'.out.keep hf7) HRA'.out (by omega) r2 (EndQ_rt f1 HCL.out HU'.out q2)
    rw [a3] at KR
    have KR := Lib.hid KR
    clear q2 o3 hf7 a3
    go_wp2_with fail
    refine KR.out.mono ?_
    clear KR d0 d1
    rintro e w8 ⟨rfl, hf8⟩
    have HO5 := Lib.hid (HO4.out.keep hf8)
    clear hf8
    have KS := HO5.out.tells HQ2.out.1 f1 (by omega) (by omega) B d us (HO5.out.far_old (HB.out.keep HF3.out)) HRA.out HCAP.out (by omega) HU.out
    rw [HA3.out] at KS
    have KS := Lib.hid KS
    go_upto_region 12 with fail
    go_wp2_with fail
    refine KS.out.mono ?_
    clear KS
    rintro e w9 ⟨S3, r3, q3, -, rfl, L4, a4, o4⟩
    have HQ3 := Lib.hid q3
    have HO6 := Lib.hid o4
    have hf9 := HF3.out.then_ o4.fr
    have d0 := hf9.cellS HC0.out
    have d1 := hf9.cellS HC1.out
    have HA4 := Lib.hid a4
    have KR := right_calls w9 L4 S3 o4.sv V A c hs (HRD.out.keep hf9) (by omega) B d us (HB.out.keep hf9) HRA.out (by omega) r3 (EndQ_rt f1 HCL.out HU.out q3)
    rw [a4] at KR
    have KR := Lib.hid KR
    have hrr : r1 = r3 := Sv.Ans.same HQ1.out.1.vars q3.1.vars HQ1.out.2.2 q3.2.2
    have hus : 3 ≤ S3.used := by
     have e1 := HQ1.out.2.1
     have e2 := HQ2.out.2.1
     have e3 := q3.2.1
     omega
    have HUS := Lib.hid hus
    subst hrr
    clear q3 o4 hf9 a4 hus
    go_wp2_with fail
    refine KR.out.mono ?_
    clear KR d0 d1
    rintro e w10 ⟨rfl, hf10⟩
    have HO7 := Lib.hid (HO6.out.keep hf10)
    clear hf10
    have KU := used_calls w10 L4 S3 HO7.out.sv
    rw [HA4.out] at KU
    obtain ⟨un, hun⟩ : ∃ un, S3.used = un := ⟨_, rfl⟩
    rw [hun] at KU HUS
    have KU := Lib.hid KU
    have hu3 := HUS.out
    have hu3i : (3 : Int) ≤ (un : Int) := by omega
    clear hun
    go_wp2_with fail
    refine KU.out.mono ?_
    rintro e w11 ⟨rfl, rfl⟩
    go_wp2_with fail
    go_ret
    exact ⟨rfl, HF1.out.then_ (HF3.out.then_ HO7.out.fr)⟩
   ·have b2 : (k2 != 0) = true := by simp [h2]
    go_wp2_with fail
    refine KC1.out.mono ?_
    clear KC1
    rintro e w4 ⟨rfl, rfl⟩
    go_wp2_with fail
    refine KC2.out.mono ?_
    clear KC2
    rintro e w4 ⟨rfl, rfl⟩
    go_wp2_with fail
    go_ret
    exact ⟨rfl, HF1.out.then_ HF3.out⟩
  ·have b1 : (k1 != 0) = true := by simp [h1]
   go_wp2_with fail
   refine KC1.out.mono ?_
   clear KC1
   rintro e w4 ⟨rfl, rfl⟩
   go_wp2_with fail
   go_ret
   exact ⟨rfl, HF1.out.then_ HF3.out⟩
end Go.Proofs.YtdpigdlknmcmlaaGreat
