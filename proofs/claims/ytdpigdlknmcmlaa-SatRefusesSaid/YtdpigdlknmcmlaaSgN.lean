/- The function of SatRefuses walked. -/
import Derived.Test.YtdpigdlknmcmlaaSgM
namespace Go.Proofs.Ytdpigdlknmcmlaa
open Go.RowKit
set_option linter.unusedVariables false

theorem Sv.addF_snd (S : Sv) (l : List Int) : (S.addF l).2 = chkF S.vars l := by
  unfold Sv.addF
  split
  · rename_i h; exact h.symm
  · rfl
theorem Sv.growP_snd (S : Sv) (n : Int) : ((S.growP n).2.2 = 0 ↔ (0 ≤ n ∧ n ≤ 262143 - (S.vars : Int))) ∧ ((S.growP n).2.2 = 0 ∨ (S.growP n).2.2 = 4) := by
  unfold Sv.growP
  split
  · simp; omega
  · simp; omega
theorem mod9 (x : Int) : 0 ≤ (wrap64 (x.tmod 9 + 9)).tmod 9 ∧ (wrap64 (x.tmod 9 + 9)).tmod 9 ≤ 8 := by
  have h1 : x.tmod 9 < 9 := Int.tmod_lt_of_pos x (by omega)
  have h2 : -9 < x.tmod 9 := by
    have : (-x).tmod 9 < 9 := Int.tmod_lt_of_pos (-x) (by omega)
    rw [Int.neg_tmod] at this
    omega
  have h3 : wrap64 (x.tmod 9 + 9) = x.tmod 9 + 9 := by unfold wrap64; omega
  rw [h3]
  have h4 : (x.tmod 9 + 9).tmod 9 < 9 := Int.tmod_lt_of_pos _ (by omega)
  have h5 : 0 ≤ (x.tmod 9 + 9).tmod 9 := Int.tmod_nonneg _ (by omega)
  omega
theorem chk_any {vars : Int} {l : List Int} (h1 : l.length ≤ 1024) (h : chkF vars l ≠ 0) : l.any (offB vars) = true := by
  unfold chkF at h
  rw [if_neg (by omega)] at h
  split at h
  · assumption
  · exact absurd rfl h

theorem bare_cells (w6 w7 : World) (hw7 : (w6.alloc (.cells #[.pointer none, .pointer none, .int .i64 0, .slice none 0 0, .slice none 0 0, .slice none 0 0, .slice none 0 0, .slice none 0 0, .int .i64 0, .int .i64 0, .int .i64 0, .int .i64 0, .int .i64 0, .bool false, .bool false] 48)).alloc (.cells #[.pointer none, .pointer (some ⟨w6.heap.size, 0, none⟩)] 23) = w7) :
    Fr [] w6 w7 ∧ ∀ k : Nat, k < 2 → ∃ p, w7.cell? ⟨w6.heap.size + 1, k, none⟩ = some (.pointer p) ∧ Bare w7 p := by
  have f1 := box_fr' w6 (.cells #[.pointer none, .pointer none, .int .i64 0, .slice none 0 0, .slice none 0 0, .slice none 0 0, .slice none 0 0, .slice none 0 0, .int .i64 0, .int .i64 0, .int .i64 0, .int .i64 0, .int .i64 0, .bool false, .bool false] 48)
  have f2 := box_fr' (w6.alloc (.cells #[.pointer none, .pointer none, .int .i64 0, .slice none 0 0, .slice none 0 0, .slice none 0 0, .slice none 0 0, .slice none 0 0, .int .i64 0, .int .i64 0, .int .i64 0, .int .i64 0, .int .i64 0, .bool false, .bool false] 48)) (.cells #[.pointer none, .pointer (some ⟨w6.heap.size, 0, none⟩)] 23)
  have c1 := (At.new w6 48 #[.pointer none, .pointer none, .int .i64 0, .slice none 0 0, .slice none 0 0, .slice none 0 0, .slice none 0 0, .slice none 0 0, .int .i64 0, .int .i64 0, .int .i64 0, .int .i64 0, .int .i64 0, .bool false, .bool false]).cell 0
  have c2 := f2.cellS c1
  have a2 := At.new (w6.alloc (.cells #[.pointer none, .pointer none, .int .i64 0, .slice none 0 0, .slice none 0 0, .slice none 0 0, .slice none 0 0, .slice none 0 0, .int .i64 0, .int .i64 0, .int .i64 0, .int .i64 0, .int .i64 0, .bool false, .bool false] 48)) 23 #[.pointer none, .pointer (some ⟨w6.heap.size, 0, none⟩)]
  rw [hw7] at f2 c2 a2
  rw [szal] at a2
  refine ⟨f1.then_ f2, fun k hk => ?_⟩
  have : k = 0 ∨ k = 1 := by omega
  rcases this with rfl | rfl
  · exact ⟨none, by rw [a2.cell]; rfl, .inl rfl⟩
  · exact ⟨some ⟨w6.heap.size, 0, none⟩, by rw [a2.cell]; rfl, .inr ⟨w6.heap.size, rfl, c2⟩⟩

set_option maxRecDepth 100000 in
set_option maxHeartbeats 16000000 in
theorem refuses_calls (w : World) (vars : Int) (hv : R64 vars) (A : Option Addr) (c : Nat) (l : List Int) (h : Rd w A l) (hr : Ra l) (hn : A = none → c = 0) (hcap : l.length ≤ c) (n : Int) (hnr : R64 n) :
    Calls Try.prog 5 #[.int .i64 vars, .slice A l.length c, .int .i64 n] w fun e w' => e = .returned (.bool true) ∧ Fr [] w w' := by
  have KAL := Lib.hid (alive_calls w)
  have HR := Lib.hid h
  have HRA := Lib.hid hr
  have HN := Lib.hid hn
  obtain ⟨v, hve⟩ : ∃ v : Nat, (wrap64 (vars.tmod 9 + 9)).tmod 9 = v := ⟨((wrap64 (vars.tmod 9 + 9)).tmod 9).toNat, by have := (mod9 vars).1; omega⟩
  have hv8 : v ≤ 8 := by have := (mod9 vars).2; omega
  have HVE := Lib.hid hve
  clear h hr hn hve
  go_enter Try.func5, Try.ntmps5
  go_wp2_with fail
  refine KAL.out.mono ?_
  clear KAL
  rintro e w1 ⟨rfl, hf1⟩
  have HF1 := Lib.hid hf1
  have HR1 := Lib.hid (HR.out.keep hf1)
  clear hf1
  go_upto_region 4 with fail
  rw [HVE.out]
  have KN := Lib.hid (own_new w1 (v : Int) (by omega) (by omega))
  have okn := Sv.Ok.new (v : Int)
  obtain ⟨S0, hS0⟩ : ∃ S0, Sv.new (v : Int) = S0 := ⟨_, rfl⟩
  have hl0 : S0.list.length = 0 ∧ S0.used = 0 := by rw [← hS0]; exact ⟨rfl, rfl⟩
  rw [hS0] at KN okn
  have hv0 : S0.vars = v := by rw [okn.2]; omega
  have HO0 := Lib.hid okn.1
  have HV0 := Lib.hid hv0
  have HL0 := Lib.hid hl0
  clear okn hS0 hv0 hl0
  go_wp2_with fail
  refine KN.out.mono ?_
  clear KN
  rintro e w2 ⟨L2, rfl, h2⟩
  have KA := h2.add HO0.out A c l (h2.far_old HR1.out) HRA.out HN.out (by rw [HL0.out.1]; decide) (by rw [HL0.out.2]; decide)
  rw [Sv.addF_snd, HV0.out] at KA
  have ok1 := HO0.out.addF HRA.out (by rw [HL0.out.1]; decide)
  have hu1 : (S0.addF l).1.used = 0 := by
    have : (S0.addF l).1.used = S0.used := by
      unfold Sv.addF
      split
      · split
        · rfl
        · unfold Sv.addTo
          split
          · rfl
          · split
            · rfl
            · exact (Sv.attach_same _ _ false).2.2.2.2.1
      · rfl
    rw [this, HL0.out.2]
  obtain ⟨S1, hS1⟩ : ∃ S1, (S0.addF l).1 = S1 := ⟨_, rfl⟩
  rw [hS1] at KA ok1 hu1
  obtain ⟨ck, hck⟩ : ∃ ck, chkF (v : Int) l = ck := ⟨_, rfl⟩
  rw [hck] at KA
  have HCK := Lib.hid hck
  have KA := Lib.hid KA
  have HO1 := Lib.hid ok1.1
  have HV1 : Hid (S1.vars = v) := ok1.2.trans HV0.out
  have HU1 := Lib.hid hu1
  clear h2 ok1 hS1 hck hu1
  go_wp2_with fail
  refine KA.out.mono ?_
  clear KA
  rintro e w3 ⟨rfl, L3, hL3, h3⟩
  have H3 := Lib.hid h3
  have KNU := Lib.hid (num_calls w3 ck)
  have HR3 := Lib.hid (HR1.out.keep h3.fr)
  have KCK := Lib.hid (rcheck_calls w3 (v : Int) A c l HR3.out HRA.out)
  rw [HCK.out] at KCK
  have KVA := Lib.hid (vars_calls w3 L3 S1 h3.sv)
  rw [hL3, HV1.out] at KVA
  have hdc : (ck == ck) = true := by simp
  have hdv : ((v : Int) == (v : Int)) = true := by simp
  have HL3 := Lib.hid hL3
  have HFW3 := Lib.hid (HF1.out.then_ h3.fr)
  clear h3 hL3
  go_wp2_with fail
  refine KNU.out.mono ?_
  rintro e w4 ⟨rfl, rfl⟩
  go_wp2_with fail
  refine KCK.out.mono ?_
  rintro e w4 ⟨rfl, rfl⟩
  go_wp2_with fail
  refine KVA.out.mono ?_
  rintro e w4 ⟨rfl, rfl⟩
  clear KNU KVA hdc hdv
  by_cases hl : l.length ≤ 1024
  · have hl' : (l.length : Int) ≤ (1024 : Int) := by omega
    by_cases hc0 : ck = 0
    · have hd : (ck == (0 : Int)) = true := by simp [hc0]
      clear hl
      go_wp2_with fail
      refine KCK.out.mono ?_
      rintro e w4 ⟨rfl, rfl⟩
      clear KCK
      obtain ⟨S5, hS5⟩ : ∃ S5, S1 = S5 := ⟨_, rfl⟩
      rw [hS5] at H3 HO1 HV1
      have HO5 := HO1
      have HV5 := HV1
      have HL5 := HL3
      have H5 := H3
      clear hS5
      have KG := Lib.hid (growP_calls w3 L3 S5 H5.out.sv HO5.out n)
      rw [HL5.out] at KG
      have hgs := Sv.growP_snd S5 n
      rw [HV5.out] at hgs
      obtain ⟨GP, hGP⟩ : ∃ GP, S5.growP n = GP := ⟨_, rfl⟩
      rw [hGP] at KG hgs
      obtain ⟨S6, x6, f6⟩ := GP
      simp only at KG hgs
      have HGS := Lib.hid hgs
      clear hGP hgs
      go_wp2_with fail
      refine KG.out.mono ?_
      clear KG
      rintro e w6 ⟨rfl, L6, h6, he6, hf6⟩
      have HF6 := Lib.hid (HF1.out.then_ (H5.out.next h6 he6 hf6).fr)
      clear h6 he6 hf6
      have hwv : IntKind.i64.wrap (262143 - (v : Int)) = 262143 - (v : Int) := IntWalk.i64_in _ (by omega)
      obtain ⟨q, hq⟩ : ∃ q : Bool, (f6 == (0 : Int)) = q := ⟨_, rfl⟩
      by_cases hn0 : 0 ≤ n
      · have hd0 : decide (0 ≤ n) = true := decide_eq_true hn0
        by_cases hn1 : n ≤ 262143 - (v : Int)
        · have hd1 : decide (n ≤ 262143 - (v : Int)) = true := decide_eq_true hn1
          have hf0 : f6 = 0 := HGS.out.1.2 ⟨hn0, hn1⟩
          subst hf0
          clear hq
          clear hn0
          go_upto_region 15 with fail
          obtain ⟨w7, hw7⟩ : ∃ w7, (w6.alloc (.cells #[.pointer none, .pointer none, .int .i64 0, .slice none 0 0, .slice none 0 0, .slice none 0 0, .slice none 0 0, .slice none 0 0, .int .i64 0, .int .i64 0, .int .i64 0, .int .i64 0, .int .i64 0, .bool false, .bool false] 48)).alloc (.cells #[.pointer none, .pointer (some ⟨w6.heap.size, 0, none⟩)] 23) = w7 := ⟨_, rfl⟩
          have HB7 := Lib.hid (bare_cells w6 w7 hw7)
          rw [hw7]
          clear hw7
          go_wp2_with fail
          go_loopg [13] 2 (fun g x13 wr => ∃ k : Nat, k + g = 2 ∧ x13 = .int .i64 k ∧ Hid (Fr [] w7 wr))
          case atStart => exact ⟨0, by omega, rfl, Fr.refl _ _⟩
          case round =>
            obtain ⟨k, hk, rfl, HFK⟩ := hrel
            have HK := Lib.hid hk
            have hk2 : k ≤ 2 := by omega
            clear hk
            by_cases hlt : k < 2
            · obtain ⟨p, hcp, hbp⟩ := HB7.out.2 k hlt
              have HP := Lib.hid (hbp.keep HFK.out)
              have cp := HFK.out.cellS hcp
              have hlt' : (k : Int) < 2 := by omega
              have ep := Ext.cell cp
              have KG0 := Lib.hid (grow_no wr p HP.out 1)
              have K1 := Lib.hid (fun u : Ext wr => add_no u.v p (HP.out.keep u.fr) A l.length c)
              have K2 := Lib.hid (fun u : Ext wr => solve_no u.v p (HP.out.keep u.fr) 9 A l.length c)
              have K3 := Lib.hid (fun u : Ext wr => value_no u.v p (HP.out.keep u.fr) 1)
              have K4 := Lib.hid (fun u : Ext wr => core_no u.v p (HP.out.keep u.fr))
              have K5 := Lib.hid (fun u : Ext wr => used_no u.v p (HP.out.keep u.fr))
              have K6 := Lib.hid (fun u : Ext wr => vars_no u.v p (HP.out.keep u.fr))
              clear hcp hbp
              go_wp2_with fail
              refine KG0.out.mono ?_
              clear KG0
              rintro e w8 ⟨rfl, rfl⟩
              go_wp2_with fail
              refine wp_region_ext (by kernel_rfl) (by kernel_rfl) ?_
              repeat (go_big_quiet_step (first | exact call_ext (K1.out _) | exact call_ext (K2.out _) | exact call_same (K3.out _) | exact call_same (K4.out _) | exact call_same (K5.out _) | exact call_same (K6.out _)))
              refine wpQuiet_nil ?_
              rintro w9 ⟨u2, hu2⟩
              have HF_w9 : Hid (Fr [] wr w9) := hu2 ▸ u2.fr
              clear hu2 u2
              clear ep cp K1 K2 K3 K4 K5 K6
              go_wp2_with fail
              go_roundg (gk - 1)
              case measure => have := HK.out; omega
              case rel => exact ⟨k + 1, by have := HK.out; omega, by go_num, HFK.out.then_ HF_w9.out⟩
            · obtain rfl : k = 2 := by omega
              have HFE := Lib.hid (HF6.out.then_ (HB7.out.1.then_ HFK.out))
              clear HK
              go_wp2_with fail
              go_ret
              exact ⟨rfl, HFE.out⟩
        · have hd1 : decide (n ≤ 262143 - (v : Int)) = false := decide_eq_false hn1
          have hf0 : f6 = 4 := by
            rcases HGS.out.2 with h5 | h5
            · exact absurd (HGS.out.1.1 h5).2 hn1
            · exact h5
          subst hf0
          clear hq
          clear hn0
          go_upto_region 15 with fail
          obtain ⟨w7, hw7⟩ : ∃ w7, (w6.alloc (.cells #[.pointer none, .pointer none, .int .i64 0, .slice none 0 0, .slice none 0 0, .slice none 0 0, .slice none 0 0, .slice none 0 0, .int .i64 0, .int .i64 0, .int .i64 0, .int .i64 0, .int .i64 0, .bool false, .bool false] 48)).alloc (.cells #[.pointer none, .pointer (some ⟨w6.heap.size, 0, none⟩)] 23) = w7 := ⟨_, rfl⟩
          have HB7 := Lib.hid (bare_cells w6 w7 hw7)
          rw [hw7]
          clear hw7
          go_wp2_with fail
          go_loopg [13] 2 (fun g x13 wr => ∃ k : Nat, k + g = 2 ∧ x13 = .int .i64 k ∧ Hid (Fr [] w7 wr))
          case atStart => exact ⟨0, by omega, rfl, Fr.refl _ _⟩
          case round =>
            obtain ⟨k, hk, rfl, HFK⟩ := hrel
            have HK := Lib.hid hk
            have hk2 : k ≤ 2 := by omega
            clear hk
            by_cases hlt : k < 2
            · obtain ⟨p, hcp, hbp⟩ := HB7.out.2 k hlt
              have HP := Lib.hid (hbp.keep HFK.out)
              have cp := HFK.out.cellS hcp
              have hlt' : (k : Int) < 2 := by omega
              have ep := Ext.cell cp
              have KG0 := Lib.hid (grow_no wr p HP.out 1)
              have K1 := Lib.hid (fun u : Ext wr => add_no u.v p (HP.out.keep u.fr) A l.length c)
              have K2 := Lib.hid (fun u : Ext wr => solve_no u.v p (HP.out.keep u.fr) 9 A l.length c)
              have K3 := Lib.hid (fun u : Ext wr => value_no u.v p (HP.out.keep u.fr) 1)
              have K4 := Lib.hid (fun u : Ext wr => core_no u.v p (HP.out.keep u.fr))
              have K5 := Lib.hid (fun u : Ext wr => used_no u.v p (HP.out.keep u.fr))
              have K6 := Lib.hid (fun u : Ext wr => vars_no u.v p (HP.out.keep u.fr))
              clear hcp hbp
              go_wp2_with fail
              refine KG0.out.mono ?_
              clear KG0
              rintro e w8 ⟨rfl, rfl⟩
              go_wp2_with fail
              refine wp_region_ext (by kernel_rfl) (by kernel_rfl) ?_
              repeat (go_big_quiet_step (first | exact call_ext (K1.out _) | exact call_ext (K2.out _) | exact call_same (K3.out _) | exact call_same (K4.out _) | exact call_same (K5.out _) | exact call_same (K6.out _)))
              refine wpQuiet_nil ?_
              rintro w9 ⟨u2, hu2⟩
              have HF_w9 : Hid (Fr [] wr w9) := hu2 ▸ u2.fr
              clear hu2 u2
              clear ep cp K1 K2 K3 K4 K5 K6
              go_wp2_with fail
              go_roundg (gk - 1)
              case measure => have := HK.out; omega
              case rel => exact ⟨k + 1, by have := HK.out; omega, by go_num, HFK.out.then_ HF_w9.out⟩
            · obtain rfl : k = 2 := by omega
              have HFE := Lib.hid (HF6.out.then_ (HB7.out.1.then_ HFK.out))
              clear HK
              go_wp2_with fail
              go_ret
              exact ⟨rfl, HFE.out⟩
      · have hd0 : decide (0 ≤ n) = false := decide_eq_false hn0
        have hf0 : f6 = 4 := by
          rcases HGS.out.2 with h5 | h5
          · exact absurd (HGS.out.1.1 h5).1 hn0
          · exact h5
        subst hf0
        clear hq
        clear hn0
        go_upto_region 15 with fail
        obtain ⟨w7, hw7⟩ : ∃ w7, (w6.alloc (.cells #[.pointer none, .pointer none, .int .i64 0, .slice none 0 0, .slice none 0 0, .slice none 0 0, .slice none 0 0, .slice none 0 0, .int .i64 0, .int .i64 0, .int .i64 0, .int .i64 0, .int .i64 0, .bool false, .bool false] 48)).alloc (.cells #[.pointer none, .pointer (some ⟨w6.heap.size, 0, none⟩)] 23) = w7 := ⟨_, rfl⟩
        have HB7 := Lib.hid (bare_cells w6 w7 hw7)
        rw [hw7]
        clear hw7
        go_wp2_with fail
        go_loopg [13] 2 (fun g x13 wr => ∃ k : Nat, k + g = 2 ∧ x13 = .int .i64 k ∧ Hid (Fr [] w7 wr))
        case atStart => exact ⟨0, by omega, rfl, Fr.refl _ _⟩
        case round =>
          obtain ⟨k, hk, rfl, HFK⟩ := hrel
          have HK := Lib.hid hk
          have hk2 : k ≤ 2 := by omega
          clear hk
          by_cases hlt : k < 2
          · obtain ⟨p, hcp, hbp⟩ := HB7.out.2 k hlt
            have HP := Lib.hid (hbp.keep HFK.out)
            have cp := HFK.out.cellS hcp
            have hlt' : (k : Int) < 2 := by omega
            have ep := Ext.cell cp
            have KG0 := Lib.hid (grow_no wr p HP.out 1)
            have K1 := Lib.hid (fun u : Ext wr => add_no u.v p (HP.out.keep u.fr) A l.length c)
            have K2 := Lib.hid (fun u : Ext wr => solve_no u.v p (HP.out.keep u.fr) 9 A l.length c)
            have K3 := Lib.hid (fun u : Ext wr => value_no u.v p (HP.out.keep u.fr) 1)
            have K4 := Lib.hid (fun u : Ext wr => core_no u.v p (HP.out.keep u.fr))
            have K5 := Lib.hid (fun u : Ext wr => used_no u.v p (HP.out.keep u.fr))
            have K6 := Lib.hid (fun u : Ext wr => vars_no u.v p (HP.out.keep u.fr))
            clear hcp hbp
            go_wp2_with fail
            refine KG0.out.mono ?_
            clear KG0
            rintro e w8 ⟨rfl, rfl⟩
            go_wp2_with fail
            refine wp_region_ext (by kernel_rfl) (by kernel_rfl) ?_
            repeat (go_big_quiet_step (first | exact call_ext (K1.out _) | exact call_ext (K2.out _) | exact call_same (K3.out _) | exact call_same (K4.out _) | exact call_same (K5.out _) | exact call_same (K6.out _)))
            refine wpQuiet_nil ?_
            rintro w9 ⟨u2, hu2⟩
            have HF_w9 : Hid (Fr [] wr w9) := hu2 ▸ u2.fr
            clear hu2 u2
            clear ep cp K1 K2 K3 K4 K5 K6
            go_wp2_with fail
            go_roundg (gk - 1)
            case measure => have := HK.out; omega
            case rel => exact ⟨k + 1, by have := HK.out; omega, by go_num, HFK.out.then_ HF_w9.out⟩
          · obtain rfl : k = 2 := by omega
            have HFE := Lib.hid (HF6.out.then_ (HB7.out.1.then_ HFK.out))
            clear HK
            go_wp2_with fail
            go_ret
            exact ⟨rfl, HFE.out⟩
    · have hd : (ck == (0 : Int)) = false := by simp [hc0]
      have KS := H3.out.solve false (fun h => by cases h) HO1.out A c l (H3.out.far_old HR1.out) HRA.out hcap (by omega) 9 0 0 (fun S' r => r = 0 ∧ S'.vars = v) (by rw [HU1.out]; decide) (by
        unfold Sv.solveW
        rw [if_pos (by rw [HV1.out, chk_any hl (by rw [HCK.out]; exact hc0)]; rfl)]
        exact ⟨rfl, HV1.out⟩)
      rw [HL3.out] at KS
      have KS := Lib.hid KS
      clear hl
      go_wp2_with fail
      refine KCK.out.mono ?_
      rintro e w4 ⟨rfl, rfl⟩
      clear KCK
      go_wp2_with fail
      refine KS.out.mono ?_
      clear KS
      rintro e w5 ⟨S5, r5, ⟨rfl, hv5⟩, ho5, rfl, L5, hL5, h5⟩
      have HO5 := Lib.hid ho5
      have HV5 := Lib.hid hv5
      have HL5 := Lib.hid hL5
      have H5 := Lib.hid h5
      clear ho5 hv5 hL5 h5
      have KG := Lib.hid (growP_calls w5 L5 S5 H5.out.sv HO5.out n)
      rw [HL5.out] at KG
      have hgs := Sv.growP_snd S5 n
      rw [HV5.out] at hgs
      obtain ⟨GP, hGP⟩ : ∃ GP, S5.growP n = GP := ⟨_, rfl⟩
      rw [hGP] at KG hgs
      obtain ⟨S6, x6, f6⟩ := GP
      simp only at KG hgs
      have HGS := Lib.hid hgs
      clear hGP hgs
      go_wp2_with fail
      refine KG.out.mono ?_
      clear KG
      rintro e w6 ⟨rfl, L6, h6, he6, hf6⟩
      have HF6 := Lib.hid (HF1.out.then_ (H5.out.next h6 he6 hf6).fr)
      clear h6 he6 hf6
      have hwv : IntKind.i64.wrap (262143 - (v : Int)) = 262143 - (v : Int) := IntWalk.i64_in _ (by omega)
      obtain ⟨q, hq⟩ : ∃ q : Bool, (f6 == (0 : Int)) = q := ⟨_, rfl⟩
      by_cases hn0 : 0 ≤ n
      · have hd0 : decide (0 ≤ n) = true := decide_eq_true hn0
        by_cases hn1 : n ≤ 262143 - (v : Int)
        · have hd1 : decide (n ≤ 262143 - (v : Int)) = true := decide_eq_true hn1
          have hf0 : f6 = 0 := HGS.out.1.2 ⟨hn0, hn1⟩
          subst hf0
          clear hq
          clear hn0
          go_upto_region 15 with fail
          obtain ⟨w7, hw7⟩ : ∃ w7, (w6.alloc (.cells #[.pointer none, .pointer none, .int .i64 0, .slice none 0 0, .slice none 0 0, .slice none 0 0, .slice none 0 0, .slice none 0 0, .int .i64 0, .int .i64 0, .int .i64 0, .int .i64 0, .int .i64 0, .bool false, .bool false] 48)).alloc (.cells #[.pointer none, .pointer (some ⟨w6.heap.size, 0, none⟩)] 23) = w7 := ⟨_, rfl⟩
          have HB7 := Lib.hid (bare_cells w6 w7 hw7)
          rw [hw7]
          clear hw7
          go_wp2_with fail
          go_loopg [13] 2 (fun g x13 wr => ∃ k : Nat, k + g = 2 ∧ x13 = .int .i64 k ∧ Hid (Fr [] w7 wr))
          case atStart => exact ⟨0, by omega, rfl, Fr.refl _ _⟩
          case round =>
            obtain ⟨k, hk, rfl, HFK⟩ := hrel
            have HK := Lib.hid hk
            have hk2 : k ≤ 2 := by omega
            clear hk
            by_cases hlt : k < 2
            · obtain ⟨p, hcp, hbp⟩ := HB7.out.2 k hlt
              have HP := Lib.hid (hbp.keep HFK.out)
              have cp := HFK.out.cellS hcp
              have hlt' : (k : Int) < 2 := by omega
              have ep := Ext.cell cp
              have KG0 := Lib.hid (grow_no wr p HP.out 1)
              have K1 := Lib.hid (fun u : Ext wr => add_no u.v p (HP.out.keep u.fr) A l.length c)
              have K2 := Lib.hid (fun u : Ext wr => solve_no u.v p (HP.out.keep u.fr) 9 A l.length c)
              have K3 := Lib.hid (fun u : Ext wr => value_no u.v p (HP.out.keep u.fr) 1)
              have K4 := Lib.hid (fun u : Ext wr => core_no u.v p (HP.out.keep u.fr))
              have K5 := Lib.hid (fun u : Ext wr => used_no u.v p (HP.out.keep u.fr))
              have K6 := Lib.hid (fun u : Ext wr => vars_no u.v p (HP.out.keep u.fr))
              clear hcp hbp
              go_wp2_with fail
              refine KG0.out.mono ?_
              clear KG0
              rintro e w8 ⟨rfl, rfl⟩
              go_wp2_with fail
              refine wp_region_ext (by kernel_rfl) (by kernel_rfl) ?_
              repeat (go_big_quiet_step (first | exact call_ext (K1.out _) | exact call_ext (K2.out _) | exact call_same (K3.out _) | exact call_same (K4.out _) | exact call_same (K5.out _) | exact call_same (K6.out _)))
              refine wpQuiet_nil ?_
              rintro w9 ⟨u2, hu2⟩
              have HF_w9 : Hid (Fr [] wr w9) := hu2 ▸ u2.fr
              clear hu2 u2
              clear ep cp K1 K2 K3 K4 K5 K6
              go_wp2_with fail
              go_roundg (gk - 1)
              case measure => have := HK.out; omega
              case rel => exact ⟨k + 1, by have := HK.out; omega, by go_num, HFK.out.then_ HF_w9.out⟩
            · obtain rfl : k = 2 := by omega
              have HFE := Lib.hid (HF6.out.then_ (HB7.out.1.then_ HFK.out))
              clear HK
              go_wp2_with fail
              go_ret
              exact ⟨rfl, HFE.out⟩
        · have hd1 : decide (n ≤ 262143 - (v : Int)) = false := decide_eq_false hn1
          have hf0 : f6 = 4 := by
            rcases HGS.out.2 with h5 | h5
            · exact absurd (HGS.out.1.1 h5).2 hn1
            · exact h5
          subst hf0
          clear hq
          clear hn0
          go_upto_region 15 with fail
          obtain ⟨w7, hw7⟩ : ∃ w7, (w6.alloc (.cells #[.pointer none, .pointer none, .int .i64 0, .slice none 0 0, .slice none 0 0, .slice none 0 0, .slice none 0 0, .slice none 0 0, .int .i64 0, .int .i64 0, .int .i64 0, .int .i64 0, .int .i64 0, .bool false, .bool false] 48)).alloc (.cells #[.pointer none, .pointer (some ⟨w6.heap.size, 0, none⟩)] 23) = w7 := ⟨_, rfl⟩
          have HB7 := Lib.hid (bare_cells w6 w7 hw7)
          rw [hw7]
          clear hw7
          go_wp2_with fail
          go_loopg [13] 2 (fun g x13 wr => ∃ k : Nat, k + g = 2 ∧ x13 = .int .i64 k ∧ Hid (Fr [] w7 wr))
          case atStart => exact ⟨0, by omega, rfl, Fr.refl _ _⟩
          case round =>
            obtain ⟨k, hk, rfl, HFK⟩ := hrel
            have HK := Lib.hid hk
            have hk2 : k ≤ 2 := by omega
            clear hk
            by_cases hlt : k < 2
            · obtain ⟨p, hcp, hbp⟩ := HB7.out.2 k hlt
              have HP := Lib.hid (hbp.keep HFK.out)
              have cp := HFK.out.cellS hcp
              have hlt' : (k : Int) < 2 := by omega
              have ep := Ext.cell cp
              have KG0 := Lib.hid (grow_no wr p HP.out 1)
              have K1 := Lib.hid (fun u : Ext wr => add_no u.v p (HP.out.keep u.fr) A l.length c)
              have K2 := Lib.hid (fun u : Ext wr => solve_no u.v p (HP.out.keep u.fr) 9 A l.length c)
              have K3 := Lib.hid (fun u : Ext wr => value_no u.v p (HP.out.keep u.fr) 1)
              have K4 := Lib.hid (fun u : Ext wr => core_no u.v p (HP.out.keep u.fr))
              have K5 := Lib.hid (fun u : Ext wr => used_no u.v p (HP.out.keep u.fr))
              have K6 := Lib.hid (fun u : Ext wr => vars_no u.v p (HP.out.keep u.fr))
              clear hcp hbp
              go_wp2_with fail
              refine KG0.out.mono ?_
              clear KG0
              rintro e w8 ⟨rfl, rfl⟩
              go_wp2_with fail
              refine wp_region_ext (by kernel_rfl) (by kernel_rfl) ?_
              repeat (go_big_quiet_step (first | exact call_ext (K1.out _) | exact call_ext (K2.out _) | exact call_same (K3.out _) | exact call_same (K4.out _) | exact call_same (K5.out _) | exact call_same (K6.out _)))
              refine wpQuiet_nil ?_
              rintro w9 ⟨u2, hu2⟩
              have HF_w9 : Hid (Fr [] wr w9) := hu2 ▸ u2.fr
              clear hu2 u2
              clear ep cp K1 K2 K3 K4 K5 K6
              go_wp2_with fail
              go_roundg (gk - 1)
              case measure => have := HK.out; omega
              case rel => exact ⟨k + 1, by have := HK.out; omega, by go_num, HFK.out.then_ HF_w9.out⟩
            · obtain rfl : k = 2 := by omega
              have HFE := Lib.hid (HF6.out.then_ (HB7.out.1.then_ HFK.out))
              clear HK
              go_wp2_with fail
              go_ret
              exact ⟨rfl, HFE.out⟩
      · have hd0 : decide (0 ≤ n) = false := decide_eq_false hn0
        have hf0 : f6 = 4 := by
          rcases HGS.out.2 with h5 | h5
          · exact absurd (HGS.out.1.1 h5).1 hn0
          · exact h5
        subst hf0
        clear hq
        clear hn0
        go_upto_region 15 with fail
        obtain ⟨w7, hw7⟩ : ∃ w7, (w6.alloc (.cells #[.pointer none, .pointer none, .int .i64 0, .slice none 0 0, .slice none 0 0, .slice none 0 0, .slice none 0 0, .slice none 0 0, .int .i64 0, .int .i64 0, .int .i64 0, .int .i64 0, .int .i64 0, .bool false, .bool false] 48)).alloc (.cells #[.pointer none, .pointer (some ⟨w6.heap.size, 0, none⟩)] 23) = w7 := ⟨_, rfl⟩
        have HB7 := Lib.hid (bare_cells w6 w7 hw7)
        rw [hw7]
        clear hw7
        go_wp2_with fail
        go_loopg [13] 2 (fun g x13 wr => ∃ k : Nat, k + g = 2 ∧ x13 = .int .i64 k ∧ Hid (Fr [] w7 wr))
        case atStart => exact ⟨0, by omega, rfl, Fr.refl _ _⟩
        case round =>
          obtain ⟨k, hk, rfl, HFK⟩ := hrel
          have HK := Lib.hid hk
          have hk2 : k ≤ 2 := by omega
          clear hk
          by_cases hlt : k < 2
          · obtain ⟨p, hcp, hbp⟩ := HB7.out.2 k hlt
            have HP := Lib.hid (hbp.keep HFK.out)
            have cp := HFK.out.cellS hcp
            have hlt' : (k : Int) < 2 := by omega
            have ep := Ext.cell cp
            have KG0 := Lib.hid (grow_no wr p HP.out 1)
            have K1 := Lib.hid (fun u : Ext wr => add_no u.v p (HP.out.keep u.fr) A l.length c)
            have K2 := Lib.hid (fun u : Ext wr => solve_no u.v p (HP.out.keep u.fr) 9 A l.length c)
            have K3 := Lib.hid (fun u : Ext wr => value_no u.v p (HP.out.keep u.fr) 1)
            have K4 := Lib.hid (fun u : Ext wr => core_no u.v p (HP.out.keep u.fr))
            have K5 := Lib.hid (fun u : Ext wr => used_no u.v p (HP.out.keep u.fr))
            have K6 := Lib.hid (fun u : Ext wr => vars_no u.v p (HP.out.keep u.fr))
            clear hcp hbp
            go_wp2_with fail
            refine KG0.out.mono ?_
            clear KG0
            rintro e w8 ⟨rfl, rfl⟩
            go_wp2_with fail
            refine wp_region_ext (by kernel_rfl) (by kernel_rfl) ?_
            repeat (go_big_quiet_step (first | exact call_ext (K1.out _) | exact call_ext (K2.out _) | exact call_same (K3.out _) | exact call_same (K4.out _) | exact call_same (K5.out _) | exact call_same (K6.out _)))
            refine wpQuiet_nil ?_
            rintro w9 ⟨u2, hu2⟩
            have HF_w9 : Hid (Fr [] wr w9) := hu2 ▸ u2.fr
            clear hu2 u2
            clear ep cp K1 K2 K3 K4 K5 K6
            go_wp2_with fail
            go_roundg (gk - 1)
            case measure => have := HK.out; omega
            case rel => exact ⟨k + 1, by have := HK.out; omega, by go_num, HFK.out.then_ HF_w9.out⟩
          · obtain rfl : k = 2 := by omega
            have HFE := Lib.hid (HF6.out.then_ (HB7.out.1.then_ HFK.out))
            clear HK
            go_wp2_with fail
            go_ret
            exact ⟨rfl, HFE.out⟩
  · have hl' : (1024 : Int) < (l.length : Int) := by omega
    obtain ⟨S5, hS5⟩ : ∃ S5, S1 = S5 := ⟨_, rfl⟩
    rw [hS5] at H3 HO1 HV1
    have HO5 := HO1
    have HV5 := HV1
    have HL5 := HL3
    have H5 := H3
    clear hS5 hl KCK
    have KG := Lib.hid (growP_calls w3 L3 S5 H5.out.sv HO5.out n)
    rw [HL5.out] at KG
    have hgs := Sv.growP_snd S5 n
    rw [HV5.out] at hgs
    obtain ⟨GP, hGP⟩ : ∃ GP, S5.growP n = GP := ⟨_, rfl⟩
    rw [hGP] at KG hgs
    obtain ⟨S6, x6, f6⟩ := GP
    simp only at KG hgs
    have HGS := Lib.hid hgs
    clear hGP hgs
    go_wp2_with fail
    refine KG.out.mono ?_
    clear KG
    rintro e w6 ⟨rfl, L6, h6, he6, hf6⟩
    have HF6 := Lib.hid (HF1.out.then_ (H5.out.next h6 he6 hf6).fr)
    clear h6 he6 hf6
    have hwv : IntKind.i64.wrap (262143 - (v : Int)) = 262143 - (v : Int) := IntWalk.i64_in _ (by omega)
    obtain ⟨q, hq⟩ : ∃ q : Bool, (f6 == (0 : Int)) = q := ⟨_, rfl⟩
    by_cases hn0 : 0 ≤ n
    · have hd0 : decide (0 ≤ n) = true := decide_eq_true hn0
      by_cases hn1 : n ≤ 262143 - (v : Int)
      · have hd1 : decide (n ≤ 262143 - (v : Int)) = true := decide_eq_true hn1
        have hf0 : f6 = 0 := HGS.out.1.2 ⟨hn0, hn1⟩
        subst hf0
        clear hq
        clear hn0
        go_upto_region 15 with fail
        obtain ⟨w7, hw7⟩ : ∃ w7, (w6.alloc (.cells #[.pointer none, .pointer none, .int .i64 0, .slice none 0 0, .slice none 0 0, .slice none 0 0, .slice none 0 0, .slice none 0 0, .int .i64 0, .int .i64 0, .int .i64 0, .int .i64 0, .int .i64 0, .bool false, .bool false] 48)).alloc (.cells #[.pointer none, .pointer (some ⟨w6.heap.size, 0, none⟩)] 23) = w7 := ⟨_, rfl⟩
        have HB7 := Lib.hid (bare_cells w6 w7 hw7)
        rw [hw7]
        clear hw7
        go_wp2_with fail
        go_loopg [13] 2 (fun g x13 wr => ∃ k : Nat, k + g = 2 ∧ x13 = .int .i64 k ∧ Hid (Fr [] w7 wr))
        case atStart => exact ⟨0, by omega, rfl, Fr.refl _ _⟩
        case round =>
          obtain ⟨k, hk, rfl, HFK⟩ := hrel
          have HK := Lib.hid hk
          have hk2 : k ≤ 2 := by omega
          clear hk
          by_cases hlt : k < 2
          · obtain ⟨p, hcp, hbp⟩ := HB7.out.2 k hlt
            have HP := Lib.hid (hbp.keep HFK.out)
            have cp := HFK.out.cellS hcp
            have hlt' : (k : Int) < 2 := by omega
            have ep := Ext.cell cp
            have KG0 := Lib.hid (grow_no wr p HP.out 1)
            have K1 := Lib.hid (fun u : Ext wr => add_no u.v p (HP.out.keep u.fr) A l.length c)
            have K2 := Lib.hid (fun u : Ext wr => solve_no u.v p (HP.out.keep u.fr) 9 A l.length c)
            have K3 := Lib.hid (fun u : Ext wr => value_no u.v p (HP.out.keep u.fr) 1)
            have K4 := Lib.hid (fun u : Ext wr => core_no u.v p (HP.out.keep u.fr))
            have K5 := Lib.hid (fun u : Ext wr => used_no u.v p (HP.out.keep u.fr))
            have K6 := Lib.hid (fun u : Ext wr => vars_no u.v p (HP.out.keep u.fr))
            clear hcp hbp
            go_wp2_with fail
            refine KG0.out.mono ?_
            clear KG0
            rintro e w8 ⟨rfl, rfl⟩
            go_wp2_with fail
            refine wp_region_ext (by kernel_rfl) (by kernel_rfl) ?_
            repeat (go_big_quiet_step (first | exact call_ext (K1.out _) | exact call_ext (K2.out _) | exact call_same (K3.out _) | exact call_same (K4.out _) | exact call_same (K5.out _) | exact call_same (K6.out _)))
            refine wpQuiet_nil ?_
            rintro w9 ⟨u2, hu2⟩
            have HF_w9 : Hid (Fr [] wr w9) := hu2 ▸ u2.fr
            clear hu2 u2
            clear ep cp K1 K2 K3 K4 K5 K6
            go_wp2_with fail
            go_roundg (gk - 1)
            case measure => have := HK.out; omega
            case rel => exact ⟨k + 1, by have := HK.out; omega, by go_num, HFK.out.then_ HF_w9.out⟩
          · obtain rfl : k = 2 := by omega
            have HFE := Lib.hid (HF6.out.then_ (HB7.out.1.then_ HFK.out))
            clear HK
            go_wp2_with fail
            go_ret
            exact ⟨rfl, HFE.out⟩
      · have hd1 : decide (n ≤ 262143 - (v : Int)) = false := decide_eq_false hn1
        have hf0 : f6 = 4 := by
          rcases HGS.out.2 with h5 | h5
          · exact absurd (HGS.out.1.1 h5).2 hn1
          · exact h5
        subst hf0
        clear hq
        clear hn0
        go_upto_region 15 with fail
        obtain ⟨w7, hw7⟩ : ∃ w7, (w6.alloc (.cells #[.pointer none, .pointer none, .int .i64 0, .slice none 0 0, .slice none 0 0, .slice none 0 0, .slice none 0 0, .slice none 0 0, .int .i64 0, .int .i64 0, .int .i64 0, .int .i64 0, .int .i64 0, .bool false, .bool false] 48)).alloc (.cells #[.pointer none, .pointer (some ⟨w6.heap.size, 0, none⟩)] 23) = w7 := ⟨_, rfl⟩
        have HB7 := Lib.hid (bare_cells w6 w7 hw7)
        rw [hw7]
        clear hw7
        go_wp2_with fail
        go_loopg [13] 2 (fun g x13 wr => ∃ k : Nat, k + g = 2 ∧ x13 = .int .i64 k ∧ Hid (Fr [] w7 wr))
        case atStart => exact ⟨0, by omega, rfl, Fr.refl _ _⟩
        case round =>
          obtain ⟨k, hk, rfl, HFK⟩ := hrel
          have HK := Lib.hid hk
          have hk2 : k ≤ 2 := by omega
          clear hk
          by_cases hlt : k < 2
          · obtain ⟨p, hcp, hbp⟩ := HB7.out.2 k hlt
            have HP := Lib.hid (hbp.keep HFK.out)
            have cp := HFK.out.cellS hcp
            have hlt' : (k : Int) < 2 := by omega
            have ep := Ext.cell cp
            have KG0 := Lib.hid (grow_no wr p HP.out 1)
            have K1 := Lib.hid (fun u : Ext wr => add_no u.v p (HP.out.keep u.fr) A l.length c)
            have K2 := Lib.hid (fun u : Ext wr => solve_no u.v p (HP.out.keep u.fr) 9 A l.length c)
            have K3 := Lib.hid (fun u : Ext wr => value_no u.v p (HP.out.keep u.fr) 1)
            have K4 := Lib.hid (fun u : Ext wr => core_no u.v p (HP.out.keep u.fr))
            have K5 := Lib.hid (fun u : Ext wr => used_no u.v p (HP.out.keep u.fr))
            have K6 := Lib.hid (fun u : Ext wr => vars_no u.v p (HP.out.keep u.fr))
            clear hcp hbp
            go_wp2_with fail
            refine KG0.out.mono ?_
            clear KG0
            rintro e w8 ⟨rfl, rfl⟩
            go_wp2_with fail
            refine wp_region_ext (by kernel_rfl) (by kernel_rfl) ?_
            repeat (go_big_quiet_step (first | exact call_ext (K1.out _) | exact call_ext (K2.out _) | exact call_same (K3.out _) | exact call_same (K4.out _) | exact call_same (K5.out _) | exact call_same (K6.out _)))
            refine wpQuiet_nil ?_
            rintro w9 ⟨u2, hu2⟩
            have HF_w9 : Hid (Fr [] wr w9) := hu2 ▸ u2.fr
            clear hu2 u2
            clear ep cp K1 K2 K3 K4 K5 K6
            go_wp2_with fail
            go_roundg (gk - 1)
            case measure => have := HK.out; omega
            case rel => exact ⟨k + 1, by have := HK.out; omega, by go_num, HFK.out.then_ HF_w9.out⟩
          · obtain rfl : k = 2 := by omega
            have HFE := Lib.hid (HF6.out.then_ (HB7.out.1.then_ HFK.out))
            clear HK
            go_wp2_with fail
            go_ret
            exact ⟨rfl, HFE.out⟩
    · have hd0 : decide (0 ≤ n) = false := decide_eq_false hn0
      have hf0 : f6 = 4 := by
        rcases HGS.out.2 with h5 | h5
        · exact absurd (HGS.out.1.1 h5).1 hn0
        · exact h5
      subst hf0
      clear hq
      clear hn0
      go_upto_region 15 with fail
      obtain ⟨w7, hw7⟩ : ∃ w7, (w6.alloc (.cells #[.pointer none, .pointer none, .int .i64 0, .slice none 0 0, .slice none 0 0, .slice none 0 0, .slice none 0 0, .slice none 0 0, .int .i64 0, .int .i64 0, .int .i64 0, .int .i64 0, .int .i64 0, .bool false, .bool false] 48)).alloc (.cells #[.pointer none, .pointer (some ⟨w6.heap.size, 0, none⟩)] 23) = w7 := ⟨_, rfl⟩
      have HB7 := Lib.hid (bare_cells w6 w7 hw7)
      rw [hw7]
      clear hw7
      go_wp2_with fail
      go_loopg [13] 2 (fun g x13 wr => ∃ k : Nat, k + g = 2 ∧ x13 = .int .i64 k ∧ Hid (Fr [] w7 wr))
      case atStart => exact ⟨0, by omega, rfl, Fr.refl _ _⟩
      case round =>
        obtain ⟨k, hk, rfl, HFK⟩ := hrel
        have HK := Lib.hid hk
        have hk2 : k ≤ 2 := by omega
        clear hk
        by_cases hlt : k < 2
        · obtain ⟨p, hcp, hbp⟩ := HB7.out.2 k hlt
          have HP := Lib.hid (hbp.keep HFK.out)
          have cp := HFK.out.cellS hcp
          have hlt' : (k : Int) < 2 := by omega
          have ep := Ext.cell cp
          have KG0 := Lib.hid (grow_no wr p HP.out 1)
          have K1 := Lib.hid (fun u : Ext wr => add_no u.v p (HP.out.keep u.fr) A l.length c)
          have K2 := Lib.hid (fun u : Ext wr => solve_no u.v p (HP.out.keep u.fr) 9 A l.length c)
          have K3 := Lib.hid (fun u : Ext wr => value_no u.v p (HP.out.keep u.fr) 1)
          have K4 := Lib.hid (fun u : Ext wr => core_no u.v p (HP.out.keep u.fr))
          have K5 := Lib.hid (fun u : Ext wr => used_no u.v p (HP.out.keep u.fr))
          have K6 := Lib.hid (fun u : Ext wr => vars_no u.v p (HP.out.keep u.fr))
          clear hcp hbp
          go_wp2_with fail
          refine KG0.out.mono ?_
          clear KG0
          rintro e w8 ⟨rfl, rfl⟩
          go_wp2_with fail
          refine wp_region_ext (by kernel_rfl) (by kernel_rfl) ?_
          repeat (go_big_quiet_step (first | exact call_ext (K1.out _) | exact call_ext (K2.out _) | exact call_same (K3.out _) | exact call_same (K4.out _) | exact call_same (K5.out _) | exact call_same (K6.out _)))
          refine wpQuiet_nil ?_
          rintro w9 ⟨u2, hu2⟩
          have HF_w9 : Hid (Fr [] wr w9) := hu2 ▸ u2.fr
          clear hu2 u2
          clear ep cp K1 K2 K3 K4 K5 K6
          go_wp2_with fail
          go_roundg (gk - 1)
          case measure => have := HK.out; omega
          case rel => exact ⟨k + 1, by have := HK.out; omega, by go_num, HFK.out.then_ HF_w9.out⟩
        · obtain rfl : k = 2 := by omega
          have HFE := Lib.hid (HF6.out.then_ (HB7.out.1.then_ HFK.out))
          clear HK
          go_wp2_with fail
          go_ret
          exact ⟨rfl, HFE.out⟩


end Go.Proofs.Ytdpigdlknmcmlaa
