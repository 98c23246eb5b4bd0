/- The function of SatHoles walked. -/
import Derived.Test.YtdpigdlknmcmlaaSgM
namespace Go.Proofs.Ytdpigdlknmcmlaa
open Go.RowKit
set_option linter.unusedVariables false

namespace Hole
/-- Pigeon p's places. -/
def row (H p k : Nat) : List Int := (List.range k).map fun i => ((p * H + i + 1 : Nat) : Int)
theorem row_succ (H p k : Nat) : row H p (k + 1) = row H p k ++ [((p * H + k + 1 : Nat) : Int)] := by simp [row, List.range_succ]
theorem row_len (H p k : Nat) : (row H p k).length = k := by simp [row]
theorem row_get {H p k j : Nat} (h : j < k) : (row H p k)[j]! = ((p * H + j + 1 : Nat) : Int) := by
  rw [row, List.getElem!_eq_getElem?_getD, List.getElem?_map, List.getElem?_range h]
  rfl
def c1 (H : Nat) : Nat → Nat → List (List Int)
  | 0, _ => []
  | g + 1, p => row H p H :: c1 H g (p + 1)
def two (H p q h : Nat) : List Int := [-((p * H + h + 1 : Nat) : Int), -((q * H + h + 1 : Nat) : Int)]
def pr (H p h : Nat) : Nat → Nat → List (List Int)
  | 0, _ => []
  | g + 1, q => two H p q h :: pr H p h g (q + 1)
def perP (H h : Nat) : Nat → Nat → List (List Int)
  | 0, _ => []
  | g + 1, p => pr H p h p 0 ++ perP H h g (p + 1)
def perH (H : Nat) : Nat → Nat → List (List Int)
  | 0, _ => []
  | g + 1, h => perP H h (H + 1) 0 ++ perH H g (h + 1)
theorem c1_pos {H g p : Nat} (h : 0 < g) : c1 H g p = row H p H :: c1 H (g - 1) (p + 1) := by
  obtain ⟨m, rfl⟩ : ∃ m, g = m + 1 := ⟨g - 1, by omega⟩
  rfl
theorem pr_pos {H p h g q : Nat} (hg : 0 < g) : pr H p h g q = two H p q h :: pr H p h (g - 1) (q + 1) := by
  obtain ⟨m, rfl⟩ : ∃ m, g = m + 1 := ⟨g - 1, by omega⟩
  rfl
theorem perP_pos {H h g p : Nat} (hg : 0 < g) : perP H h g p = pr H p h p 0 ++ perP H h (g - 1) (p + 1) := by
  obtain ⟨m, rfl⟩ : ∃ m, g = m + 1 := ⟨g - 1, by omega⟩
  rfl
theorem perH_pos {H g h : Nat} (hg : 0 < g) : perH H g h = perP H h (H + 1) 0 ++ perH H (g - 1) (h + 1) := by
  obtain ⟨m, rfl⟩ : ∃ m, g = m + 1 := ⟨g - 1, by omega⟩
  rfl
theorem ra_two {x y : Int} (hx : R64 x) (hy : R64 y) : Ra [x, y] := fun j hj => by
  have : j = 0 ∨ j = 1 := by simp at hj; omega
  rcases this with rfl | rfl
  · exact hx
  · exact hy
theorem two_ra {a b h : Nat} (ha : a ≤ 16) (hb : b ≤ 16) (hh : h ≤ 4) : Ra [-((a : Int) + h + 1), -((b : Int) + h + 1)] :=
  ra_two (by unfold R64; omega) (by unfold R64; omega)
theorem prod_le {H p : Nat} (h4 : H ≤ 4) (hp : p ≤ 4) : p * H ≤ 16 := Nat.mul_le_mul hp h4
end Hole
namespace Sv
/-- Clauses added, one by one: each must be one. -/
def addsN : List (List Int) → Sv → Option Sv
  | [], S => some S
  | c :: r, S => if decide (chkF S.vars c = 0) && decide (S.list.length < 1099511627776) && decide (S.used ≤ 1099511627776) then addsN r (S.addI c).1 else none
theorem addsN_cons {c : List Int} {r : List (List Int)} {S F : Sv} (h : addsN (c :: r) S = some F) : chkF S.vars c = 0 ∧ S.list.length < 1099511627776 ∧ S.used ≤ 1099511627776 ∧ addsN r (S.addF c).1 = some F := by
  rw [addsN] at h
  split at h
  · rename_i hc
    simp only [Bool.and_eq_true, decide_eq_true_eq] at hc
    exact ⟨hc.1.1, hc.1.2, hc.2, by rw [addI_eq]; exact h⟩
  · cases h
def holesN (H : Nat) : Option Sv := addsN (Hole.c1 H (H + 1) 0 ++ Hole.perH H H 0) (Sv.new (((H + 1) * H : Nat) : Int))
def holesR (H : Nat) : Option (Sv × Int) := (holesN H).bind fun S => solveN 1099511627776 [] 60 60 S
theorem holes_run : ∀ H : Nat, 1 ≤ H → H ≤ 4 → (holesR H).map (fun q => (q.2, q.1.core.length)) = some (2, 0) ∧ (holesN H).map (fun S => decide (S.used = 0)) = some true := by
  intro H h1 h4
  have : H = 1 ∨ H = 2 ∨ H = 3 ∨ H = 4 := by omega
  rcases this with rfl | rfl | rfl | rfl <;> decide +kernel
end Sv
theorem Own.frF {w0 w w' : World} {L : SvL} {S : Sv} {F : List Nat} (h : Own w0 w L S) (hf : Fr F w w') (h1 : ∀ k, k ∈ F → (L.lab k).1 ≠ L.id) (h2 : ∀ k, k ∈ F → w0.heap.size ≤ k) : Own w0 w' L S :=
  ⟨h.sv.fr hf (fun k hk _ => h1 k hk), h.nw, h.fr.trans hf (fun k hk => .inr (h2 k hk))⟩
theorem addF_snd' (S : Sv) (l : List Int) : (S.addF l).2 = chkF S.vars l := by
  unfold Sv.addF
  split
  · rename_i h; exact h.symm
  · rfl
theorem Ra.nil : Ra [] := fun j hj => absurd hj (Nat.not_lt_zero _)

set_option maxRecDepth 100000 in
set_option maxHeartbeats 16000000 in
theorem holes_calls (w : World) (n : Int) (h0 : 0 ≤ n) (h1 : n ≤ 255) : Calls Try.prog 3 #[.int .u8 n] w fun e w' => e = .returned (.bool true) ∧ Fr [] w w' := by
  have KAL := Lib.hid (alive_calls w)
  obtain ⟨H, hH⟩ : ∃ H : Nat, 1 + n % 4 = H := ⟨(1 + n % 4).toNat, by omega⟩
  have hH1 : 1 ≤ H := by omega
  have hH4 : H ≤ 4 := by omega
  have HHE := Lib.hid hH
  clear hH
  go_enter Try.func3, Try.ntmps3
  go_wp2_with fail
  refine KAL.out.mono ?_
  clear KAL
  rintro e w1 ⟨rfl, hf1⟩
  have HF1 := Lib.hid hf1
  clear hf1
  go_upto_region 4 with fail
  rw [HHE.out]
  obtain ⟨v, hv⟩ : ∃ v : Nat, (H + 1) * H = v := ⟨_, rfl⟩
  have hv20 : v ≤ 20 := by
    rw [← hv]
    exact Nat.mul_le_mul (show H + 1 ≤ 5 by omega) hH4
  have hm : ((H : Int) + 1) * (H : Int) = (v : Int) := by rw [← hv]; push_cast; rfl
  have KN := Lib.hid (own_new w1 (v : Int) (by omega) (by omega))
  have okn := Sv.Ok.new (v : Int)
  obtain ⟨hrun, hused⟩ := Sv.holes_run H hH1 hH4
  obtain ⟨FIN, hFIN, hfu⟩ := Option.map_eq_some_iff.1 hused
  have hfu2 : FIN.used = 0 := by simpa using hfu
  have hadd : Sv.addsN (Hole.c1 H (H + 1) 0 ++ Hole.perH H H 0) (Sv.new (v : Int)) = some FIN := by rw [← hv]; exact hFIN
  unfold Sv.holesR at hrun
  rw [hFIN] at hrun
  obtain ⟨q, hq, hqe⟩ := Option.map_eq_some_iff.1 hrun
  obtain ⟨SE, re⟩ := q
  simp only [Prod.mk.injEq] at hqe
  obtain ⟨rfl, hcore⟩ := hqe
  have hq2 : FIN.solveN 1099511627776 [] 60 60 = some (SE, 2) := hq
  obtain ⟨S0, hS0⟩ : ∃ S0, Sv.new (v : Int) = S0 := ⟨_, rfl⟩
  rw [hS0] at KN okn hadd
  have HO0 := Lib.hid okn.1
  have HAD := Lib.hid hadd
  have HQ := Lib.hid hq2
  have HCO := Lib.hid hcore
  have HFU := Lib.hid hfu2
  clear okn hS0 hadd hFIN hused hrun hq hq2 hcore hfu hfu2 hv
  go_wp2_with fail
  refine KN.out.mono ?_
  clear KN
  rintro e w2 ⟨L2, rfl, h2⟩
  obtain ⟨a, ha⟩ : ∃ a, L2.a = a := ⟨_, rfl⟩
  rw [ha]
  have H2 := Lib.hid h2
  have HA2 := Lib.hid ha
  clear h2 ha hm
  go_upto_region 5 with fail
  go_wp2_with fail
  go_loopg [5] (H + 1) (fun g x5 wr => ∃ (p : Nat) (L : SvL) (S : Sv), p + g = H + 1 ∧ x5 = .int .i64 p ∧ Hid (L.a = a) ∧ Hid (Own w1 wr L S) ∧ Hid (S.Ok 0) ∧ Hid (Sv.addsN (Hole.c1 H g p ++ Hole.perH H H 0) S = some FIN))
  case atStart => exact ⟨0, L2, S0, by omega, rfl, HA2, H2, HO0, HAD⟩
  case round =>
    obtain ⟨p, L, S, hk, rfl, HLA, HOW, HOK, HAD1⟩ := hrel
    have HK := Lib.hid hk
    have hpn : p ≤ H + 1 := by omega
    clear HAD H2 HA2 HO0
    obtain ⟨wo, hwo⟩ : ∃ wo, wo = wr := ⟨_, rfl⟩
    subst hwo
    by_cases hlt : p < H + 1
    · have hlt' : (p : Int) ≤ (H : Int) := by omega
      obtain ⟨m1, hm1⟩ : ∃ m1, gk - 1 = m1 := ⟨_, rfl⟩
      have HM1 : Hid (m1 < gk) := (by omega : m1 < gk)
      have HM2 : Hid (p + 1 + m1 = H + 1) := (by omega : p + 1 + m1 = H + 1)
      have hcons := HAD1.out
      rw [Hole.c1_pos (by omega), hm1, List.cons_append] at hcons
      obtain ⟨hck, hsl, hsu, hnx⟩ := Sv.addsN_cons hcons
      have HCK := Lib.hid hck
      have HSL := Lib.hid hsl
      have HSU := Lib.hid hsu
      have HNX := Lib.hid hnx
      clear hcons hck hsl hsu hnx hm1 hk
      obtain ⟨a1, ha1⟩ : ∃ a1 : Nat, p * H = a1 := ⟨_, rfl⟩
      have hab : a1 ≤ 16 := by rw [← ha1]; exact Hole.prod_le hH4 (by omega)
      have hm : (p : Int) * (H : Int) = (a1 : Int) := by rw [← ha1]; push_cast; rfl
      have HA1 := Lib.hid ha1
      clear ha1
      go_upto_region 9 with fail
      go_wp2_with fail
      go_loopg [6, 7] H (fun g2 x6 x7 wi => ∃ (k c' : Nat) (A' : Option Addr), k + g2 = H ∧ x6 = .slice A' k c' ∧ x7 = .int .i64 k ∧ Hid (Ints wi A' c' (Hole.row H p k)) ∧ Hid (∀ j, j ∈ blks A' → wo.heap.size ≤ j) ∧ Hid (A' = none → c' = 0) ∧ Hid (Fr [] wo wi))
      case atStart => exact ⟨0, 0, none, by omega, rfl, rfl, World.ownsRow_nil _ 0 _ 1, (fun j hj => by simp [blks] at hj : ∀ j, j ∈ blks none → wo.heap.size ≤ j), (fun _ => rfl : (none : Option Addr) = none → 0 = 0), Fr.refl _ _⟩
      case round =>
        obtain ⟨k, c', A', hk2, rfl, rfl, HI, HNW, HNN, HFI⟩ := hrel
        have HK2 := Lib.hid hk2
        have hkn : k ≤ H := by omega
        clear hk2
        by_cases hlt2 : k < H
        · obtain ⟨wb, hwb⟩ : ∃ W, wr.alloc (.cells #[.int .i64 ((a1 : Int) + k + 1)] 3) = W := ⟨_, rfl⟩
          have HFB : Hid (Fr [] wr wb) := hwb ▸ box_fr' _ _
          have hcell : wb.cell? ⟨wr.heap.size, 0, none⟩ = some (.int .i64 ((a1 : Int) + k + 1)) := by
            have := (At.new wr 3 #[.int .i64 ((a1 : Int) + k + 1)]).cell 0
            rw [hwb] at this
            simpa using this
          go_wp2_with (at_builtin; (refine wpList_append_int _ rfl _ _ rfl A' c' (Hole.row H p k) k rfl (Hole.row_len H p k).symm (HI.out.fr HFB.out (by simp)) ⟨wr.heap.size, 0, none⟩ 1 ((a1 : Int) + k + 1) rfl hcell (by rw [Hole.row_len]; omega) ?_; intro g cap w3 hrow hfr hg hs3))
          have HR3 : Hid (Ints w3 (some ⟨g, 0, none⟩) cap (Hole.row H p (k + 1))) := by
            rw [Hole.row_succ, show (((p * H + k + 1 : Nat) : Int)) = (a1 : Int) + k + 1 by rw [HA1.out]; push_cast; rfl]
            exact hrow
          have HG3 : Hid (∀ j, j ∈ blks (some (⟨g, 0, none⟩ : Addr)) → wo.heap.size ≤ j) := fun j hj => by
            simp [blks] at hj
            subst hj
            rcases hg with h1 | h1
            · exact HNW.out j h1
            · have := HFI.out.size; have := HFB.out.size; omega
          have HF3 : Hid (Fr [] wo w3) := (HFI.out.then_ HFB.out).trans hfr (fun x hx => .inr (HNW.out x hx))
          clear hcell hrow hfr hg hs3 hwb
          go_roundg (gk - 1)
          case measure => have := HK2.out; omega
          case rel => exact ⟨k + 1, cap, some ⟨g, 0, none⟩, by have := HK2.out; omega, rfl, by go_num, HR3, HG3, (fun h => (by cases h) : some (⟨g, 0, none⟩ : Addr) = none → cap = 0), HF3⟩
        · obtain rfl : k = H := by omega
          have h3 := (HOW.out.seal).keep HFI.out
          have KA := h3.add HOK.out A' c' (Hole.row k p k) ⟨HI.out.rd, fun _ j hj => SvL.seal_new (HNW.out j hj)⟩ (fun j hj => by
            rw [Hole.row_len] at hj
            rw [Hole.row_get hj, HA1.out]
            unfold R64
            omega) HNN.out HSL.out HSU.out
          rw [Hole.row_len, addF_snd', HCK.out] at KA
          have KA : Hid (Calls Try.prog 8 #[.pointer (some ⟨L.a, 0, none⟩), .slice A' k c'] wr (OwP (.int .i64 0) (S.addF (Hole.row k p k)).1 L.a w1)) := KA
          rw [HLA.out] at KA
          have HOK2 := Lib.hid (HOK.out.addF (l := Hole.row k p k) (fun j hj => by
            rw [Hole.row_len] at hj
            rw [Hole.row_get hj, HA1.out]
            unfold R64
            omega) HSL.out).1
          clear h3 hm
          go_wp2_with fail
          refine KA.out.mono ?_
          clear KA
          rintro e w4 ⟨rfl, L4, hL4, h4⟩
          have HL4 := Lib.hid hL4
          have H4 := Lib.hid h4
          clear h4 hL4
          go_wp2_with fail
          go_roundg m1
          case measure => have := HM1.out; omega
          case rel => exact ⟨p + 1, L4, _, by have := HM2.out; omega, by go_num, HL4, H4, HOK2, HNX⟩
    · have hlt' : ¬ (p : Int) ≤ (H : Int) := by omega
      obtain rfl : gk = 0 := by omega
      have HAD : Hid (Sv.addsN (Hole.perH H H 0) S = some FIN) := HAD1.out
      clear HAD1 HK hk
      go_upto_region 16 with fail
      go_wp2_with fail
      go_loopg [8] H (fun g x8 wr => ∃ (h : Nat) (L : SvL) (S : Sv), h + g = H ∧ x8 = .int .i64 h ∧ Hid (L.a = a) ∧ Hid (Own w1 wr L S) ∧ Hid (S.Ok 0) ∧ Hid (Sv.addsN (Hole.perH H g h) S = some FIN))
      case atStart => exact ⟨0, L, S, by omega, rfl, HLA, HOW, HOK, HAD⟩
      case round =>
        clear HAD HLA HOW HOK
        obtain ⟨h, L, S, hk, rfl, HLA, HOW, HOK, HAD⟩ := hrel
        have hhn : h ≤ H := by omega
        by_cases hlt2 : h < H
        · have hlt2' : (h : Int) < (H : Int) := by omega
          obtain ⟨m1, hm1⟩ : ∃ m1, gk - 1 = m1 := ⟨_, rfl⟩
          have HM1 : Hid (m1 < gk) := (by omega : m1 < gk)
          have HM2 : Hid (h + 1 + m1 = H) := (by omega : h + 1 + m1 = H)
          have hadd := HAD.out
          rw [Hole.perH_pos (by omega), hm1] at hadd
          obtain ⟨R1, hR1⟩ : ∃ R1, Hole.perH H m1 (h + 1) = R1 := ⟨_, rfl⟩
          rw [hR1] at hadd
          have HR1 := Lib.hid hR1
          have HAD1 := Lib.hid hadd
          clear hadd hR1 hm1 hk HAD
          go_upto_region 19 with fail
          go_wp2_with fail
          go_loopg [9] (H + 1) (fun g x9 wr => ∃ (p : Nat) (L : SvL) (S : Sv), p + g = H + 1 ∧ x9 = .int .i64 p ∧ Hid (L.a = a) ∧ Hid (Own w1 wr L S) ∧ Hid (S.Ok 0) ∧ Hid (Sv.addsN (Hole.perP H h g p ++ R1) S = some FIN))
          case atStart => exact ⟨0, L, S, by omega, rfl, HLA, HOW, HOK, HAD1⟩
          case round =>
            clear HAD1 HLA HOW HOK
            obtain ⟨p, L, S, hk, rfl, HLA, HOW, HOK, HAD⟩ := hrel
            have hpn : p ≤ H + 1 := by omega
            by_cases hlt3 : p < H + 1
            · have hlt3' : (p : Int) ≤ (H : Int) := by omega
              obtain ⟨m2, hm2⟩ : ∃ m2, gk - 1 = m2 := ⟨_, rfl⟩
              have HM3 : Hid (m2 < gk) := (by omega : m2 < gk)
              have HM4 : Hid (p + 1 + m2 = H + 1) := (by omega : p + 1 + m2 = H + 1)
              have hadd := HAD.out
              rw [Hole.perP_pos (by omega), hm2, List.append_assoc] at hadd
              obtain ⟨R2, hR2⟩ : ∃ R2, Hole.perP H h m2 (p + 1) ++ R1 = R2 := ⟨_, rfl⟩
              rw [hR2] at hadd
              have HR2 := Lib.hid hR2
              have HAD1 := Lib.hid hadd
              clear hadd hR2 hm2 hk HAD
              obtain ⟨a1, ha1⟩ : ∃ a1 : Nat, p * H = a1 := ⟨_, rfl⟩
              have hab : a1 ≤ 16 := by rw [← ha1]; exact Hole.prod_le hH4 (by omega)
              have HA1 := Lib.hid ha1
              clear ha1
              go_upto_region 22 with fail
              go_wp2_with fail
              go_loopg [10] p (fun g x10 wr => ∃ (q : Nat) (L : SvL) (S : Sv), q + g = p ∧ x10 = .int .i64 q ∧ Hid (L.a = a) ∧ Hid (Own w1 wr L S) ∧ Hid (S.Ok 0) ∧ Hid (Sv.addsN (Hole.pr H p h g q ++ R2) S = some FIN))
              case atStart => exact ⟨0, L, S, by omega, rfl, HLA, HOW, HOK, HAD1⟩
              case round =>
                clear HAD1 HLA HOW HOK
                obtain ⟨q, L, S, hk, rfl, HLA, HOW, HOK, HAD⟩ := hrel
                have hqn : q ≤ p := by omega
                have HK := Lib.hid hk
                by_cases hlt4 : q < p
                · have hlt4' : (q : Int) < (p : Int) := by omega
                  obtain ⟨b1, hb1⟩ : ∃ b1 : Nat, q * H = b1 := ⟨_, rfl⟩
                  have hbb : b1 ≤ 16 := by rw [← hb1]; exact Hole.prod_le hH4 (by omega)
                  have hmp : (p : Int) * (H : Int) = (a1 : Int) := by rw [← HA1.out]; push_cast; rfl
                  have hmq : (q : Int) * (H : Int) = (b1 : Int) := by rw [← hb1]; push_cast; rfl
                  have hadd := HAD.out
                  rw [Hole.pr_pos (by omega), List.cons_append] at hadd
                  obtain ⟨hck, hsl, hsu, hnx⟩ := Sv.addsN_cons hadd
                  have htw : Hole.two H p q h = [-((a1 : Int) + h + 1), -((b1 : Int) + h + 1)] := by
                    unfold Hole.two
                    rw [HA1.out, hb1]
                    push_cast
                    rfl
                  rw [htw] at hck hnx
                  have hra : Ra [-((a1 : Int) + h + 1), -((b1 : Int) + h + 1)] := Hole.two_ra hab hbb (by omega)
                  obtain ⟨h3, hr3⟩ := HOW.out.built [-((a1 : Int) + h + 1), -((b1 : Int) + h + 1)] (show 2 ≤ maxLen by decide)
                  have KA := h3.add HOK.out (some ⟨wr.heap.size, 0, none⟩) 2 [-((a1 : Int) + h + 1), -((b1 : Int) + h + 1)] hr3 hra (by simp) hsl hsu
                  rw [addF_snd', hck] at KA
                  have KA : Hid (Calls Try.prog 8 #[.pointer (some ⟨L.a, 0, none⟩), .slice (some ⟨wr.heap.size, 0, none⟩) 2 2] (wr.alloc (.cells #[.int .i64 (-((a1 : Int) + h + 1)), .int .i64 (-((b1 : Int) + h + 1))] 3)) (OwP (.int .i64 0) (S.addF [-((a1 : Int) + h + 1), -((b1 : Int) + h + 1)]).1 L.a w1)) := KA
                  rw [HLA.out] at KA
                  have HOK2 := Lib.hid (HOK.out.addF hra hsl).1
                  have HNX := Lib.hid hnx
                  clear h3 hr3 hra htw hadd hck hsl hsu hnx hb1 hk
                  go_wp2_with fail
                  refine KA.out.mono ?_
                  clear KA
                  rintro e w4 ⟨rfl, L4, hL4, h4⟩
                  have HL4 := Lib.hid hL4
                  have H4 := Lib.hid h4
                  clear h4 hL4 hmp hmq
                  go_wp2_with fail
                  go_roundg (gk - 1)
                  case measure => have := HK.out; omega
                  case rel => exact ⟨q + 1, L4, _, by have := HK.out; omega, by go_num, HL4, H4, HOK2, HNX⟩
                · obtain rfl : q = p := by omega
                  obtain rfl : gk = 0 := by omega
                  have HAD1 : Hid (Sv.addsN R2 S = some FIN) := HAD.out
                  rw [← HR2.out] at HAD1
                  clear HAD HK hk
                  go_wp2_with fail
                  go_roundg m2
                  case measure => have := HM3.out; omega
                  case rel => exact ⟨q + 1, L, S, by have := HM4.out; omega, by go_num, HLA, HOW, HOK, HAD1⟩
            · have hlt3' : ¬ (p : Int) ≤ (H : Int) := by omega
              obtain rfl : gk = 0 := by omega
              have HAD1 : Hid (Sv.addsN R1 S = some FIN) := HAD.out
              rw [← HR1.out] at HAD1
              clear HAD hk
              go_wp2_with fail
              go_roundg m1
              case measure => have := HM1.out; omega
              case rel => exact ⟨h + 1, L, S, by have := HM2.out; omega, by go_num, HLA, HOW, HOK, HAD1⟩
        · obtain rfl : h = H := by omega
          obtain rfl : gk = 0 := by omega
          have hS : S = FIN := by
            have := HAD.out
            simpa [Hole.perH, Sv.addsN] using this
          subst hS
          clear HAD hk
          have KS := HOW.out.solve false (fun h => by cases h) HOK.out none 0 [] ⟨fun h => absurd h (Nat.lt_irrefl 0), fun h => absurd h (Nat.lt_irrefl 0)⟩ Ra.nil (Nat.le_refl _) (by decide) 1099511627776 60 60 _ (by rw [HFU.out]; decide) (Sv.solveN_W HQ.out)
          have KS : Hid (Calls Try.prog 9 #[.pointer (some ⟨L.a, 0, none⟩), .int .i64 1099511627776, .slice none 0 0] wr (OsP (fun S' r => (S', r) = (SE, 2)) L.a w1)) := KS
          rw [HLA.out] at KS
          go_wp2_with fail
          refine KS.out.mono ?_
          clear KS
          rintro e w5 ⟨S5, r5, hq5, ho5, rfl, L5, hL5, h5⟩
          simp only [Prod.mk.injEq] at hq5
          obtain ⟨rfl, rfl⟩ := hq5
          have KCO := Lib.hid (core_calls w5 L5 S5 h5.sv (by rw [HCO.out]; decide))
          rw [hL5, HCO.out] at KCO
          have HF5 := Lib.hid (HF1.out.then_ h5.fr)
          clear h5 ho5 hL5
          go_wp2_with fail
          refine KCO.out.mono ?_
          clear KCO
          rintro e w6 ⟨A6, c6, rfl, -, -, hf6⟩
          have HF6 := Lib.hid (HF5.out.then_ hf6)
          clear hf6
          go_wp2_with fail
          go_ret
          exact ⟨rfl, HF6.out⟩

end Go.Proofs.Ytdpigdlknmcmlaa
