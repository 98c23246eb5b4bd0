/- The law TrailBack walked. -/
import Derived.Test.YtnbpnpodpnlamaaTrailJ
namespace Go.Proofs.Ytnbpnpodpnlamaa
open Go.RowKit
set_option linter.unusedVariables false

theorem look_none_was {S : List St} {was : List Int} {n0 : Nat} (hw : S.map (·.x) = was) (hl : S.length = n0) {y : Int} (h : ∀ m : Nat, m < n0 → tv was[m]! ≠ tv y) : look S (tv y) = none := by
  refine look_none_of fun e he => ?_
  obtain ⟨m, hm, rfl⟩ := List.mem_iff_getElem.1 he
  have := h m (by omega)
  subst hw
  simpa [List.getElem!_eq_getElem?_getD, hm] using this

set_option maxRecDepth 100000 in
set_option maxHeartbeats 4000000 in
theorem trail_back_law (w : World) (A B : Option Addr) (c d : Nat) (xs ys : List Int) (hA : RdA w A xs) (hB : RdA w B ys) (lx : xs.length ≤ 9223372036854775807) (ly : ys.length ≤ 17592186044415)
    (rx : ∀ j : Nat, j < xs.length → -9223372036854775808 ≤ xs[j]! ∧ xs[j]! ≤ 9223372036854775807) (ry : ∀ j : Nat, j < ys.length → -9223372036854775808 ≤ ys[j]! ∧ ys[j]! ≤ 9223372036854775807) :
    Calls Try.prog 3 #[.slice A xs.length c, .slice B ys.length d] w fun e w' => e = .returned (.bool true) ∧ Fr [] w w' := by
  have HX := Lib.hid hA
  have HY := Lib.hid hB
  have RX := Lib.hid rx
  have RY := Lib.hid ry
  clear hA hB rx ry
  go_enter Try.func3, Try.ntmps3
  go_wp2_with fail
  refine (trail_alive _).mono ?_
  rintro e w1 ⟨rfl, hf⟩
  have F1 := Lib.hid hf
  clear hf
  go_wp2_with fail
  refine (tb_new w _ F1.out 9 9 (by decide) (by decide)).mono ?_
  rintro e w2 ⟨a0, T, L, rfl, hT, -⟩
  have HT := Lib.hid hT
  clear hT
  go_wp2_with fail
  go_loopg [6] xs.length (fun gk i wr => ∃ (k : Nat) (T : Tr) (S : List St) (L : TrL), k + gk = xs.length ∧ i = .int .i64 k ∧ TB w wr a0 T 9 S 0 none 0 [] L)
  case atStart => exact ⟨0, T, [], L, by omega, rfl, HT.out⟩
  case round =>
    clear HT
    obtain ⟨k, T, S, L, hk, rfl, hT⟩ := hrel
    have HK := Lib.hid hk
    have HT := Lib.hid hT
    have hk2 : k ≤ xs.length := by omega
    clear hk hT
    by_cases hlt : k < xs.length
    · obtain ⟨b, o, rfl, cx⟩ := HX.out.cell HT.out.fr hlt
      obtain ⟨r1, r2⟩ := RX.out k hlt
      obtain ⟨x, hx⟩ : ∃ x, xs[k]! = x := ⟨_, rfl⟩
      rw [hx] at cx r1 r2
      clear hx
      go_wp2_with fail
      refine (HT.out.put x k r1 r2 (by omega)).mono ?_
      rintro e w3 ⟨rfl, T', L', hT'⟩
      have HT' := Lib.hid hT'
      clear hT' cx
      go_wp2_with fail
      go_roundg (gk - 1)
      case measure => have := HK.out; omega
      case rel => exact ⟨k + 1, T', _, L', by have := HK.out; omega, by go_num, HT'.out⟩
    · go_wp2_with fail
      refine (HT.out.lits (by omega)).mono ?_
      rintro e w3 ⟨A', c', rfl, hi, hn, hf, -⟩
      have hT2 := HT.out.take hf hi hn
      have hlev : ∀ e : St, e ∈ S → e.l ≤ 0 := fun e he => (HT.out.rep.bound e he).2.1
      obtain ⟨was, hwas⟩ : ∃ was, S.map (·.x) = was := ⟨_, rfl⟩
      obtain ⟨n0, hn0⟩ : ∃ n0, S.length = n0 := ⟨_, rfl⟩
      have hwl : was.length = n0 := by rw [← hwas, List.length_map, hn0]
      have hn9 : n0 ≤ 9 := by rw [← hn0]; exact HT.out.rep.len_le
      rw [hwas] at hT2
      rw [hn0]
      have HT2 := Lib.hid hT2
      have HLV := Lib.hid hlev
      have HWS := Lib.hid hwas
      have HN0 := Lib.hid hn0
      have HWL := Lib.hid hwl
      clear hi hn hf hT2 HT hlev hwas hn0 hwl hk2 hlt HK
      go_wp2_with fail
      go_loopg [8] ys.length (fun gk i wr => ∃ (k : Nat) (T : Tr) (S2 : List St) (L : TrL), k + gk = ys.length ∧ i = .int .i64 k ∧ TB w wr a0 T 9 S2 k A' c' was L ∧ S2.filter (fun e : St => decide (e.l ≤ (0 : Int))) = S)
      case atStart => exact ⟨0, T, S, L, by omega, rfl, HT2.out, List.filter_eq_self.2 fun e he => by simpa using HLV.out e he⟩
      case round =>
        clear HT2
        obtain ⟨k, T, S2, L, hk, rfl, hT, hS⟩ := hrel
        have HK := Lib.hid hk
        have HT := Lib.hid hT
        have HS := Lib.hid hS
        have hk2 : k ≤ ys.length := by omega
        clear hk hT hS
        by_cases hlt : k < ys.length
        · obtain ⟨r1, r2⟩ := RY.out k hlt
          obtain ⟨y, hy⟩ : ∃ y, ys[k]! = y := ⟨_, rfl⟩
          rw [hy] at r1 r2
          go_wp2_with fail
          refine (HT.out.deeper (by omega)).mono ?_
          rintro e w4 ⟨rfl, T', L', hT'⟩
          obtain ⟨b, o, rfl, cx⟩ := HY.out.cell hT'.fr hlt
          rw [hy] at cx
          have HT' := Lib.hid hT'
          clear hT' hy
          go_wp2_with fail
          refine (HT'.out.put y k r1 r2 (by omega)).mono ?_
          rintro e w5 ⟨rfl, T2, L2, hT2⟩
          have HT2 := Lib.hid hT2
          clear hT2 cx
          go_wp2_with fail
          go_roundg (gk - 1)
          case measure => have := HK.out; omega
          case rel =>
            refine ⟨k + 1, T2, _, L2, by have := HK.out; omega, by go_num, HT2.out, ?_⟩
            split
            · rw [List.filter_append, HS.out]
              simp
            · exact HS.out
        · have hke : k = ys.length := by omega
          go_wp2_with fail
          refine (HT.out.back 0).mono ?_
          rintro e w4 ⟨rfl, T3, L3, hT3⟩
          have hT4 : TB w w4 a0 T3 9 S 0 A' c' was L3 := by
            simp only [Int.toNat_zero] at hT3
            by_cases h0 : 0 < k
            · rw [if_pos h0, if_pos h0] at hT3
              rw [show S2.filter (fun e : St => decide (e.l ≤ ((0 : Nat) : Int))) = S from HS.out] at hT3
              exact hT3
            · rw [if_neg h0, if_neg h0] at hT3
              have h00 : k = 0 := by omega
              have e2 : S2 = S := by
                rw [← HS.out]
                refine (List.filter_eq_self.2 fun e he => ?_).symm
                have := (HT.out.rep.bound e he).2.1
                simpa [h00] using this
              rw [e2, h00] at hT3
              exact hT3
          have HT4 := Lib.hid hT4
          clear hT3 hT4 HT HS HK hke hlt hk2
          go_wp2_with fail
          go_loopg [9] ys.length (fun gk i wr => ∃ (k : Nat), k + gk = ys.length ∧ i = .int .i64 k ∧ TB w wr a0 T3 9 S 0 A' c' was L3)
          case atStart => exact ⟨0, by omega, rfl, HT4.out⟩
          case round =>
            clear HT4
            obtain ⟨k, hk, rfl, hT⟩ := hrel
            have HK := Lib.hid hk
            have HT := Lib.hid hT
            have hk2 : k ≤ ys.length := by omega
            clear hk hT
            by_cases hlt : k < ys.length
            · obtain ⟨y, hy⟩ : ∃ y, ys[k]! = y := ⟨_, rfl⟩
              have HYE := Lib.hid hy
              clear hy
              go_wp2_with fail
              go_loopg [10, 11] n0 (fun gk s i wr => ∃ (j : Nat) (b : Bool), j + gk = n0 ∧ s = .bool b ∧ i = .int .i64 j ∧ TB w wr a0 T3 9 S 0 A' c' was L3 ∧ Hid (b = false → ∀ m : Nat, m < j → tv was[m]! ≠ tv y))
              case atStart => exact ⟨0, false, by omega, rfl, rfl, HT.out, fun _ m hm => absurd hm (Nat.not_lt_zero _)⟩
              case round =>
                clear HT
                obtain ⟨j, b, hj, rfl, rfl, hT, hb⟩ := hrel
                have HJ := Lib.hid hj
                have HT := Lib.hid hT
                have hj2 : j ≤ n0 := by omega
                clear hj hT
                obtain ⟨r1, r2⟩ := RY.out k hlt
                rw [HYE.out] at r1 r2
                obtain ⟨bb, o, rfl, cy⟩ := HY.out.cell HT.out.fr hlt
                rw [HYE.out] at cy
                by_cases hjl : j < n0
                · have hjw : j < was.length := by rw [HWL.out]; exact hjl
                  obtain ⟨g, rfl, _⟩ := HT.out.was.pos hjw
                  have cw := HT.out.was.cell hjw
                  have hz2 : was[j]! ∈ S.map (·.x) := by rw [HWS.out, List.getElem!_eq_getElem?_getD, List.getElem?_eq_getElem hjw]; exact List.getElem_mem hjw
                  obtain ⟨z, hz⟩ : ∃ z, was[j]! = z := ⟨_, rfl⟩
                  rw [hz] at cw hz2
                  have hzr : -9223372036854775808 ≤ z ∧ z ≤ 9223372036854775807 := by
                    obtain ⟨e, he, rfl⟩ := List.mem_map.1 hz2
                    obtain ⟨_, _, q1, q2⟩ := HT.out.rep.bound e he
                    unfold tv at q1 q2
                    split at q1
                    · omega
                    · split at q1 <;> simp_all <;> omega
                  obtain ⟨z1, z2⟩ := hzr
                  obtain ⟨p, hp⟩ : ∃ p, tv z = p := ⟨_, rfl⟩
                  obtain ⟨q, hq⟩ : ∃ q, tv y = q := ⟨_, rfl⟩
                  have HP := Lib.hid hp
                  have HQ := Lib.hid hq
                  have HZ := Lib.hid hz
                  clear hp hq hz hz2 hjw
                  cases b with
                  | true =>
                    clear hb
                    go_wp2_with fail
                    go_quiet (fail)
                    go_wp2_with fail
                    go_roundg (gk - 1)
                    case measure => have := HJ.out; omega
                    case rel => exact ⟨j + 1, true, by have := HJ.out; omega, rfl, by go_num, HT.out.drewN _, fun h => by cases h⟩
                  | false =>
                    by_cases hpq : p = q
                    · have hbq : (p == q) = true := beq_iff_eq.2 hpq
                      subst hpq
                      clear hb
                      go_wp2_with fail
                      go_quiet ((go_at_call 17; first | exact quiet_s (abs_is _ z p HP.out z1 z2) | exact quiet_s (abs_is _ y p HQ.out r1 r2)))
                      go_wp2_with fail
                      go_roundg (gk - 1)
                      case measure => have := HJ.out; omega
                      case rel => exact ⟨j + 1, true, by have := HJ.out; omega, rfl, by go_num, HT.out.drewN _, fun h => by cases h⟩
                    · have hbq : (p == q) = false := beq_eq_false_iff_ne.2 hpq
                      have hb2 : Hid (∀ m : Nat, m < j + 1 → tv was[m]! ≠ tv y) := fun m hm => by
                        by_cases e : m = j
                        · subst e; rw [HZ.out, HP.out, HQ.out]; exact hpq
                        · exact hb.out rfl m (by omega)
                      clear hb hpq
                      go_wp2_with fail
                      go_quiet ((go_at_call 17; first | exact quiet_s (abs_is _ z p HP.out z1 z2) | exact quiet_s (abs_is _ y q HQ.out r1 r2)))
                      go_wp2_with fail
                      go_roundg (gk - 1)
                      case measure => have := HJ.out; omega
                      case rel => exact ⟨j + 1, false, by have := HJ.out; omega, rfl, by go_num, HT.out.drewN _, fun _ => hb2.out⟩
                · have hje : j = n0 := by omega
                  cases b with
                  | true =>
                    clear hb
                    go_wp2_with fail
                    go_roundg (ys.length - (k + 1))
                    case measure => have := HK.out; omega
                    case rel => exact ⟨k + 1, by have := HK.out; omega, by go_num, HT.out⟩
                  | false =>
                    have hlk : look S (tv y) = none := look_none_was HWS.out HN0.out (fun m hm => hb.out rfl m (by omega))
                    have HV : Hid ((match look S (tv y) with | none => (0 : Int) | some e => if e.x = y then 1 else -1) = 0) := by show _ = _; rw [hlk]
                    clear hb hlk
                    go_wp2_with fail
                    refine (HT.out.value y 0 HV.out r1 r2).mono ?_
                    rintro e w5 ⟨rfl, rfl⟩
                    go_wp2_with fail
                    go_roundg (ys.length - (k + 1))
                    case measure => have := HK.out; omega
                    case rel => exact ⟨k + 1, by have := HK.out; omega, by go_num, HT.out⟩
            · go_wp2_with fail
              refine (HT.out.lits (by omega)).mono ?_
              rintro e w5 ⟨C, c5, rfl, hi, -, -, hT5⟩
              rw [HWS.out] at hi
              have HI := Lib.hid hi
              have HT5 := Lib.hid hT5
              clear hi hT5
              rw [HN0.out]
              go_wp2_with fail
              have hs := ints_same w5 C A' c5 c' was HI.out.rd HT5.out.was.rd (by rw [HWL.out]; omega)
              rw [HWL.out] at hs
              refine hs.mono ?_
              clear hs
              rintro e w6 ⟨rfl, n6, rfl⟩
              go_wp2_with fail
              refine ((HT5.out.drewN n6).depth).mono ?_
              rintro e w7 ⟨rfl, rfl⟩
              go_wp2_with fail
              go_ret
              exact ⟨rfl, HT5.out.fr.drewN n6⟩

end Go.Proofs.Ytnbpnpodpnlamaa
