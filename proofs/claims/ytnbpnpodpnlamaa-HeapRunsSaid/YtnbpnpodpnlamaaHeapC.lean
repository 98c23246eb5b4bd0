/- The heap's walk down. -/
import Derived.Test.YtnbpnpodpnlamaaHeapB
namespace Go.Proofs.Ytnbpnpodpnlamaa
open Go.RowKit

/-- The better one of the two below. -/
def Hp.bestBelow (H : Hp) (i : Nat) : Nat := if 2 * i + 2 < H.items.length ∧ H.aheadB (H.it ((2 * i + 2 : Nat) : Int)) (H.it ((2 * i + 1 : Nat) : Int)) = true then 2 * i + 2 else 2 * i + 1
def Hp.downF (x : Int) : Nat → Hp → Nat → Hp
  | 0, H, i => H.put i x
  | f + 1, H, i => if 2 * i + 1 < H.items.length ∧ H.aheadB (H.it ((H.bestBelow i : Nat) : Int)) x = true then Hp.downF x f (H.put i (H.it ((H.bestBelow i : Nat) : Int))) (H.bestBelow i) else H.put i x
theorem Hp.downF_go {x : Int} {f : Nat} {H : Hp} {i b : Nat} (hb : H.bestBelow i = b) (hi : 2 * i + 1 < H.items.length) (ha : H.aheadB (H.it ((b : Nat) : Int)) x = true) (hf : 1 ≤ f) :
    Hp.downF x f H i = Hp.downF x (f - 1) (H.put i (H.it ((b : Nat) : Int))) b := by
  obtain ⟨f, rfl⟩ : ∃ g, f = g + 1 := ⟨f - 1, by omega⟩
  simp only [Hp.downF, Nat.add_sub_cancel]; rw [hb, if_pos ⟨hi, ha⟩]
theorem Hp.downF_stop {x : Int} {f : Nat} {H : Hp} {i : Nat} (h : ¬ (2 * i + 1 < H.items.length ∧ H.aheadB (H.it ((H.bestBelow i : Nat) : Int)) x = true)) : Hp.downF x f H i = H.put i x := by
  cases f with
  | zero => rfl
  | succ f => simp only [Hp.downF]; rw [if_neg h]

set_option maxHeartbeats 2000000 in
theorem heap_down (w : World) (L : HpL) (H : Hp) (h : HpAt w L H) (hr : H.InR) (i : Nat) (hi1 : i < H.items.length) (hsm : H.items.length ≤ 4611686018427387903) :
    Calls Try.prog 60 #[.pointer (some ⟨L.a, 0, none⟩), .int .i64 i] w fun e w' => e = .returned (.tuple #[]) ∧ HpAt w' L (Hp.downF (H.it i) H.items.length H i) ∧ Fr L.fp w w' := by
  have o0 := h.obj.cell 0
  simp at o0
  obtain ⟨g, hg, ci, fi⟩ := h.items_at (i := i) (by omega) (by omega)
  rw [hg] at o0
  have hx := hr.it (i := i) (by omega) (by omega)
  obtain ⟨x, hxe⟩ : ∃ x, H.it i = x := ⟨_, rfl⟩
  rw [hxe] at ci hx ⊢
  have ci' : w.cell? ⟨g, i, none⟩ = some (.int .i64 x) := by simpa using ci
  clear ci fi hxe
  have hi2 : (i : Int) < H.items.length := by omega
  go_enter Try.func60, Try.ntmps60
  go_wp2
  go_loopw [1, 5] (fun iv kv wr => ∃ (k f : Nat) (K : Hp), iv = .int .i64 k ∧ HpAt wr L K ∧ K.InR ∧ K.items.length = H.items.length ∧ K.at_.length = H.at_.length ∧ k < H.items.length ∧ H.items.length ≤ k + f ∧
      Hid (Hp.downF x H.items.length H i = Hp.downF x f K k) ∧ Fr L.fp w wr) (fun iv _ _ => H.items.length - (intOf iv).toNat)
  case atStart => exact ⟨i, H.items.length, H, rfl, h, hr, rfl, rfl, hi1, by omega, rfl, Fr.refl _ _⟩
  case round =>
    obtain ⟨k, f, K, rfl, hK, hKr, l1, l2, hk, hkf, HE, hfr⟩ := hrel
    have q0 := hK.obj.cell 0
    simp only [l1, hg, List.getElem?_toArray, List.getElem?_cons_zero] at q0
    by_cases hc : 2 * k + 1 < H.items.length
    · have hc' : 2 * (k : Int) + 1 < H.items.length := by omega
      obtain ⟨g', hg', cp, _⟩ := hK.items_at (i := (2 * k + 1 : Nat)) (by omega) (by omega)
      rw [hg] at hg'
      cases hg'
      have hy := hKr.it (i := (2 * k + 1 : Nat)) (by omega) (by omega)
      obtain ⟨y, hye⟩ : ∃ y, K.it ((2 * k + 1 : Nat) : Int) = y := ⟨_, rfl⟩
      rw [hye] at cp hy
      have cp' : wr.cell? ⟨g, 2 * k + 1, none⟩ = some (.int .i64 y) := cp
      clear cp
      have hk1 : (k : Int) < H.items.length := by omega
      have HK := Lib.hid hK
      have HL := Lib.hid l1
      have HM := Lib.hid l2
      -- what the round does with the one that is found
      by_cases hc2 : 2 * k + 2 < H.items.length
      · have hc2' : 2 * (k : Int) + 1 + 1 < H.items.length := by omega
        obtain ⟨g', hg', cp, _⟩ := hK.items_at (i := (2 * k + 2 : Nat)) (by omega) (by omega)
        rw [hg] at hg'
        cases hg'
        have hz := hKr.it (i := (2 * k + 2 : Nat)) (by omega) (by omega)
        obtain ⟨z, hze⟩ : ∃ z, K.it ((2 * k + 2 : Nat) : Int) = z := ⟨_, rfl⟩
        rw [hze] at cp hz
        have cz' : wr.cell? ⟨g, 2 * k + 1 + 1, none⟩ = some (.int .i64 z) := cp
        clear cp
        have e1 : IntKind.i64.wrap (2 * (k : Int) + 1 + 1) = 2 * (k : Int) + 1 + 1 := IntWalk.i64_in _ (by omega)
        have HY := Lib.hid hye
        have HZ := Lib.hid hze
        have HE1 := Lib.hid e1
        cases ha : K.aheadB z y with
        | true =>
          have hb : K.bestBelow k = 2 * k + 2 := by unfold Hp.bestBelow; rw [if_pos ⟨by omega, by rw [hze, hye]; exact ha⟩]
          have HB := Lib.hid hb
          have HA := Lib.hid ha
          clear ha hye hze hb hK l1 l2 e1
          go_wp2_with fail
          have e1 := HE1.out
          have e2 : (2 * (k : Int) + 1 + 1).toNat = 2 * k + 1 + 1 := by omega
          have e3 : (0 : Int) ≤ 2 * (k : Int) + 1 + 1 := by omega
          have e4 : (2 * (k : Int) + 1).toNat = 2 * k + 1 := by omega
          have e5 : (0 : Int) ≤ 2 * (k : Int) + 1 := by omega
          go_quiet ((go_at_call 69; exact quiet_l (heap_ahead_is _ L K (HK.out.drewN _) z y true HA.out hz hy)))
          clear e1 e2 e3 e4 e5
          go_wp2_with fail
          cases ha2 : K.aheadB z x with
          | true =>
            have HS : Hid (Hp.downF x f K k = Hp.downF x (f - 1) (K.put k z) (2 * k + 2)) := by
              have := Hp.downF_go (x := x) (f := f) (H := K) (i := k) HB.out (by rw [HL.out]; exact hc) (by rw [HZ.out]; exact ha2) (by omega)
              rw [HZ.out] at this
              exact this
            have HA2 := Lib.hid ha2
            clear ha2
            refine (heap_ahead_is _ L K (HK.out.drewN _) z x true HA2.out hz (by rw [HM.out]; exact hx)).mono ?_
            rintro e w1 ⟨rfl, n1, rfl⟩
            go_wp2_with fail
            refine (heap_put _ L K (HK.out.drewN _) k z (by omega) (by rw [HL.out]; omega) hz.1 hz.2).mono ?_
            rintro e w1 ⟨rfl, hp, hf1⟩
            have HP := Lib.hid hp
            clear hp
            go_wp2_with fail
            go_roundw
            case rel =>
              exact ⟨2 * k + 2, f - 1, K.put k z, by go_num, HP.out, hKr.put hz.1 hz.2, by rw [Hp.put_items]; exact HL.out, by rw [Hp.put_at]; exact HM.out, by omega, by omega, HE.out.trans HS.out,
                hfr.then_ (((Fr.refl L.fp wr).drewN _).then_ hf1)⟩
            case measure => simp [intOf]; omega
          | false =>
            have HS : Hid (Hp.downF x f K k = K.put k x) := Hp.downF_stop (by rw [HB.out, HZ.out, ha2]; simp)
            have HA2 := Lib.hid ha2
            clear ha2
            refine (heap_ahead_is _ L K (HK.out.drewN _) z x false HA2.out hz (by rw [HM.out]; exact hx)).mono ?_
            rintro e w1 ⟨rfl, n1, rfl⟩
            go_wp2_with fail
            refine (heap_put _ L K (HK.out.drewN _) k x (by omega) (by rw [HL.out]; omega) hx.1 (by rw [HM.out]; exact hx.2)).mono ?_
            rintro e w1 ⟨rfl, hp, hf1⟩
            have HP := Lib.hid hp
            clear hp
            go_wp2_with fail
            go_end0
            exact ⟨rfl, by rw [HE.out, HS.out]; exact HP.out, hfr.then_ (((Fr.refl L.fp wr).drewN _).then_ hf1)⟩
        | false =>
          have hb : K.bestBelow k = 2 * k + 1 := by unfold Hp.bestBelow; rw [if_neg (by rw [hze, hye, ha]; simp)]
          have HB := Lib.hid hb
          have HA := Lib.hid ha
          clear ha hye hze hb hK l1 l2 e1
          go_wp2_with fail
          have e1 := HE1.out
          have e2 : (2 * (k : Int) + 1 + 1).toNat = 2 * k + 1 + 1 := by omega
          have e3 : (0 : Int) ≤ 2 * (k : Int) + 1 + 1 := by omega
          have e4 : (2 * (k : Int) + 1).toNat = 2 * k + 1 := by omega
          have e5 : (0 : Int) ≤ 2 * (k : Int) + 1 := by omega
          go_quiet ((go_at_call 69; exact quiet_l (heap_ahead_is _ L K (HK.out.drewN _) z y false HA.out hz hy)))
          clear e1 e2 e3 e4 e5
          go_wp2_with fail
          cases ha2 : K.aheadB y x with
          | true =>
            have HS : Hid (Hp.downF x f K k = Hp.downF x (f - 1) (K.put k y) (2 * k + 1)) := by
              have := Hp.downF_go (x := x) (f := f) (H := K) (i := k) HB.out (by rw [HL.out]; exact hc) (by rw [HY.out]; exact ha2) (by omega)
              rw [HY.out] at this
              exact this
            have HA2 := Lib.hid ha2
            clear ha2
            refine (heap_ahead_is _ L K (HK.out.drewN _) y x true HA2.out hy (by rw [HM.out]; exact hx)).mono ?_
            rintro e w1 ⟨rfl, n1, rfl⟩
            go_wp2_with fail
            refine (heap_put _ L K (HK.out.drewN _) k y (by omega) (by rw [HL.out]; omega) hy.1 hy.2).mono ?_
            rintro e w1 ⟨rfl, hp, hf1⟩
            have HP := Lib.hid hp
            clear hp
            go_wp2_with fail
            go_roundw
            case rel =>
              exact ⟨2 * k + 1, f - 1, K.put k y, by go_num, HP.out, hKr.put hy.1 hy.2, by rw [Hp.put_items]; exact HL.out, by rw [Hp.put_at]; exact HM.out, by omega, by omega, HE.out.trans HS.out,
                hfr.then_ (((Fr.refl L.fp wr).drewN _).then_ hf1)⟩
            case measure => simp [intOf]; omega
          | false =>
            have HS : Hid (Hp.downF x f K k = K.put k x) := Hp.downF_stop (by rw [HB.out, HY.out, ha2]; simp)
            have HA2 := Lib.hid ha2
            clear ha2
            refine (heap_ahead_is _ L K (HK.out.drewN _) y x false HA2.out hy (by rw [HM.out]; exact hx)).mono ?_
            rintro e w1 ⟨rfl, n1, rfl⟩
            go_wp2_with fail
            refine (heap_put _ L K (HK.out.drewN _) k x (by omega) (by rw [HL.out]; omega) hx.1 (by rw [HM.out]; exact hx.2)).mono ?_
            rintro e w1 ⟨rfl, hp, hf1⟩
            have HP := Lib.hid hp
            clear hp
            go_wp2_with fail
            go_end0
            exact ⟨rfl, by rw [HE.out, HS.out]; exact HP.out, hfr.then_ (((Fr.refl L.fp wr).drewN _).then_ hf1)⟩
      · have hc2' : decide (2 * (k : Int) + 1 + 1 < H.items.length) = false := decide_eq_false (by omega)
        have hb : K.bestBelow k = 2 * k + 1 := by unfold Hp.bestBelow; rw [if_neg (by rw [l1]; omega)]
        have e1 : IntKind.i64.wrap (2 * (k : Int) + 1 + 1) = 2 * (k : Int) + 1 + 1 := IntWalk.i64_in _ (by omega)
        have HB := Lib.hid hb
        have HY := Lib.hid hye
        have HE1 := Lib.hid e1
        clear hye hb hK l1 l2 e1
        go_wp2_with fail
        have e1 := HE1.out
        go_quiet (fail)
        clear e1
        go_wp2_with fail
        cases ha2 : K.aheadB y x with
        | true =>
          have HS : Hid (Hp.downF x f K k = Hp.downF x (f - 1) (K.put k y) (2 * k + 1)) := by
            have := Hp.downF_go (x := x) (f := f) (H := K) (i := k) HB.out (by rw [HL.out]; exact hc) (by rw [HY.out]; exact ha2) (by omega)
            rw [HY.out] at this
            exact this
          have HA2 := Lib.hid ha2
          clear ha2
          refine (heap_ahead_is _ L K (HK.out.drewN _) y x true HA2.out hy (by rw [HM.out]; exact hx)).mono ?_
          rintro e w1 ⟨rfl, n1, rfl⟩
          go_wp2_with fail
          refine (heap_put _ L K (HK.out.drewN _) k y (by omega) (by rw [HL.out]; omega) hy.1 hy.2).mono ?_
          rintro e w1 ⟨rfl, hp, hf1⟩
          have HP := Lib.hid hp
          clear hp
          go_wp2_with fail
          go_roundw
          case rel =>
            exact ⟨2 * k + 1, f - 1, K.put k y, by go_num, HP.out, hKr.put hy.1 hy.2, by rw [Hp.put_items]; exact HL.out, by rw [Hp.put_at]; exact HM.out, by omega, by omega, HE.out.trans HS.out,
              hfr.then_ (((Fr.refl L.fp wr).drewN _).then_ hf1)⟩
          case measure => simp [intOf]; omega
        | false =>
          have HS : Hid (Hp.downF x f K k = K.put k x) := Hp.downF_stop (by rw [HB.out, HY.out, ha2]; simp)
          have HA2 := Lib.hid ha2
          clear ha2
          refine (heap_ahead_is _ L K (HK.out.drewN _) y x false HA2.out hy (by rw [HM.out]; exact hx)).mono ?_
          rintro e w1 ⟨rfl, n1, rfl⟩
          go_wp2_with fail
          refine (heap_put _ L K (HK.out.drewN _) k x (by omega) (by rw [HL.out]; omega) hx.1 (by rw [HM.out]; exact hx.2)).mono ?_
          rintro e w1 ⟨rfl, hp, hf1⟩
          have HP := Lib.hid hp
          clear hp
          go_wp2_with fail
          go_end0
          exact ⟨rfl, by rw [HE.out, HS.out]; exact HP.out, hfr.then_ (((Fr.refl L.fp wr).drewN _).then_ hf1)⟩
    · have HS : Hid (Hp.downF x f K k = K.put k x) := Hp.downF_stop (fun h => hc (by rw [← l1]; exact h.1))
      have hc' : ¬ 2 * (k : Int) + 1 < H.items.length := by omega
      have HK := Lib.hid hK
      have HL := Lib.hid l1
      have HM := Lib.hid l2
      clear hK l1 l2
      go_wp2_with fail
      refine (heap_put _ L K HK.out k x (by omega) (by rw [HL.out]; omega) hx.1 (by rw [HM.out]; exact hx.2)).mono ?_
      rintro e w1 ⟨rfl, hp, hf1⟩
      have HP := Lib.hid hp
      clear hp
      go_wp2_with fail
      go_end0
      exact ⟨rfl, by rw [HE.out, HS.out]; exact HP.out, hfr.then_ hf1⟩

end Go.Proofs.Ytnbpnpodpnlamaa
