/- Values walked. -/
import Derived.Test.YtbjccgahmgpkjaaRunC
import Derived.Test.YtbjccgahmgpkjaaRefF
namespace Go.Proofs.Ytbjccgahmgpkjaa
open Go.RowKit
set_option linter.unusedVariables false

set_option maxRecDepth 100000 in
set_option maxHeartbeats 8000000 in
theorem values_calls (w : World) (H : Hd) (C : Pc) (st inp : ByteArray) (h : CiAt w H C) (hnil : H.iA = none → C.ins.length = 0 ∧ H.iC = 0) (hs : st.size ≤ maxLen) (hi : inp.size ≤ maxLen) :
    Calls Try.prog 10 #[cval H C, .string st, .string inp] w (VaP C st inp w) := by
  have HH := Lib.hid h
  have HS := Lib.hid (Cx.start w H C)
  have N1 : Hid (∀ W, ¬ Valid C → Fr [] w W → VaP C st inp w (.returned (.tuple #[.string ⟨#[]⟩, .int .i64 9])) W) := fun W h1 h2 => ⟨.inl ⟨rfl, h1⟩, h2⟩
  have N2 : Hid (∀ W, Valid C → (bitsB st C.lat.length && bitsB inp C.ins.length) = false → Fr [] w W → VaP C st inp w (.returned (.tuple #[.string ⟨#[]⟩, .int .i64 5])) W) := fun W h1 h2 h3 => ⟨.inr (.inl ⟨rfl, h1, h2⟩), h3⟩
  have YES : Hid (∀ W, Valid C → (bitsB st C.lat.length && bitsB inp C.ins.length) = true → Fr [] w W → VaP C st inp w (.returned (.tuple #[.string (tx (valL C st inp)), .int .i64 0])) W) := fun W h1 h2 h3 => ⟨.inr (.inr ⟨rfl, h1, h2⟩), h3⟩
  have HCK := Lib.hid (fun W (hf : Fr [] w W) => rcheck_calls W H C (h.keep hf) hnil)
  have KST := Lib.hid (fun W => bits_calls W st C.lat.length hs (by have := h.lL; omega))
  have KIN := Lib.hid (fun W => bits_calls W inp C.ins.length hi (by have := h.iL; omega))
  clear h hnil
  obtain ⟨mx, ins, lat, outs, bads, invs, ands, nms⟩ := C
  obtain ⟨iA, iC, lA, lC, oA, oC, bA, bC, vA, vC, gA, gC, nA, nC⟩ := H
  simp only [cval, cvs] at *
  go_enter Try.func10, Try.ntmps10
  have hx := HS.out
  obtain ⟨c0, c1, c2, c3, c4, c5, c6, c7⟩ := hx.cells
  clear hx
  simp only at c0 c1 c2 c3 c4 c5 c6 c7
  go_wp2_with fail
  refine (HCK.out _ HS.out.fr).mono ?_
  clear c0 c1 c2 c3 c4 c5 c6 c7
  rintro e W1 ⟨hc, hf1⟩
  have HX1 := Lib.hid (HS.out.keep hf1)
  clear hf1 HS
  rcases hc with ⟨rfl, hv⟩ | ⟨rfl, hv⟩
  · have HV := Lib.hid hv
    have hm0 := hv.m0
    have hm1 := hv.m1
    have hli := hv.i
    have hll := hv.l
    simp only at hm0 hm1 hli hll
    clear hv
    have hx := HX1.out
    obtain ⟨c0, c1, c2, c3, c4, c5, c6, c7⟩ := hx.cells
    clear hx
    simp only at c0 c1 c2 c3 c4 c5 c6 c7
    obtain ⟨q1, HQ1⟩ : ∃ q, Hid (bitsB st lat.length = q) := ⟨_, rfl⟩
    obtain ⟨q2, HQ2⟩ : ∃ q, Hid (bitsB inp ins.length = q) := ⟨_, rfl⟩
    rw [HQ1.out] at KST N2 YES
    rw [HQ2.out] at KIN N2 YES
    go_wp2_with fail
    refine (KST.out _).mono ?_
    rintro e W2 ⟨rfl, hf2⟩
    have HX2 := Lib.hid (HX1.out.keep hf2)
    clear hf2 c0 c1 c2 c3 c4 c5 c6 c7
    have hx := HX2.out
    obtain ⟨c0, c1, c2, c3, c4, c5, c6, c7⟩ := hx.cells
    clear hx
    simp only at c0 c1 c2 c3 c4 c5 c6 c7
    cases q1 with
    | false =>
      go_wp2_with fail
      go_ret2
      exact N2.out _ HV.out rfl HX2.out.fr
    | true =>
      go_wp2_with fail
      refine (KIN.out _).mono ?_
      rintro e W3 ⟨rfl, hf3⟩
      have HX3 := Lib.hid (HX2.out.keep hf3)
      clear hf3 c0 c1 c2 c3 c4 c5 c6 c7
      cases q2 with
      | false =>
        go_wp2_with fail
        go_ret2
        exact N2.out _ HV.out rfl HX3.out.fr
      | true =>
        obtain ⟨M, hM⟩ := Int.eq_ofNat_of_zero_le hm0
        have HM := Lib.hid hM
        have HZ : Hid (List.replicate (M + 1) 48 = zrL ⟨mx, ins, lat, outs, bads, invs, ands, nms⟩) := (by simp only [zrL]; rw [hM]; congr 1 : List.replicate (M + 1) 48 = zrL ⟨mx, ins, lat, outs, bads, invs, ands, nms⟩)
        have hzl : (zrL ⟨mx, ins, lat, outs, bads, invs, ands, nms⟩).length = M + 1 := by rw [← HZ.out]; simp
        have hst : st.size = lat.length := bitsB_size HQ1.out
        have hin : inp.size = ins.length := bitsB_size HQ2.out
        clear hM HQ1 HQ2 KST KIN HCK N1 N2 HX1 HX2
        go_wp2_with fail
        go_loopg [8, 9] (M + 1) (fun g s i wr => ∃ k : Nat, k + g = M + 1 ∧ s = .string (tx (List.replicate k 48)) ∧ i = .int .i64 k ∧ Cx w wr ⟨iA, iC, lA, lC, oA, oC, bA, bC, vA, vC, gA, gC, nA, nC⟩ ⟨mx, ins, lat, outs, bads, invs, ands, nms⟩)
        case atStart => exact ⟨0, by omega, rfl, rfl, HX3.out⟩
        case round =>
          obtain ⟨k, hk, rfl, rfl, hx⟩ := hrel
          have HK := Lib.hid hk
          have HX := Lib.hid hx
          have hkn : k ≤ M + 1 := by omega
          have hz := tx_size (List.replicate k 48)
          rw [List.length_replicate] at hz
          have HE : Hid (tx (List.replicate k 48) ++ ⟨#[48]⟩ = tx (List.replicate (k + 1) 48)) := (by rw [tx_snoc, List.replicate_succ'] : tx (List.replicate k 48) ++ ⟨#[48]⟩ = tx (List.replicate (k + 1) 48))
          clear hk HX3
          have c0 := hx.cells.1
          simp only at c0
          clear hx
          by_cases hlt : k < M + 1
          · have d1 : decide ((k : Int) ≤ mx) = true := decide_eq_true (by have := HM.out; omega)
            have d2 : (k : Int) ≤ mx := by have := HM.out; omega
            obtain ⟨s, hs⟩ : ∃ s, tx (List.replicate k 48) = s := ⟨_, rfl⟩
            rw [hs] at hz HE ⊢
            clear hs
            go_wp2_with fail
            go_roundg (gk - 1)
            case measure => have := HK.out; omega
            case rel => exact ⟨k + 1, by have := HK.out; omega, by rw [HE.out], by go_num, HX.out⟩
          · obtain rfl : k = M + 1 := by omega
            have d1 : decide (((M + 1 : Nat) : Int) ≤ mx) = false := decide_eq_false (by have := HM.out; omega)
            have d2 : ¬ ((M + 1 : Nat) : Int) ≤ mx := by have := HM.out; omega
            rw [HZ.out] at hz ⊢
            have HX4 := Lib.hid HX.out
            clear HE HK HX
            obtain ⟨v0, hv0⟩ : ∃ v0, zrL ⟨mx, ins, lat, outs, bads, invs, ands, nms⟩ = v0 := ⟨_, rfl⟩
            have HV0 := Lib.hid hv0
            rw [hv0] at hz hzl ⊢
            clear hv0 HZ
            go_wp2_with fail
            clear hkn hlt d1 d2 c0
            go_loopg [8, 10] ins.length (fun g s i wr => ∃ k : Nat, k + g = ins.length ∧ s = .string (tx (insL ins inp.data.toList v0 k)) ∧ i = .int .i64 k ∧ Cx w wr ⟨iA, iC, lA, lC, oA, oC, bA, bC, vA, vC, gA, gC, nA, nC⟩ ⟨mx, ins, lat, outs, bads, invs, ands, nms⟩)
            case atStart => exact ⟨0, by omega, rfl, rfl, HX4.out⟩
            case round =>
              obtain ⟨k, hk, rfl, rfl, hx⟩ := hrel
              have HK := Lib.hid hk
              have HX := Lib.hid hx
              have hkn : k ≤ ins.length := by omega
              clear hk HX4
              obtain ⟨c0, c1, c2, c3, c4, c5, c6, c7⟩ := hx.cells
              clear hx
              simp only at c0 c1 c2 c3 c4 c5 c6 c7
              by_cases hlt : k < ins.length
              · obtain ⟨b, o, x, hA, he, cx, hx1, hx2⟩ := (HH.out.keep HX.out.fr).i.one HH.out.ir hlt
                have hA : iA = some ⟨b, o, none⟩ := hA
                subst hA
                have hown := ins_own HV.out k hlt
                rw [he.out] at hown
                simp only at hown
                obtain ⟨n, hn⟩ : ∃ n : Nat, x / 2 = n := ⟨(x / 2).toNat, by omega⟩
                have hki : k < inp.size := by omega
                have hch : inp.data.toList[k]! = inp[k] := by
                  rw [List.getElem!_eq_getElem?_getD, List.getElem?_eq_getElem (show k < inp.data.toList.length by rw [show inp.data.toList.length = inp.size from Array.length_toList]; exact hki)]
                  rfl
                have hvl : (insL ins inp.data.toList v0 k).length = M + 1 := by rw [insL_len]; exact hzl
                have HE : Hid ((insL ins inp.data.toList v0 k).set n inp[k] = insL ins inp.data.toList v0 (k + 1)) := (by
                  rw [insL, he.out, hn, hch]; rfl : (insL ins inp.data.toList v0 k).set n inp[k] = insL ins inp.data.toList v0 (k + 1))
                have KS := Lib.hid (fun W => set_calls W (insL ins inp.data.toList v0 k) n inp[k] (by rw [hvl]; have := HM.out; omega) (by have := HM.out; omega))
                rw [HE.out, ← IntWalk.wrap64_in (n : Int) ⟨by omega, by have := HM.out; omega⟩] at KS
                have ex := Ext.cell cx
                obtain ⟨e0, e1, e2, e3, e4, e5, e6, e7⟩ := HX.out.ext; simp only at e0 e1 e2 e3 e4 e5 e6 e7
                have hq : x.tdiv 2 = (n : Int) := by rw [Int.tdiv_eq_ediv_of_nonneg (by omega)]; exact hn
                have hsz := tx_size (insL ins inp.data.toList v0 k)
                clear hvl hch hn HE
                generalize tx (insL ins inp.data.toList v0 k) = s at KS hsz ⊢
                clear hsz
                go_wp2_with fail
                refine wp_region_ext (by kernel_rfl) (by kernel_rfl) ?_
                repeat (go_big_quiet_step (exact call_ext (KS.out _)))
                refine wpQuiet_nil ?_
                rintro w2 ⟨u2, hu2⟩
                have HF_w2 : Hid (Fr [] wr w2) := hu2 ▸ u2.fr
                clear hu2 u2
                clear c0 c1 c2 c3 c4 c5 c6 c7 cx ex e0 e1 e2 e3 e4 e5 e6 e7
                go_wp2_with fail
                go_roundg (gk - 1)
                case measure => have := HK.out; omega
                case rel => exact ⟨k + 1, by have := HK.out; omega, rfl, by go_num, HX.out.keep HF_w2.out⟩
              · obtain rfl : k = ins.length := by omega
                have HX5 := Lib.hid HX.out
                have hvl : (insL ins inp.data.toList v0 ins.length).length = M + 1 := by rw [insL_len]; exact hzl
                obtain ⟨v1, hv1⟩ : ∃ v1, insL ins inp.data.toList v0 ins.length = v1 := ⟨_, rfl⟩
                have HV1 := Lib.hid hv1
                rw [hv1] at hvl ⊢
                clear hv1 HK HX hz hzl
                go_wp2_with fail
                clear c0 c1 c2 c3 c4 c5 c6 c7 hkn hlt
                go_loopg [8, 11] lat.length (fun g s i wr => ∃ k : Nat, k + g = lat.length ∧ s = .string (tx (latL lat st.data.toList v1 k)) ∧ i = .int .i64 k ∧ Cx w wr ⟨iA, iC, lA, lC, oA, oC, bA, bC, vA, vC, gA, gC, nA, nC⟩ ⟨mx, ins, lat, outs, bads, invs, ands, nms⟩)
                case atStart => exact ⟨0, by omega, rfl, rfl, HX5.out⟩
                case round =>
                  obtain ⟨k, hk, rfl, rfl, hx⟩ := hrel
                  have HK := Lib.hid hk
                  have HX := Lib.hid hx
                  have hkn : k ≤ lat.length := by omega
                  clear hk HX5
                  obtain ⟨c0, c1, c2, c3, c4, c5, c6, c7⟩ := hx.cells
                  clear hx
                  simp only at c0 c1 c2 c3 c4 c5 c6 c7
                  by_cases hlt : k < lat.length
                  · obtain ⟨b, o, x, y, z, hA, he, cx, cy, cz, ⟨hx1, hx2⟩, ⟨hy1, hy2⟩, hz1, hz2⟩ := (HH.out.keep HX.out.fr).l.one HH.out.lr hlt
                    have hA : lA = some ⟨b, o, none⟩ := hA
                    subst hA
                    have hown := lat_own HV.out k hlt
                    rw [he.out] at hown
                    simp only at hown
                    obtain ⟨n, hn⟩ : ∃ n : Nat, x / 2 = n := ⟨(x / 2).toNat, by omega⟩
                    have hki : k < st.size := by omega
                    have hch : st.data.toList[k]! = st[k] := by
                      rw [List.getElem!_eq_getElem?_getD, List.getElem?_eq_getElem (show k < st.data.toList.length by rw [show st.data.toList.length = st.size from Array.length_toList]; exact hki)]
                      rfl
                    have hvl2 : (latL lat st.data.toList v1 k).length = M + 1 := by rw [latL_len]; exact hvl
                    have HE : Hid ((latL lat st.data.toList v1 k).set n st[k] = latL lat st.data.toList v1 (k + 1)) := (by
                      rw [latL, he.out, hn, hch]; rfl : (latL lat st.data.toList v1 k).set n st[k] = latL lat st.data.toList v1 (k + 1))
                    have KS := Lib.hid (fun W => set_calls W (latL lat st.data.toList v1 k) n st[k] (by rw [hvl2]; have := HM.out; omega) (by have := HM.out; omega))
                    rw [HE.out, ← IntWalk.wrap64_in (n : Int) ⟨by omega, by have := HM.out; omega⟩] at KS
                    have ex := Ext.cell cx
                    obtain ⟨e0, e1, e2, e3, e4, e5, e6, e7⟩ := HX.out.ext; simp only at e0 e1 e2 e3 e4 e5 e6 e7
                    have hq : x.tdiv 2 = (n : Int) := by rw [Int.tdiv_eq_ediv_of_nonneg (by omega)]; exact hn
                    clear hvl2 hch hn HE cy cz
                    generalize tx (latL lat st.data.toList v1 k) = s at KS ⊢
                    go_wp2_with fail
                    refine wp_region_ext (by kernel_rfl) (by kernel_rfl) ?_
                    repeat (go_big_quiet_step (exact call_ext (KS.out _)))
                    refine wpQuiet_nil ?_
                    rintro w2 ⟨u2, hu2⟩
                    have HF_w2 : Hid (Fr [] wr w2) := hu2 ▸ u2.fr
                    clear hu2 u2
                    clear c0 c1 c2 c3 c4 c5 c6 c7 cx ex e0 e1 e2 e3 e4 e5 e6 e7
                    go_wp2_with fail
                    go_roundg (gk - 1)
                    case measure => have := HK.out; omega
                    case rel => exact ⟨k + 1, by have := HK.out; omega, rfl, by go_num, HX.out.keep HF_w2.out⟩
                  · obtain rfl : k = lat.length := by omega
                    have HX6 := Lib.hid HX.out
                    have hvl2 : (latL lat st.data.toList v1 lat.length).length = M + 1 := by rw [latL_len]; exact hvl
                    obtain ⟨v2, hv2⟩ : ∃ v2, latL lat st.data.toList v1 lat.length = v2 := ⟨_, rfl⟩
                    have HV2 : Hid (v2 = preL ⟨mx, ins, lat, outs, bads, invs, ands, nms⟩ st inp) := (by
                      simp only [preL]
                      rw [HV0.out, HV1.out, hv2] : v2 = preL ⟨mx, ins, lat, outs, bads, invs, ands, nms⟩ st inp)
                    rw [hv2] at hvl2 ⊢
                    clear hv2 HK HX hvl HV1 HV0
                    go_wp2_with fail
                    clear c0 c1 c2 c3 c4 c5 c6 c7 hkn hlt
                    go_loopg [8, 12] ands.length (fun g s i wr => ∃ k : Nat, k + g = ands.length ∧ s = .string (tx (gtL ands v2 k)) ∧ i = .int .i64 k ∧ Cx w wr ⟨iA, iC, lA, lC, oA, oC, bA, bC, vA, vC, gA, gC, nA, nC⟩ ⟨mx, ins, lat, outs, bads, invs, ands, nms⟩)
                    case atStart => exact ⟨0, by omega, rfl, rfl, HX6.out⟩
                    case round =>
                      obtain ⟨k, hk, rfl, rfl, hx⟩ := hrel
                      have HK := Lib.hid hk
                      have HX := Lib.hid hx
                      have hkn : k ≤ ands.length := by omega
                      have hgL := HH.out.gL
                      simp only at hgL
                      clear hk HX6
                      obtain ⟨c0, c1, c2, c3, c4, c5, c6, c7⟩ := hx.cells
                      clear hx
                      simp only at c0 c1 c2 c3 c4 c5 c6 c7
                      by_cases hlt : k < ands.length
                      · obtain ⟨b, o, x, y, z, hA, he, cx, cy, cz, ⟨hx1, hx2⟩, ⟨hy1, hy2⟩, hz1, hz2⟩ := (HH.out.keep HX.out.fr).g.one HH.out.gr hlt
                        have hA : gA = some ⟨b, o, none⟩ := hA
                        subst hA
                        have hown := own_get _ HV.out k hlt
                        have hlit := and_lits HV.out k hlt
                        rw [he.out] at hown hlit
                        simp only at hown hlit
                        have hlb := lit_le HV.out hlit.1
                        have hlc := lit_le HV.out hlit.2.1
                        simp only at hlb hlc
                        obtain ⟨n, hn⟩ : ∃ n : Nat, x / 2 = n := ⟨(x / 2).toNat, by omega⟩
                        obtain ⟨v3, hv3⟩ : ∃ v3, gtL ands v2 k = v3 := ⟨_, rfl⟩
                        have hvl3 : v3.length = M + 1 := by rw [← hv3, gtL_len]; exact hvl2
                        have HE : Hid (gtL ands v2 (k + 1) = if trL v3 y && trL v3 z then v3.set n 49 else v3) := (by
                          rw [gtL, he.out, hv3, gtL1, hn]; rfl : gtL ands v2 (k + 1) = if trL v3 y && trL v3 z then v3.set n 49 else v3)
                        have KB := Lib.hid (fun W => true_calls W v3 y hlb.1 (by omega) (by have := HM.out; omega))
                        have KC := Lib.hid (fun W => true_calls W v3 z hlc.1 (by omega) (by have := HM.out; omega))
                        have KS := Lib.hid (fun W => set_calls W v3 n 49 (by rw [hvl3]; have := HM.out; omega) (by have := HM.out; omega))
                        have h49 : ((49 : UInt8).toNat : Int) = 49 := rfl
                        rw [h49, ← IntWalk.wrap64_in (n : Int) ⟨by omega, by have := HM.out; omega⟩] at KS
                        have hq : x.tdiv 2 = (n : Int) := by rw [Int.tdiv_eq_ediv_of_nonneg (by omega)]; exact hn
                        rw [hv3]
                        obtain ⟨qb, HQB⟩ : ∃ q, Hid (trL v3 y = q) := ⟨_, rfl⟩
                        obtain ⟨qc, HQC⟩ : ∃ q, Hid (trL v3 z = q) := ⟨_, rfl⟩
                        rw [HQB.out] at KB HE
                        rw [HQC.out] at KC HE
                        clear hv3 hn hlit h49
                        go_wp2_with fail
                        refine (KB.out _).mono ?_
                        rintro e wA ⟨rfl, hfA⟩
                        have HXA := Lib.hid (HX.out.keep hfA)
                        have cxA := hfA.cellS cx
                        have czA := hfA.cellS cz
                        clear cx cy cz hfA HX c0 c1 c2 c3 c4 c5 c6 c7
                        have hx := HXA.out
                        obtain ⟨c0, c1, c2, c3, c4, c5, c6, c7⟩ := hx.cells
                        clear hx
                        simp only at c0 c1 c2 c3 c4 c5 c6 c7
                        cases qb with
                        | false =>
                          simp only [Bool.false_and, Bool.false_eq_true, if_false] at HE
                          go_wp2_with fail
                          go_roundg (gk - 1)
                          case measure => have := HK.out; omega
                          case rel => exact ⟨k + 1, by have := HK.out; omega, by rw [HE.out], by go_num, HXA.out⟩
                        | true =>
                          go_wp2_with fail
                          refine (KC.out _).mono ?_
                          rintro e wB ⟨rfl, hfB⟩
                          have HXB := Lib.hid (HXA.out.keep hfB)
                          have cxB := hfB.cellS cxA
                          clear cxA czA hfB HXA c0 c1 c2 c3 c4 c5 c6 c7
                          have hx := HXB.out
                          obtain ⟨c0, c1, c2, c3, c4, c5, c6, c7⟩ := hx.cells
                          clear hx
                          simp only at c0 c1 c2 c3 c4 c5 c6 c7
                          cases qc with
                          | false =>
                            simp only [Bool.and_false, Bool.false_eq_true, if_false] at HE
                            go_wp2_with fail
                            go_roundg (gk - 1)
                            case measure => have := HK.out; omega
                            case rel => exact ⟨k + 1, by have := HK.out; omega, by rw [HE.out], by go_num, HXB.out⟩
                          | true =>
                            simp only [Bool.and_self, if_true] at HE
                            go_wp2_with fail
                            refine (KS.out _).mono ?_
                            rw [← HE.out]
                            rintro e wC ⟨rfl, hfC⟩
                            have HXC := Lib.hid (HXB.out.keep hfC)
                            clear cxB hfC HXB c0 c1 c2 c3 c4 c5 c6 c7
                            go_wp2_with fail
                            go_roundg (gk - 1)
                            case measure => have := HK.out; omega
                            case rel => exact ⟨k + 1, by have := HK.out; omega, rfl, by go_num, HXC.out⟩
                      · obtain rfl : k = ands.length := by omega
                        have HE : Hid (gtL ands v2 ands.length = valL ⟨mx, ins, lat, outs, bads, invs, ands, nms⟩ st inp) := (by simp only [valL]; rw [HV2.out] : gtL ands v2 ands.length = valL ⟨mx, ins, lat, outs, bads, invs, ands, nms⟩ st inp)
                        rw [HE.out]
                        go_wp2_with fail
                        go_ret2
                        exact YES.out _ HV.out rfl HX.out.fr
  · go_wp2_with fail
    go_ret2
    exact N1.out _ hv HX1.out.fr

end Go.Proofs.Ytbjccgahmgpkjaa
