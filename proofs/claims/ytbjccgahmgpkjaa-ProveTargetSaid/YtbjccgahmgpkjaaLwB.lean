/- ProveTarget walked. -/
import Derived.Test.YtbjccgahmgpkjaaLwA
namespace Go.Proofs.Ytbjccgahmgpkjaa
open Go.RowKit
set_option linter.unusedVariables false

theorem OwC.nil_ {w : World} {B : Nat} {H : Hd} {C : Pc} (h : OwC w B H C) : H.iA = none → C.ins.length = 0 ∧ H.iC = 0 := fun e => by
  rcases own_slot h.i.1 with ⟨_, h1, h2⟩ | ⟨g, h1, _⟩
  · exact ⟨h2, h1⟩
  · rw [h1] at e; cases e
theorem OwC.keep0 {w w' : World} {B : Nat} {H : Hd} {C : Pc} (h : OwC w B H C) (hf : Fr [] w w') : OwC w' B H C := h.keep hf (fun k hk => by cases hk)

set_option maxRecDepth 100000 in
set_option maxHeartbeats 8000000 in
theorem law_calls (w : World) (H : Hd) (C : Pc) (h : CiAt w H C) (hn : NilOk H C) (A : Option Addr) (c : Nat) (xs : List Int) (hx : Rd w A xs) (hr : Ra xs) (hl : xs.length ≤ 17592186044416) (hc : xs.length ≤ c) (hcm : c ≤ maxLen) (st inp : ByteArray) (hs : st.size ≤ maxLen) (hi : inp.size ≤ maxLen) :
    Calls Try.prog 3 #[cval H C, .slice A xs.length c, .string st, .string inp] w fun e w' => e = .returned (.bool true) ∧ Fr [] w w' := by
  have HH := Lib.hid h
  have HX := Lib.hid hx
  have HR := Lib.hid hr
  have HAL := Lib.hid alive_calls
  have HT := Lib.hid (fun W (hf : Fr [] w W) => target_calls W H C (h.keep hf) hn A c xs (hx.keep hf) hr hl hc hcm)
  have HCK := Lib.hid (fun W (hf : Fr [] w W) => rcheck_calls W H C (h.keep hf) hn.i)
  have HVA := Lib.hid (fun W (hf : Fr [] w W) => values_calls W H C st inp (h.keep hf) hn.i hs hi)
  have HNX := Lib.hid (fun W (hf : Fr [] w W) => next_calls W H C st inp (h.keep hf) hn.i hs hi)
  have HS := Lib.hid (Cx.start w H C)
  clear h hn hx hr
  obtain ⟨mx, ins, lat, outs, bads, invs, ands, nms⟩ := C
  obtain ⟨iA, iC, lA, lC, oA, oC, bA, bC, vA, vC, gA, gC, nA, nC⟩ := H
  simp only [cval, cvs] at *
  go_enter Try.func3, Try.ntmps3
  go_wp2_with fail
  refine (HAL.out _).mono ?_
  rintro e W1 ⟨rfl, hf1⟩
  have HX1 := Lib.hid (HS.out.keep hf1)
  clear hf1 HS HAL
  have hx := HX1.out
  obtain ⟨c0, c1, c2, c3, c4, c5, c6, c7⟩ := hx.cells
  clear hx
  simp only at c0 c1 c2 c3 c4 c5 c6 c7
  go_wp2_with fail
  refine (HT.out _ HX1.out.fr).mono ?_
  clear c0 c1 c2 c3 c4 c5 c6 c7
  rintro e W2 ⟨hc4, hf2⟩
  have HX2 := Lib.hid (HX1.out.keep hf2)
  have hs2 : W1.heap.size ≤ W2.heap.size := hf2.size
  have hsx : w.heap.size < W2.heap.size := HX2.out.lt
  clear hf2 HT HX1
  have hx := HX2.out
  obtain ⟨c0, c1, c2, c3, c4, c5, c6, c7⟩ := hx.cells
  clear hx
  simp only at c0 c1 c2 c3 c4 c5 c6 c7
  rcases hc4 with ⟨rfl, hv⟩ | ⟨rfl, hv, hq⟩ | ⟨rfl, hv, hq, hlong⟩ | ⟨H', rfl, hv, hq, hlong, ho⟩
  · unfold z0
    go_upto_region 4 with fail
    clear c0 c1 c2 c3 c4 c5 c6 c7
    obtain ⟨W3, hW3⟩ : ∃ W, W2.alloc (.cells #[.int .i64 0, .slice none 0 0, .slice none 0 0, .slice none 0 0, .slice none 0 0, .slice none 0 0, .slice none 0 0, .slice none 0 0] 27) = W := ⟨_, rfl⟩
    rw [hW3]
    have HX3 : Hid (Cx w W3 ⟨iA, iC, lA, lC, oA, oC, bA, bC, vA, vC, gA, gC, nA, nC⟩ ⟨mx, ins, lat, outs, bads, invs, ands, nms⟩) := hW3 ▸ HX2.out.keep (box_fr _ _)
    have HOB3 : Hid (At W3 W2.heap.size 27 #[.int .i64 0, .slice none 0 0, .slice none 0 0, .slice none 0 0, .slice none 0 0, .slice none 0 0, .slice none 0 0, .slice none 0 0]) := hW3 ▸ At.new _ _ _
    have hf23 : Fr [] W2 W3 := hW3 ▸ box_fr _ _
    obtain ⟨ob, hob⟩ : ∃ ob, W2.heap.size = ob := ⟨_, rfl⟩
    rw [hob] at HOB3 ⊢
    clear hW3 HX2
    have hx := HX3.out
    obtain ⟨c0, c1, c2, c3, c4, c5, c6, c7⟩ := hx.cells
    clear hx
    simp only at c0 c1 c2 c3 c4 c5 c6 c7
    go_wp2_with fail
    refine (HCK.out _ HX3.out.fr).mono ?_
    clear c0 c1 c2 c3 c4 c5 c6 c7
    rintro e W4 ⟨hc4, hf4⟩
    have HX4 := Lib.hid (HX3.out.keep hf4)
    have HOB4 := Lib.hid (HOB3.out.keep hf4)
    clear HX3 HOB3
    rcases hc4 with ⟨rfl, hv2⟩ | ⟨rfl, hv2⟩
    · exact absurd hv2 hv
    · have o4 := HOB4.out.cell 4
      simp at o4
      go_wp2_with fail
      go_ret
      exact ⟨rfl, HX4.out.fr⟩
  · unfold z0
    go_upto_region 4 with fail
    clear c0 c1 c2 c3 c4 c5 c6 c7
    obtain ⟨W3, hW3⟩ : ∃ W, W2.alloc (.cells #[.int .i64 0, .slice none 0 0, .slice none 0 0, .slice none 0 0, .slice none 0 0, .slice none 0 0, .slice none 0 0, .slice none 0 0] 27) = W := ⟨_, rfl⟩
    rw [hW3]
    have HX3 : Hid (Cx w W3 ⟨iA, iC, lA, lC, oA, oC, bA, bC, vA, vC, gA, gC, nA, nC⟩ ⟨mx, ins, lat, outs, bads, invs, ands, nms⟩) := hW3 ▸ HX2.out.keep (box_fr _ _)
    have HOB3 : Hid (At W3 W2.heap.size 27 #[.int .i64 0, .slice none 0 0, .slice none 0 0, .slice none 0 0, .slice none 0 0, .slice none 0 0, .slice none 0 0, .slice none 0 0]) := hW3 ▸ At.new _ _ _
    have hf23 : Fr [] W2 W3 := hW3 ▸ box_fr _ _
    obtain ⟨ob, hob⟩ : ∃ ob, W2.heap.size = ob := ⟨_, rfl⟩
    rw [hob] at HOB3 ⊢
    clear hW3 HX2
    have hx := HX3.out
    obtain ⟨c0, c1, c2, c3, c4, c5, c6, c7⟩ := hx.cells
    clear hx
    simp only at c0 c1 c2 c3 c4 c5 c6 c7
    go_wp2_with fail
    refine (HCK.out _ HX3.out.fr).mono ?_
    clear c0 c1 c2 c3 c4 c5 c6 c7
    rintro e W4 ⟨hc4, hf4⟩
    have HX4 := Lib.hid (HX3.out.keep hf4)
    have HOB4 := Lib.hid (HOB3.out.keep hf4)
    clear HX3 HOB3
    rcases hc4 with ⟨rfl, hv2⟩ | ⟨rfl, hv2⟩
    · have hm0 := hv.m0
      have hm1 := hv.m1
      simp only at hm0 hm1 hq
      have HWI := Lib.hid (fun W (hf : Fr [] w W) => within_calls W mx A c xs hm0 hm1 (HX.out.keep hf) HR.out hl)
      rw [hq] at HWI
      have hx := HX4.out
      obtain ⟨c0, c1, c2, c3, c4, c5, c6, c7⟩ := hx.cells
      clear hx
      simp only at c0 c1 c2 c3 c4 c5 c6 c7
      go_wp2_with fail
      refine (HWI.out _ HX4.out.fr).mono ?_
      rintro e W5 ⟨rfl, rfl⟩
      have o4 := HOB4.out.cell 4
      simp at o4
      go_wp2_with fail
      go_ret
      exact ⟨rfl, HX4.out.fr⟩
    · exact absurd hv hv2
  · unfold z0
    go_upto_region 4 with fail
    clear c0 c1 c2 c3 c4 c5 c6 c7
    obtain ⟨W3, hW3⟩ : ∃ W, W2.alloc (.cells #[.int .i64 0, .slice none 0 0, .slice none 0 0, .slice none 0 0, .slice none 0 0, .slice none 0 0, .slice none 0 0, .slice none 0 0] 27) = W := ⟨_, rfl⟩
    rw [hW3]
    have HX3 : Hid (Cx w W3 ⟨iA, iC, lA, lC, oA, oC, bA, bC, vA, vC, gA, gC, nA, nC⟩ ⟨mx, ins, lat, outs, bads, invs, ands, nms⟩) := hW3 ▸ HX2.out.keep (box_fr _ _)
    have HOB3 : Hid (At W3 W2.heap.size 27 #[.int .i64 0, .slice none 0 0, .slice none 0 0, .slice none 0 0, .slice none 0 0, .slice none 0 0, .slice none 0 0, .slice none 0 0]) := hW3 ▸ At.new _ _ _
    have hf23 : Fr [] W2 W3 := hW3 ▸ box_fr _ _
    obtain ⟨ob, hob⟩ : ∃ ob, W2.heap.size = ob := ⟨_, rfl⟩
    rw [hob] at HOB3 ⊢
    clear hW3 HX2
    have hx := HX3.out
    obtain ⟨c0, c1, c2, c3, c4, c5, c6, c7⟩ := hx.cells
    clear hx
    simp only at c0 c1 c2 c3 c4 c5 c6 c7
    go_wp2_with fail
    refine (HCK.out _ HX3.out.fr).mono ?_
    clear c0 c1 c2 c3 c4 c5 c6 c7
    rintro e W4 ⟨hc4, hf4⟩
    have HX4 := Lib.hid (HX3.out.keep hf4)
    have HOB4 := Lib.hid (HOB3.out.keep hf4)
    clear HX3 HOB3
    rcases hc4 with ⟨rfl, hv2⟩ | ⟨rfl, hv2⟩
    · have hm0 := hv.m0
      have hm1 := hv.m1
      simp only at hm0 hm1 hq
      have HWI := Lib.hid (fun W (hf : Fr [] w W) => within_calls W mx A c xs hm0 hm1 (HX.out.keep hf) HR.out hl)
      rw [hq] at HWI
      have hx := HX4.out
      obtain ⟨c0, c1, c2, c3, c4, c5, c6, c7⟩ := hx.cells
      clear hx
      simp only at c0 c1 c2 c3 c4 c5 c6 c7
      go_wp2_with fail
      refine (HWI.out _ HX4.out.fr).mono ?_
      rintro e W5 ⟨rfl, rfl⟩
      have d1 : decide (2048 - mx < (xs.length : Int) - 1) = true := decide_eq_true hlong
      have o4 := HOB4.out.cell 4
      simp at o4
      go_wp2_with fail
      go_ret
      exact ⟨rfl, HX4.out.fr⟩
    · exact absurd hv hv2
  · have HDA := Lib.hid (OwC.at_ ho (HH.out.keep HX2.out.fr) hv hq hlong)
    have HDN := Lib.hid ho.nil_
    obtain ⟨iA', iC', lA', lC', oA', oC', bA', bC', vA', vC', gA', gC', nA', nC'⟩ := H'
    have ht1 : ins = (tgt ⟨mx, ins, lat, outs, bads, invs, ands, nms⟩ xs).ins := by cases xs <;> rfl
    have ht2 : lat = (tgt ⟨mx, ins, lat, outs, bads, invs, ands, nms⟩ xs).lat := by cases xs <;> rfl
    have ht4 : (tgt ⟨mx, ins, lat, outs, bads, invs, ands, nms⟩ xs).bads.length = 1 := by cases xs <;> rfl
    have HTV := Lib.hid (fun hk => tgt_valid hv xs hk hlong)
    have HTL := Lib.hid (fun hk => tgt_law hv xs hk st inp)
    have HBE : Hid (ins.length = (tgt ⟨mx, ins, lat, outs, bads, invs, ands, nms⟩ xs).ins.length ∧ lat.length = (tgt ⟨mx, ins, lat, outs, bads, invs, ands, nms⟩ xs).lat.length) := ⟨by rw [← ht1], by rw [← ht2]⟩
    have HL3 : Hid ((∀ x ∈ xs, litB ⟨mx, ins, lat, outs, bads, invs, ands, nms⟩ x = true) → nxtL (tgt ⟨mx, ins, lat, outs, bads, invs, ands, nms⟩ xs) st inp = nxtL ⟨mx, ins, lat, outs, bads, invs, ands, nms⟩ st inp) := fun hk => (tgt_law hv xs hk st inp).2
    obtain ⟨D, hD⟩ : ∃ D, tgt ⟨mx, ins, lat, outs, bads, invs, ands, nms⟩ xs = D := ⟨_, rfl⟩
    rw [hD] at HDA HDN ht1 ht2 ht4 HTV HTL HL3 HBE
    rw [hD]
    clear hD ho
    obtain ⟨mx', ins', lat', outs', bads', invs', ands', nms'⟩ := D
    simp only at ht1 ht2 ht4
    subst ht1 ht2
    obtain ⟨y, rfl⟩ := List.length_eq_one_iff.1 ht4
    have HKD := Lib.hid (fun W (hf : Fr [] w W) v => kind_calls W _ _ v (HH.out.keep hf))
    clear HBE
    simp only [cval, cvs, List.length_singleton] at *
    go_upto_region 4 with fail
    clear c0 c1 c2 c3 c4 c5 c6 c7
    obtain ⟨W3, hW3⟩ : ∃ W, W2.alloc (.cells #[.int .i64 mx', .slice iA' ins.length iC', .slice lA' lat.length lC', .slice oA' outs'.length oC', .slice bA' 1 bC', .slice vA' invs'.length vC', .slice gA' ands'.length gC', .slice nA' nms'.length nC'] 27) = W := ⟨_, rfl⟩
    rw [hW3]
    have HX3 : Hid (Cx w W3 ⟨iA, iC, lA, lC, oA, oC, bA, bC, vA, vC, gA, gC, nA, nC⟩ ⟨mx, ins, lat, outs, bads, invs, ands, nms⟩) := hW3 ▸ HX2.out.keep (box_fr _ _)
    have HOB3 : Hid (At W3 W2.heap.size 27 #[.int .i64 mx', .slice iA' ins.length iC', .slice lA' lat.length lC', .slice oA' outs'.length oC', .slice bA' 1 bC', .slice vA' invs'.length vC', .slice gA' ands'.length gC', .slice nA' nms'.length nC']) := hW3 ▸ At.new _ _ _
    have hf23 : Fr [] W2 W3 := hW3 ▸ box_fr _ _
    obtain ⟨ob, hob⟩ : ∃ ob, W2.heap.size = ob := ⟨_, rfl⟩
    rw [hob] at HOB3 ⊢
    clear hW3 HX2
    have hx := HX3.out
    obtain ⟨c0, c1, c2, c3, c4, c5, c6, c7⟩ := hx.cells
    clear hx
    simp only at c0 c1 c2 c3 c4 c5 c6 c7
    go_wp2_with fail
    refine (HCK.out _ HX3.out.fr).mono ?_
    clear c0 c1 c2 c3 c4 c5 c6 c7
    rintro e W4 ⟨hc4, hf4⟩
    have HX4 := Lib.hid (HX3.out.keep hf4)
    have HOB4 := Lib.hid (HOB3.out.keep hf4)
    clear HX3 HOB3
    rcases hc4 with ⟨rfl, hv2⟩ | ⟨rfl, hv2⟩
    · have HDA4 := Lib.hid (HDA.out.keep (hf23.then_ hf4))
      clear hf23 hf4 HDA
      have hm0 := hv.m0
      have hm1 := hv.m1
      simp only at hm0 hm1 hq
      have HWI := Lib.hid (fun W (hf : Fr [] w W) => within_calls W mx A c xs hm0 hm1 (HX.out.keep hf) HR.out hl)
      rw [hq] at HWI
      have hx := HX4.out
      obtain ⟨c0, c1, c2, c3, c4, c5, c6, c7⟩ := hx.cells
      clear hx
      simp only at c0 c1 c2 c3 c4 c5 c6 c7
      go_wp2_with fail
      refine (HWI.out _ HX4.out.fr).mono ?_
      rintro e W5 ⟨rfl, rfl⟩
      have d1 : decide (2048 - mx < (xs.length : Int) - 1) = false := decide_eq_false (by omega)
      have o0 := HOB4.out.cell 0
      have o1 := HOB4.out.cell 1
      have o2 := HOB4.out.cell 2
      have o3 := HOB4.out.cell 3
      have o4 := HOB4.out.cell 4
      have o5 := HOB4.out.cell 5
      have o6 := HOB4.out.cell 6
      have o7 := HOB4.out.cell 7
      simp at o0 o1 o2 o3 o4 o5 o6 o7

      go_wp2_with fail
      clear c0 c1 c2 c3 c4 c5 c6 c7 o0 o1 o2 o3 o4 o5 o6 o7 d1 HWI hob
      have HIN : Hid (∀ x ∈ xs, 0 ≤ x ∧ x ≤ 2 * mx + 1) := (fun x hx => by
        have := List.all_eq_true.1 hq x hx
        simpa using this : ∀ x ∈ xs, 0 ≤ x ∧ x ≤ 2 * mx + 1)
      go_loopg [11] xs.length (fun g i wr => ∃ k : Nat, k + g = xs.length ∧ i = .int .i64 k ∧ Cx w wr ⟨iA, iC, lA, lC, oA, oC, bA, bC, vA, vC, gA, gC, nA, nC⟩ ⟨mx, ins, lat, outs, bads, invs, ands, nms⟩ ∧ Fr [] W4 wr ∧ AllTo xs (litB ⟨mx, ins, lat, outs, bads, invs, ands, nms⟩) k)
      case atStart => exact ⟨0, by omega, rfl, HX4.out, Fr.refl _ _, AllTo.zero _ _⟩
      case round =>
        obtain ⟨k, hk, rfl, hx, hf, hn⟩ := hrel
        have HK := Lib.hid hk
        have HXR := Lib.hid hx
        have HFR := Lib.hid hf
        have HN := Lib.hid hn
        have hkn : k ≤ xs.length := by omega
        obtain ⟨c0, c1, c2, c3, c4, c5, c6, c7⟩ := hx.cells
        clear hk hx hf hn
        simp only at c0 c1 c2 c3 c4 c5 c6 c7
        by_cases hlt : k < xs.length
        · obtain ⟨b, o, x, hA, he, cx, hx1, hx2⟩ := (HX.out.keep HXR.out.fr).one HR.out hlt
          subst hA
          have hxr : 0 ≤ x ∧ x ≤ 2 * mx + 1 := HIN.out x (by rw [← he.out, List.getElem!_eq_getElem?_getD, List.getElem?_eq_getElem hlt]; simp)
          obtain ⟨n, hn⟩ : ∃ n : Nat, x / 2 = n := ⟨(x / 2).toNat, by omega⟩
          have hq2 : x.tdiv 2 = (n : Int) := by rw [Int.tdiv_eq_ediv_of_nonneg (by omega)]; exact hn
          have ex := Ext.cell cx
          obtain ⟨e0, e1, e2, e3, e4, e5, e6, e7⟩ := HXR.out.ext
          simp only at e0 e1 e2 e3 e4 e5 e6 e7
          by_cases hkb : knownB ⟨mx, ins, lat, outs, bads, invs, ands, nms⟩ (n : Int) = true
          · obtain ⟨ch, hch⟩ := kd_yes hkb
            have HKB := Lib.hid hkb
            have KQ := Lib.hid (fun W (hf : Fr [] w W) => kind_yes W _ _ (n : Int) (HH.out.keep hf) hkb ch hch)
            simp only [cval, cvs] at KQ
            clear hch hkb
            go_wp2_with fail
            refine wp_region_ext (by kernel_rfl) (by kernel_rfl) ?_
            repeat (go_big_quiet_step (exact call_ext (KQ.out _ (HXR.out.fr.then_ (Ext.fr _)))))
            refine wpQuiet_nil ?_
            rintro w2 ⟨u2, hu2⟩
            have HF_w2 : Hid (Fr [] wr w2) := hu2 ▸ u2.fr
            clear hu2 u2
            clear c0 c1 c2 c3 c4 c5 c6 c7 cx ex e0 e1 e2 e3 e4 e5 e6 e7
            go_wp2_with fail
            go_roundg (gk - 1)
            case measure => have := HK.out; omega
            case rel => exact ⟨k + 1, by have := HK.out; omega, by go_num, HXR.out.keep HF_w2.out, HFR.out.then_ HF_w2.out, HN.out.step (by
              rw [he.out, litB, hn, HKB.out, Bool.and_true]
              exact decide_eq_true hxr.1)⟩
          · have KQ := Lib.hid (fun W (hf : Fr [] w W) => kind_no W _ _ (n : Int) (HH.out.keep hf) (Bool.eq_false_iff.2 hkb))
            simp only [cval, cvs] at KQ
            clear hkb
            go_wp2_with fail
            refine wp_region_ext (by kernel_rfl) (by kernel_rfl) ?_
            repeat (go_big_quiet_step (exact call_ext (KQ.out _ (HXR.out.fr.then_ (Ext.fr _)))))
            refine wpQuiet_nil ?_
            rintro w2 ⟨u2, hu2⟩
            have HF_w2 : Hid (Fr [] wr w2) := hu2 ▸ u2.fr
            clear hu2 u2
            clear c0 c1 c2 c3 c4 c5 c6 c7 cx ex e0 e1 e2 e3 e4 e5 e6 e7
            go_wp2_with fail
            go_ret
            exact ⟨rfl, HXR.out.fr.then_ HF_w2.out⟩
        · obtain rfl : k = xs.length := by omega
          have HALL : Hid (∀ x ∈ xs, litB ⟨mx, ins, lat, outs, bads, invs, ands, nms⟩ x = true) := Lib.hid (List.all_eq_true.1 (HN.out.all (Nat.lt_irrefl _)))
          have HVD := Lib.hid (HTV.out HALL.out)
          have HLD := Lib.hid (HTL.out HALL.out)
          have HND := Lib.hid (HL3.out HALL.out)
          have HOB5 := Lib.hid (HOB4.out.keep HFR.out)
          have HDA5 := Lib.hid (HDA4.out.keep HFR.out)
          have HRD := Lib.hid (rcheck_calls wr ⟨iA', iC', lA', lC', oA', oC', bA', bC', vA', vC', gA', gC', nA', nC'⟩ ⟨mx', ins, lat, outs', [y], invs', ands', nms'⟩ HDA5.out HDN.out)
          simp only [cval, cvs, List.length_singleton] at HRD
          clear c0 c1 c2 c3 c4 c5 c6 c7 HTV HTL HL3 HK HN HOB4 HDA4 HFR HX4
          have o0 := HOB5.out.cell 0
          have o1 := HOB5.out.cell 1
          have o2 := HOB5.out.cell 2
          have o3 := HOB5.out.cell 3
          have o4 := HOB5.out.cell 4
          have o5 := HOB5.out.cell 5
          have o6 := HOB5.out.cell 6
          have o7 := HOB5.out.cell 7
          simp at o0 o1 o2 o3 o4 o5 o6 o7
          go_wp2_with fail
          refine HRD.out.mono ?_
          clear HRD o0 o1 o2 o3 o4 o5 o6 o7
          rintro e W6 ⟨hc6, hf6⟩
          have HX6 := Lib.hid (HXR.out.keep hf6)
          have HOB6 := Lib.hid (HOB5.out.keep hf6)
          have HDA6 := Lib.hid (HDA5.out.keep hf6)
          clear hf6 HXR HOB5 HDA5
          rcases hc6 with ⟨rfl, _⟩ | ⟨rfl, hvd⟩
          · have hx := HX6.out
            obtain ⟨c0, c1, c2, c3, c4, c5, c6, c7⟩ := hx.cells
            clear hx
            simp only at c0 c1 c2 c3 c4 c5 c6 c7
            go_wp2_with fail
            refine (HVA.out _ HX6.out.fr).mono ?_
            clear c0 c1 c2 c3 c4 c5 c6 c7
            rintro e W7 ⟨hc7, hf7⟩
            have HX7 := Lib.hid (HX6.out.keep hf7)
            have HOB7 := Lib.hid (HOB6.out.keep hf7)
            have HDA7 := Lib.hid (HDA6.out.keep hf7)
            clear hf7 HX6 HOB6 HDA6
            have HVV := Lib.hid (values_calls W7 ⟨iA', iC', lA', lC', oA', oC', bA', bC', vA', vC', gA', gC', nA', nC'⟩ ⟨mx', ins, lat, outs', [y], invs', ands', nms'⟩ st inp HDA7.out HDN.out hs hi)
            simp only [cval, cvs, List.length_singleton] at HVV
            have o0 := HOB7.out.cell 0
            have o1 := HOB7.out.cell 1
            have o2 := HOB7.out.cell 2
            have o3 := HOB7.out.cell 3
            have o4 := HOB7.out.cell 4
            have o5 := HOB7.out.cell 5
            have o6 := HOB7.out.cell 6
            have o7 := HOB7.out.cell 7
            simp at o0 o1 o2 o3 o4 o5 o6 o7
            rcases hc7 with ⟨rfl, h7⟩ | ⟨rfl, _, hb7⟩ | ⟨rfl, _, hb7⟩
            · exact absurd hv h7
            · go_wp2_with fail
              refine HVV.out.mono ?_
              rintro e W8 ⟨hc8, hf8⟩
              have HX8 := Lib.hid (HX7.out.keep hf8)
              clear hf8 HVV o0 o1 o2 o3 o4 o5 o6 o7
              rcases hc8 with ⟨rfl, h8⟩ | ⟨rfl, _, hb8⟩ | ⟨rfl, _, hb8⟩
              · exact absurd HVD.out h8
              · go_wp2_with fail
                go_ret
                exact ⟨rfl, HX8.out.fr⟩
              · simp only at hb7 hb8
                rw [hb7] at hb8
                cases hb8
            · go_wp2_with fail
              refine HVV.out.mono ?_
              rintro e W8 ⟨hc8, hf8⟩
              have HX8 := Lib.hid (HX7.out.keep hf8)
              have HOB8 := Lib.hid (HOB7.out.keep hf8)
              have HDA8 := Lib.hid (HDA7.out.keep hf8)
              clear hf8 HVV o0 o1 o2 o3 o4 o5 o6 o7 HX7 HOB7 HDA7
              rcases hc8 with ⟨rfl, h8⟩ | ⟨rfl, _, hb8⟩ | ⟨rfl, _, hb8⟩
              · exact absurd HVD.out h8
              · simp only at hb7 hb8
                rw [hb7] at hb8
                cases hb8
              · have hx := HX8.out
                obtain ⟨c0, c1, c2, c3, c4, c5, c6, c7⟩ := hx.cells
                clear hx
                simp only at c0 c1 c2 c3 c4 c5 c6 c7
                go_wp2_with fail
                refine (HNX.out _ HX8.out.fr).mono ?_
                clear c0 c1 c2 c3 c4 c5 c6 c7
                rintro e W9 ⟨hc9, hf9⟩
                have HX9 := Lib.hid (HX8.out.keep hf9)
                have HOB9 := Lib.hid (HOB8.out.keep hf9)
                have HDA9 := Lib.hid (HDA8.out.keep hf9)
                clear hf9 HX8 HOB8 HDA8
                rcases hc9 with ⟨rfl, h9⟩ | ⟨rfl, _, hb9⟩ | ⟨rfl, _, hb9⟩
                · exact absurd hv h9
                · simp only at hb7 hb9
                  rw [hb7] at hb9
                  cases hb9
                · have HNN := Lib.hid (next_calls W9 ⟨iA', iC', lA', lC', oA', oC', bA', bC', vA', vC', gA', gC', nA', nC'⟩ ⟨mx', ins, lat, outs', [y], invs', ands', nms'⟩ st inp HDA9.out HDN.out hs hi)
                  simp only [cval, cvs, List.length_singleton] at HNN
                  have o0 := HOB9.out.cell 0
                  have o1 := HOB9.out.cell 1
                  have o2 := HOB9.out.cell 2
                  have o3 := HOB9.out.cell 3
                  have o4 := HOB9.out.cell 4
                  have o5 := HOB9.out.cell 5
                  have o6 := HOB9.out.cell 6
                  have o7 := HOB9.out.cell 7
                  simp at o0 o1 o2 o3 o4 o5 o6 o7
                  go_wp2_with fail
                  refine HNN.out.mono ?_
                  clear HNN o0 o1 o2 o3 o4 o5 o6 o7
                  rintro e W10 ⟨hc10, hf10⟩
                  have HX10 := Lib.hid (HX9.out.keep hf10)
                  have HOB10 := Lib.hid (HOB9.out.keep hf10)
                  have HDA10 := Lib.hid (HDA9.out.keep hf10)
                  clear hf10 HX9 HOB9 HDA9
                  rcases hc10 with ⟨rfl, h10⟩ | ⟨rfl, _, hb10⟩ | ⟨rfl, _, hb10⟩
                  · exact absurd HVD.out h10
                  · simp only at hb7 hb10
                    rw [hb7] at hb10
                    cases hb10
                  · rw [HND.out]
                    have hvd0 := HVD.out.m0
                    have hvd1 := HVD.out.m1
                    have hvdb := HVD.out.b
                    simp only [allB, List.all_cons, List.all_nil, Bool.and_true, Bool.and_eq_true] at hvdb
                    have hyr := lit_le HVD.out hvdb.1
                    simp only at hvd0 hvd1 hyr
                    have hlD : (valL ⟨mx', ins, lat, outs', [y], invs', ands', nms'⟩ st inp).length ≤ 4096 := by
                      rw [valL_len]
                      have := zrL_len ⟨mx', ins, lat, outs', [y], invs', ands', nms'⟩ hvd0
                      simp only at this
                      omega
                    have hlC : (valL ⟨mx, ins, lat, outs, bads, invs, ands, nms⟩ st inp).length ≤ 4096 := by
                      rw [valL_len]
                      have := zrL_len ⟨mx, ins, lat, outs, bads, invs, ands, nms⟩ hm0
                      simp only at this
                      omega
                    obtain ⟨p, HP⟩ : ∃ p, Hid (trL (valL ⟨mx', ins, lat, outs', [y], invs', ands', nms'⟩ st inp) y = p) := ⟨_, rfl⟩
                    obtain ⟨r, HRR⟩ : ∃ r, Hid (xs.any (trL (valL ⟨mx, ins, lat, outs, bads, invs, ands, nms⟩ st inp)) = r) := ⟨_, rfl⟩
                    have hlaw := HLD.out.1
                    have hlaw : (trL (valL ⟨mx', ins, lat, outs', [y], invs', ands', nms'⟩ st inp) y != xs.any (trL (valL ⟨mx, ins, lat, outs, bads, invs, ands, nms⟩ st inp))) = true := hlaw
                    rw [HP.out, HRR.out] at hlaw
                    have KT := Lib.hid (fun W => true_calls W _ y hyr.1 (by omega) hlD)
                    rw [HP.out] at KT
                    have KH := Lib.hid (fun W (hf : Fr [] w W) => holds_calls W _ A c xs (HX.out.keep hf) HR.out hl (fun z hz => by have := HIN.out z hz; omega) hlC)
                    rw [HRR.out] at KH
                    obtain ⟨b, o, hbA, hbc⟩ := HDA10.out.b (by simp)
                    have hbA : bA' = some ⟨b, o, none⟩ := hbA
                    have hbc0 := hbc 0 (by simp)
                    simp at hbc0
                    subst hbA
                    clear hbc
                    generalize tx (nxtL ⟨mx, ins, lat, outs, bads, invs, ands, nms⟩ st inp) = sn
                    generalize tx (valL ⟨mx, ins, lat, outs, bads, invs, ands, nms⟩ st inp) = sc at KH ⊢
                    generalize tx (valL ⟨mx', ins, lat, outs', [y], invs', ands', nms'⟩ st inp) = sd at KT ⊢
                    have o0 := HOB10.out.cell 0
                    have o1 := HOB10.out.cell 1
                    have o2 := HOB10.out.cell 2
                    have o3 := HOB10.out.cell 3
                    have o4 := HOB10.out.cell 4
                    have o5 := HOB10.out.cell 5
                    have o6 := HOB10.out.cell 6
                    have o7 := HOB10.out.cell 7
                    simp at o0 o1 o2 o3 o4 o5 o6 o7
                    go_wp2_with fail
                    refine (KT.out _).mono ?_
                    rintro e W11 ⟨rfl, hf11⟩
                    have HX11 := Lib.hid (HX10.out.keep hf11)
                    clear hf11 hbc0 o0 o1 o2 o3 o4 o5 o6 o7
                    go_wp2_with fail
                    refine (KH.out _ HX11.out.fr).mono ?_
                    rintro e W12 ⟨rfl, hf12⟩
                    have HX12 := Lib.hid (HX11.out.keep hf12)
                    clear hf12
                    go_wp2_with fail
                    go_ret
                    refine ⟨?_, HX12.out.fr⟩
                    rw [← hlaw]
                    first | rfl | (cases p <;> cases r <;> rfl)
          · exact absurd HVD.out hvd
    · exact absurd hv hv2

end Go.Proofs.Ytbjccgahmgpkjaa
