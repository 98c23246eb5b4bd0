/- The reference's Same at two circuits that read alike. -/
import Derived.Test.YtbjccgahmgpkjaaQvD
namespace Go.Proofs.Ytbjccgahmgpkjaa
open Go.RowKit
set_option linter.unusedVariables false

set_option maxRecDepth 100000 in
set_option maxHeartbeats 8000000 in
theorem same_like (w : World) (H K : Hd) (C : Pc) (h : CiAt w H C) (k : CiAt w K C) :
    Calls Try.prog 17 #[cval H C, cval K C] w fun e w' => e = .returned (.bool true) ∧ Fr [] w w' := by
  have h1 := h.iL
  have h2 := h.lL
  have h3 := h.oL
  have h4 := h.bL
  have h5 := h.vL
  have h6 := h.gL
  have h7 := h.nL
  have hm := h.mr
  have HH := Lib.hid h
  have KK := Lib.hid k
  have S1 := Lib.hid (fun W (hf : Fr [] w W) => sints_eq W H.iA K.iA H.iC K.iC C.ins (h.i.keep hf) (k.i.keep hf) h.ir h1)
  have S2 := Lib.hid (fun W (hf : Fr [] w W) => sints_eq W H.oA K.oA H.oC K.oC C.outs (h.o.keep hf) (k.o.keep hf) h.or_ h3)
  have S3 := Lib.hid (fun W (hf : Fr [] w W) => sints_eq W H.bA K.bA H.bC K.bC C.bads (h.b.keep hf) (k.b.keep hf) h.br h4)
  have S4 := Lib.hid (fun W (hf : Fr [] w W) => sints_eq W H.vA K.vA H.vC K.vC C.invs (h.v.keep hf) (k.v.keep hf) h.vr h5)
  clear h k
  obtain ⟨mx, ins, lat, outs, bads, invs, ands, nms⟩ := C
  obtain ⟨iA, iC, lA, lC, oA, oC, bA, bC, vA, vC, gA, gC, nA, nC⟩ := H
  obtain ⟨iB, iD, lB, lD, oB, oD, bB, bD, vB, vD, gB, gD, nB, nD⟩ := K
  simp only [cval, cvs] at *
  obtain ⟨hm1, hm2⟩ := hm
  go_enter Try.func17, Try.ntmps17
  go_upto_region 1 with fail
  obtain ⟨W0, hW0⟩ : ∃ W, (w.alloc (.cells #[.int .i64 mx, .slice iA ins.length iC, .slice lA lat.length lC, .slice oA outs.length oC, .slice bA bads.length bC, .slice vA invs.length vC, .slice gA ands.length gC, .slice nA nms.length nC] 27)).alloc (.cells #[.int .i64 mx, .slice iB ins.length iD, .slice lB lat.length lD, .slice oB outs.length oD, .slice bB bads.length bD, .slice vB invs.length vD, .slice gB ands.length gD, .slice nB nms.length nD] 27) = W := ⟨_, rfl⟩
  rw [hW0]
  have HF0 : Hid (Fr [] w W0) := hW0 ▸ ((box_fr _ _).then_ (box_fr _ _))
  have HB0 : Hid (At W0 w.heap.size 27 #[.int .i64 mx, .slice iA ins.length iC, .slice lA lat.length lC, .slice oA outs.length oC, .slice bA bads.length bC, .slice vA invs.length vC, .slice gA ands.length gC, .slice nA nms.length nC]) := hW0 ▸ (At.new w _ _).alloc _
  have HD0 : Hid (At W0 (w.heap.size + 1) 27 #[.int .i64 mx, .slice iB ins.length iD, .slice lB lat.length lD, .slice oB outs.length oD, .slice bB bads.length bD, .slice vB invs.length vD, .slice gB ands.length gD, .slice nB nms.length nD]) := by
    rw [← hW0]
    have := At.new (w.alloc (.cells #[.int .i64 mx, .slice iA ins.length iC, .slice lA lat.length lC, .slice oA outs.length oC, .slice bA bads.length bC, .slice vA invs.length vC, .slice gA ands.length gC, .slice nA nms.length nC] 27)) 27 #[.int .i64 mx, .slice iB ins.length iD, .slice lB lat.length lD, .slice oB outs.length oD, .slice bB bads.length bD, .slice vB invs.length vD, .slice gB ands.length gD, .slice nB nms.length nD]
    have e : (w.alloc (.cells #[.int .i64 mx, .slice iA ins.length iC, .slice lA lat.length lC, .slice oA outs.length oC, .slice bA bads.length bC, .slice vA invs.length vC, .slice gA ands.length gC, .slice nA nms.length nC] 27)).heap.size = w.heap.size + 1 := by simp
    rw [e] at this
    exact this
  obtain ⟨bx, hbx⟩ : ∃ bx, w.heap.size = bx := ⟨_, rfl⟩
  rw [hbx] at HB0 HD0 ⊢
  clear hW0 hbx
  have c0 := HB0.out.cell 0
  have d0 := HD0.out.cell 0
  have c1 := HB0.out.cell 1
  have d1 := HD0.out.cell 1
  have c2 := HB0.out.cell 2
  have d2 := HD0.out.cell 2
  have c3 := HB0.out.cell 3
  have d3 := HD0.out.cell 3
  have c4 := HB0.out.cell 4
  have d4 := HD0.out.cell 4
  have c5 := HB0.out.cell 5
  have d5 := HD0.out.cell 5
  have c6 := HB0.out.cell 6
  have d6 := HD0.out.cell 6
  have c7 := HB0.out.cell 7
  have d7 := HD0.out.cell 7
  simp at c0 c1 c2 c3 c4 c5 c6 c7 d0 d1 d2 d3 d4 d5 d6 d7
  go_wp2_with fail
  refine (S1.out _ HF0.out).mono ?_
  clear c0 c1 c2 c3 c4 c5 c6 c7 d0 d1 d2 d3 d4 d5 d6 d7
  rintro e W1 ⟨rfl, hf1⟩
  have HF1 := Lib.hid (HF0.out.then_ hf1)
  have HB1 := Lib.hid (HB0.out.keep hf1)
  have HD1 := Lib.hid (HD0.out.keep hf1)
  clear hf1 HF0 HB0 HD0 S1
  have c0 := HB1.out.cell 0
  have d0 := HD1.out.cell 0
  have c1 := HB1.out.cell 1
  have d1 := HD1.out.cell 1
  have c2 := HB1.out.cell 2
  have d2 := HD1.out.cell 2
  have c3 := HB1.out.cell 3
  have d3 := HD1.out.cell 3
  have c4 := HB1.out.cell 4
  have d4 := HD1.out.cell 4
  have c5 := HB1.out.cell 5
  have d5 := HD1.out.cell 5
  have c6 := HB1.out.cell 6
  have d6 := HD1.out.cell 6
  have c7 := HB1.out.cell 7
  have d7 := HD1.out.cell 7
  simp at c0 c1 c2 c3 c4 c5 c6 c7 d0 d1 d2 d3 d4 d5 d6 d7
  go_wp2_with fail
  refine (S2.out _ HF1.out).mono ?_
  clear c0 c1 c2 c3 c4 c5 c6 c7 d0 d1 d2 d3 d4 d5 d6 d7
  rintro e W2 ⟨rfl, hf2⟩
  have HF2 := Lib.hid (HF1.out.then_ hf2)
  have HB2 := Lib.hid (HB1.out.keep hf2)
  have HD2 := Lib.hid (HD1.out.keep hf2)
  clear hf2 HF1 HB1 HD1 S2
  have c0 := HB2.out.cell 0
  have d0 := HD2.out.cell 0
  have c1 := HB2.out.cell 1
  have d1 := HD2.out.cell 1
  have c2 := HB2.out.cell 2
  have d2 := HD2.out.cell 2
  have c3 := HB2.out.cell 3
  have d3 := HD2.out.cell 3
  have c4 := HB2.out.cell 4
  have d4 := HD2.out.cell 4
  have c5 := HB2.out.cell 5
  have d5 := HD2.out.cell 5
  have c6 := HB2.out.cell 6
  have d6 := HD2.out.cell 6
  have c7 := HB2.out.cell 7
  have d7 := HD2.out.cell 7
  simp at c0 c1 c2 c3 c4 c5 c6 c7 d0 d1 d2 d3 d4 d5 d6 d7
  go_wp2_with fail
  refine (S3.out _ HF2.out).mono ?_
  clear c0 c1 c2 c3 c4 c5 c6 c7 d0 d1 d2 d3 d4 d5 d6 d7
  rintro e W3 ⟨rfl, hf3⟩
  have HF3 := Lib.hid (HF2.out.then_ hf3)
  have HB3 := Lib.hid (HB2.out.keep hf3)
  have HD3 := Lib.hid (HD2.out.keep hf3)
  clear hf3 HF2 HB2 HD2 S3
  have c0 := HB3.out.cell 0
  have d0 := HD3.out.cell 0
  have c1 := HB3.out.cell 1
  have d1 := HD3.out.cell 1
  have c2 := HB3.out.cell 2
  have d2 := HD3.out.cell 2
  have c3 := HB3.out.cell 3
  have d3 := HD3.out.cell 3
  have c4 := HB3.out.cell 4
  have d4 := HD3.out.cell 4
  have c5 := HB3.out.cell 5
  have d5 := HD3.out.cell 5
  have c6 := HB3.out.cell 6
  have d6 := HD3.out.cell 6
  have c7 := HB3.out.cell 7
  have d7 := HD3.out.cell 7
  simp at c0 c1 c2 c3 c4 c5 c6 c7 d0 d1 d2 d3 d4 d5 d6 d7
  go_wp2_with fail
  refine (S4.out _ HF3.out).mono ?_
  clear c0 c1 c2 c3 c4 c5 c6 c7 d0 d1 d2 d3 d4 d5 d6 d7
  rintro e W4 ⟨rfl, hf4⟩
  have HF4 := Lib.hid (HF3.out.then_ hf4)
  have HB4 := Lib.hid (HB3.out.keep hf4)
  have HD4 := Lib.hid (HD3.out.keep hf4)
  clear hf4 HF3 HB3 HD3 S4
  have c0 := HB4.out.cell 0
  have d0 := HD4.out.cell 0
  have c1 := HB4.out.cell 1
  have d1 := HD4.out.cell 1
  have c2 := HB4.out.cell 2
  have d2 := HD4.out.cell 2
  have c3 := HB4.out.cell 3
  have d3 := HD4.out.cell 3
  have c4 := HB4.out.cell 4
  have d4 := HD4.out.cell 4
  have c5 := HB4.out.cell 5
  have d5 := HD4.out.cell 5
  have c6 := HB4.out.cell 6
  have d6 := HD4.out.cell 6
  have c7 := HB4.out.cell 7
  have d7 := HD4.out.cell 7
  simp at c0 c1 c2 c3 c4 c5 c6 c7 d0 d1 d2 d3 d4 d5 d6 d7
  go_wp2_with fail
  clear c0 c1 c2 c3 c4 c5 c6 c7 d0 d1 d2 d3 d4 d5 d6 d7
  go_loopg [5] lat.length (fun g i wr => ∃ k : Nat, k + g = lat.length ∧ i = .int .i64 k ∧ Fr [] w wr ∧ At wr bx 27 #[.int .i64 mx, .slice iA ins.length iC, .slice lA lat.length lC, .slice oA outs.length oC, .slice bA bads.length bC, .slice vA invs.length vC, .slice gA ands.length gC, .slice nA nms.length nC] ∧ At wr (bx + 1) 27 #[.int .i64 mx, .slice iB ins.length iD, .slice lB lat.length lD, .slice oB outs.length oD, .slice bB bads.length bD, .slice vB invs.length vD, .slice gB ands.length gD, .slice nB nms.length nD])
  case atStart => exact ⟨0, by omega, rfl, HF4.out, HB4.out, HD4.out⟩
  case round =>
    obtain ⟨k, hk, rfl, hf, hb, hd⟩ := hrel
    have HK := Lib.hid hk
    have HFR := Lib.hid hf
    have HBR := Lib.hid hb
    have HDR := Lib.hid hd
    have hkn : k ≤ lat.length := by omega
    clear hk hf hb hd
    have c0 := HBR.out.cell 0
    have d0 := HDR.out.cell 0
    have c1 := HBR.out.cell 1
    have d1 := HDR.out.cell 1
    have c2 := HBR.out.cell 2
    have d2 := HDR.out.cell 2
    have c3 := HBR.out.cell 3
    have d3 := HDR.out.cell 3
    have c4 := HBR.out.cell 4
    have d4 := HDR.out.cell 4
    have c5 := HBR.out.cell 5
    have d5 := HDR.out.cell 5
    have c6 := HBR.out.cell 6
    have d6 := HDR.out.cell 6
    have c7 := HBR.out.cell 7
    have d7 := HDR.out.cell 7
    simp at c0 c1 c2 c3 c4 c5 c6 c7 d0 d1 d2 d3 d4 d5 d6 d7
    by_cases hlt : k < lat.length
    · obtain ⟨b, o, x, y, z, hA, he, cx, cy, cz, ⟨hx1, hx2⟩, ⟨hy1, hy2⟩, ⟨hz1, hz2⟩⟩ := RdT.one (HH.out.keep HFR.out).l HH.out.lr hlt
      obtain ⟨b', o', x', y', z', hA', he', cx', cy', cz', _, _, _⟩ := RdT.one (KK.out.keep HFR.out).l HH.out.lr hlt
      simp only at hA hA'
      have hxx := he.out.symm.trans he'.out
      simp only [T3.mk.injEq] at hxx
      obtain ⟨rfl, rfl, rfl⟩ := hxx
      subst hA hA'
      have e0 := Ext.cell c0
      have f0 := Ext.cell d0
      have e1 := Ext.cell c1
      have f1 := Ext.cell d1
      have e2 := Ext.cell c2
      have f2 := Ext.cell d2
      have e3 := Ext.cell c3
      have f3 := Ext.cell d3
      have e4 := Ext.cell c4
      have f4 := Ext.cell d4
      have e5 := Ext.cell c5
      have f5 := Ext.cell d5
      have e6 := Ext.cell c6
      have f6 := Ext.cell d6
      have e7 := Ext.cell c7
      have f7 := Ext.cell d7
      have ex := Ext.cell cx
      have ey := Ext.cell cy
      have ez := Ext.cell cz
      have ex' := Ext.cell cx'
      have ey' := Ext.cell cy'
      have ez' := Ext.cell cz'
      go_wp2_with fail
      refine wp_region_ext (by kernel_rfl) (by kernel_rfl) ?_
      repeat (go_big_quiet_step (fail))
      refine wpQuiet_nil ?_
      rintro w2 ⟨u2, hu2⟩
      have HF_w2 : Hid (Fr [] wr w2) := hu2 ▸ u2.fr
      clear hu2 u2
      clear cx cy cz cx' cy' cz' ex ey ez ex' ey' ez' e0 e1 e2 e3 e4 e5 e6 e7 f0 f1 f2 f3 f4 f5 f6 f7
      clear c0 c1 c2 c3 c4 c5 c6 c7 d0 d1 d2 d3 d4 d5 d6 d7
      go_wp2_with fail
      go_roundg (gk - 1)
      case measure => have := HK.out; omega
      case rel => exact ⟨k + 1, by have := HK.out; omega, by go_num, HFR.out.then_ HF_w2.out, HBR.out.keep HF_w2.out, HDR.out.keep HF_w2.out⟩
    · clear HK
      have HF4 := Lib.hid HFR.out
      have HB4 := Lib.hid HBR.out
      have HD4 := Lib.hid HDR.out
      clear HFR HBR HDR
      go_wp2_with fail
      clear c0 c1 c2 c3 c4 c5 c6 c7 d0 d1 d2 d3 d4 d5 d6 d7
      go_loopg [6] ands.length (fun g i wr => ∃ k : Nat, k + g = ands.length ∧ i = .int .i64 k ∧ Fr [] w wr ∧ At wr bx 27 #[.int .i64 mx, .slice iA ins.length iC, .slice lA lat.length lC, .slice oA outs.length oC, .slice bA bads.length bC, .slice vA invs.length vC, .slice gA ands.length gC, .slice nA nms.length nC] ∧ At wr (bx + 1) 27 #[.int .i64 mx, .slice iB ins.length iD, .slice lB lat.length lD, .slice oB outs.length oD, .slice bB bads.length bD, .slice vB invs.length vD, .slice gB ands.length gD, .slice nB nms.length nD])
      case atStart => exact ⟨0, by omega, rfl, HF4.out, HB4.out, HD4.out⟩
      case round =>
        obtain ⟨k, hk, rfl, hf, hb, hd⟩ := hrel
        have HK := Lib.hid hk
        have HFR := Lib.hid hf
        have HBR := Lib.hid hb
        have HDR := Lib.hid hd
        have hkn : k ≤ ands.length := by omega
        clear hk hf hb hd
        have c0 := HBR.out.cell 0
        have d0 := HDR.out.cell 0
        have c1 := HBR.out.cell 1
        have d1 := HDR.out.cell 1
        have c2 := HBR.out.cell 2
        have d2 := HDR.out.cell 2
        have c3 := HBR.out.cell 3
        have d3 := HDR.out.cell 3
        have c4 := HBR.out.cell 4
        have d4 := HDR.out.cell 4
        have c5 := HBR.out.cell 5
        have d5 := HDR.out.cell 5
        have c6 := HBR.out.cell 6
        have d6 := HDR.out.cell 6
        have c7 := HBR.out.cell 7
        have d7 := HDR.out.cell 7
        simp at c0 c1 c2 c3 c4 c5 c6 c7 d0 d1 d2 d3 d4 d5 d6 d7
        by_cases hlt : k < ands.length
        · obtain ⟨b, o, x, y, z, hA, he, cx, cy, cz, ⟨hx1, hx2⟩, ⟨hy1, hy2⟩, ⟨hz1, hz2⟩⟩ := RdT.one (HH.out.keep HFR.out).g HH.out.gr hlt
          obtain ⟨b', o', x', y', z', hA', he', cx', cy', cz', _, _, _⟩ := RdT.one (KK.out.keep HFR.out).g HH.out.gr hlt
          simp only at hA hA'
          have hxx := he.out.symm.trans he'.out
          simp only [T3.mk.injEq] at hxx
          obtain ⟨rfl, rfl, rfl⟩ := hxx
          subst hA hA'
          have e0 := Ext.cell c0
          have f0 := Ext.cell d0
          have e1 := Ext.cell c1
          have f1 := Ext.cell d1
          have e2 := Ext.cell c2
          have f2 := Ext.cell d2
          have e3 := Ext.cell c3
          have f3 := Ext.cell d3
          have e4 := Ext.cell c4
          have f4 := Ext.cell d4
          have e5 := Ext.cell c5
          have f5 := Ext.cell d5
          have e6 := Ext.cell c6
          have f6 := Ext.cell d6
          have e7 := Ext.cell c7
          have f7 := Ext.cell d7
          have ex := Ext.cell cx
          have ey := Ext.cell cy
          have ez := Ext.cell cz
          have ex' := Ext.cell cx'
          have ey' := Ext.cell cy'
          have ez' := Ext.cell cz'
          go_wp2_with fail
          refine wp_region_ext (by kernel_rfl) (by kernel_rfl) ?_
          repeat (go_big_quiet_step (fail))
          refine wpQuiet_nil ?_
          rintro w2 ⟨u2, hu2⟩
          have HF_w2 : Hid (Fr [] wr w2) := hu2 ▸ u2.fr
          clear hu2 u2
          clear cx cy cz cx' cy' cz' ex ey ez ex' ey' ez' e0 e1 e2 e3 e4 e5 e6 e7 f0 f1 f2 f3 f4 f5 f6 f7
          clear c0 c1 c2 c3 c4 c5 c6 c7 d0 d1 d2 d3 d4 d5 d6 d7
          go_wp2_with fail
          go_roundg (gk - 1)
          case measure => have := HK.out; omega
          case rel => exact ⟨k + 1, by have := HK.out; omega, by go_num, HFR.out.then_ HF_w2.out, HBR.out.keep HF_w2.out, HDR.out.keep HF_w2.out⟩
        · clear HK
          have HF4 := Lib.hid HFR.out
          have HB4 := Lib.hid HBR.out
          have HD4 := Lib.hid HDR.out
          clear HFR HBR HDR
          go_wp2_with fail
          clear c0 c1 c2 c3 c4 c5 c6 c7 d0 d1 d2 d3 d4 d5 d6 d7
          go_loopg [7] nms.length (fun g i wr => ∃ k : Nat, k + g = nms.length ∧ i = .int .i64 k ∧ Fr [] w wr ∧ At wr bx 27 #[.int .i64 mx, .slice iA ins.length iC, .slice lA lat.length lC, .slice oA outs.length oC, .slice bA bads.length bC, .slice vA invs.length vC, .slice gA ands.length gC, .slice nA nms.length nC] ∧ At wr (bx + 1) 27 #[.int .i64 mx, .slice iB ins.length iD, .slice lB lat.length lD, .slice oB outs.length oD, .slice bB bads.length bD, .slice vB invs.length vD, .slice gB ands.length gD, .slice nB nms.length nD])
          case atStart => exact ⟨0, by omega, rfl, HF4.out, HB4.out, HD4.out⟩
          case round =>
            obtain ⟨k, hk, rfl, hf, hb, hd⟩ := hrel
            have HK := Lib.hid hk
            have HFR := Lib.hid hf
            have HBR := Lib.hid hb
            have HDR := Lib.hid hd
            have hkn : k ≤ nms.length := by omega
            clear hk hf hb hd
            have c0 := HBR.out.cell 0
            have d0 := HDR.out.cell 0
            have c1 := HBR.out.cell 1
            have d1 := HDR.out.cell 1
            have c2 := HBR.out.cell 2
            have d2 := HDR.out.cell 2
            have c3 := HBR.out.cell 3
            have d3 := HDR.out.cell 3
            have c4 := HBR.out.cell 4
            have d4 := HDR.out.cell 4
            have c5 := HBR.out.cell 5
            have d5 := HDR.out.cell 5
            have c6 := HBR.out.cell 6
            have d6 := HDR.out.cell 6
            have c7 := HBR.out.cell 7
            have d7 := HDR.out.cell 7
            simp at c0 c1 c2 c3 c4 c5 c6 c7 d0 d1 d2 d3 d4 d5 d6 d7
            by_cases hlt : k < nms.length
            · obtain ⟨b, o, x, y, z, hA, he, cx, cy, cz, hx1, ⟨hy1, hy2⟩, hz1⟩ := RdM.one (HH.out.keep HFR.out).n HH.out.nr hlt
              obtain ⟨b', o', x', y', z', hA', he', cx', cy', cz', _, _, _⟩ := RdM.one (KK.out.keep HFR.out).n HH.out.nr hlt
              simp only at hA hA'
              have hxx := he.out.symm.trans he'.out
              simp only [Nm.mk.injEq] at hxx
              obtain ⟨rfl, rfl, rfl⟩ := hxx
              subst hA hA'
              have e0 := Ext.cell c0
              have f0 := Ext.cell d0
              have e1 := Ext.cell c1
              have f1 := Ext.cell d1
              have e2 := Ext.cell c2
              have f2 := Ext.cell d2
              have e3 := Ext.cell c3
              have f3 := Ext.cell d3
              have e4 := Ext.cell c4
              have f4 := Ext.cell d4
              have e5 := Ext.cell c5
              have f5 := Ext.cell d5
              have e6 := Ext.cell c6
              have f6 := Ext.cell d6
              have e7 := Ext.cell c7
              have f7 := Ext.cell d7
              have ex := Ext.cell cx
              have ey := Ext.cell cy
              have ez := Ext.cell cz
              have ex' := Ext.cell cx'
              have ey' := Ext.cell cy'
              have ez' := Ext.cell cz'
              go_wp2_with fail
              refine wp_region_ext (by kernel_rfl) (by kernel_rfl) ?_
              repeat (go_big_quiet_step (fail))
              refine wpQuiet_nil ?_
              rintro w2 ⟨u2, hu2⟩
              have HF_w2 : Hid (Fr [] wr w2) := hu2 ▸ u2.fr
              clear hu2 u2
              clear cx cy cz cx' cy' cz' ex ey ez ex' ey' ez' e0 e1 e2 e3 e4 e5 e6 e7 f0 f1 f2 f3 f4 f5 f6 f7
              clear c0 c1 c2 c3 c4 c5 c6 c7 d0 d1 d2 d3 d4 d5 d6 d7
              go_wp2_with fail
              go_roundg (gk - 1)
              case measure => have := HK.out; omega
              case rel => exact ⟨k + 1, by have := HK.out; omega, by go_num, HFR.out.then_ HF_w2.out, HBR.out.keep HF_w2.out, HDR.out.keep HF_w2.out⟩
            · clear HK
              go_wp2_with fail
              go_ret
              exact ⟨rfl, HFR.out⟩

end Go.Proofs.Ytbjccgahmgpkjaa
