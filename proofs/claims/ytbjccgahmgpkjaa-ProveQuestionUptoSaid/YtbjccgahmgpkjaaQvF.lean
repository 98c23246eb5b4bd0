/- The statement's function ProveQuestion walked. -/
import Derived.Test.YtbjccgahmgpkjaaQvE
namespace Go.Proofs.Ytbjccgahmgpkjaa
open Go.RowKit
set_option linter.unusedVariables false

theorem OwC.ci {w w0 : World} {B : Nat} {H H0 : Hd} {C : Pc} (h : OwC w B H C) (h0 : CiAt w0 H0 C) : CiAt w H C := by
  have hrs : ∀ {e : TypeId} {size n c : Nat} {A : Option Addr} {vs : List Value}, Ow w B e size A c n vs → Rs w A vs := fun ho => own_rs ho.1 ho.1.1
  exact ⟨(hrs h.i).rd, (hrs h.l).rdT, (hrs h.o).rd, (hrs h.b).rd, (hrs h.v).rd, (hrs h.g).rdT, (hrs h.n).rdM, h0.iL, h0.lL, h0.oL, h0.bL, h0.vL, h0.gL, h0.nL, h0.mr, h0.ir, h0.lr, h0.or_, h0.br, h0.vr, h0.gr, h0.nr⟩
theorem any_flip (s : List Int) (n : Int) : s.any (· == n) = s.any (n == ·) := by
  congr 1
  funext x
  exact BEq.comm
theorem lack_has (s : List Int) (n : Int) : s.any (· == n) = !lackB s n := by rw [lackB, Bool.not_not, any_flip]
theorem any_take (p : Int → Bool) (l : List Int) (k : Nat) (hk : k < l.length) : (l.take (k + 1)).any p = ((l.take k).any p || p l[k]!) := by
  rw [take_snoc l k hk, List.any_append]
  simp

set_option maxRecDepth 100000 in
set_option maxHeartbeats 8000000 in
theorem qlaw_calls (w : World) (H : Hd) (C : Pc) (h : CiAt w H C) (hn : NilOk H C) (nx dp : Int) (TA : Option Addr) (tc : Nat) (fs : List Fa) (hf : RdF w TA fs) (hfl : fs.length ≤ 1048576) (hfm : ∀ j : Nat, j < fs.length → (fs[j]!).L.l.length ≤ 1048576) (hfr : ∀ j : Nat, j < fs.length → R64 (fs[j]!).id)
    (KA : Option Addr) (kc : Nat) (ks : List Kp) (hk : RdK w KA ks) (hkl : ks.length ≤ 1048576) (hkn : ∀ s, kn s ks ≤ 1048576) (x y z : Int) (hx : R64 x) (hy : R64 y) (hz : R64 z) :
    Calls Try.prog 4 #[cval H C, .agg (tvs nx dp TA tc fs), .slice KA ks.length kc, .int .i64 x, .int .i64 y, .int .i64 z] w fun e w' => e = .returned (.bool true) ∧ Fr [] w w' := by
  have hal := act_len fs
  have HAR := Lib.hid (act_r hfr)
  have HAL := Lib.hid alive_calls
  have HQ : Hid (∀ W, Fr [] w W → Calls Try.prog 14 #[cval H C, .agg (tvs nx dp TA tc fs), .slice KA ks.length kc, .int .i64 x, .int .i64 y, .int .i64 z] W (QuP C fs ks x y z W)) := fun W hW => question_calls W H C (h.keep hW) hn nx dp TA tc fs (hf.keep hW) hfl hfm hfr KA kc ks (hk.keep hW) hkl hkn x y z
  have HC2 : Hid (∀ W kd, Fr [] w W → Calls Try.prog 19 #[.agg (tvs nx dp TA tc fs), .int .i64 kd] W (ClsP fs kd W)) := fun W kd hW => clauses_calls W nx dp TA tc fs kd (hf.keep hW) hfl hfm
  have HC3 : Hid (∀ W, Fr [] w W → Calls Try.prog 15 #[.agg (tvs nx dp TA tc fs)] W (ActP fs W)) := fun W hW => active_calls W nx dp TA tc fs (hf.keep hW) hfl
  have HCI : Hid (∀ W B H', Fr [] w W → OwC W B H' C → Calls Try.prog 17 #[cval H' C, cval H C] W fun e w' => e = .returned (.bool true) ∧ Fr [] W w') := fun W B H' hW ho => same_like W H' H C (ho.ci h) (h.keep hW)
  have HKS := Lib.hid hk
  have HKN : Hid (∀ k : Nat, k < ks.length → kn (act fs) (ks.take k) + kn1 (act fs) ks[k]! ≤ 1048576) := fun k hk' => by
    rw [← kn_take (act fs) ks k hk']
    refine Nat.le_trans ?_ (hkn (act fs))
    have e : kn (act fs) ks = kn (act fs) (ks.take (k + 1)) + kn (act fs) (ks.drop (k + 1)) := by
      rw [kn, kn, kn, ← List.sum_append, ← List.map_append, List.take_append_drop]
    omega
  have HKT : Hid (kn (act fs) (ks.take ks.length) = kn (act fs) ks) := by rw [List.take_length]; rfl
  clear h hn hf hk hfm hfr hkn
  obtain ⟨mx, ins, lat, outs, bads, invs, ands, nms⟩ := C
  obtain ⟨iA, iC, lA, lC, oA, oC, bA, bC, vA, vC, gA, gC, nA, nC⟩ := H
  simp only [cval, cvs] at *
  simp only [tvs] at *
  go_enter Try.func4, Try.ntmps4
  go_upto_region 1 with fail
  obtain ⟨W0, hW0⟩ : ∃ W, (w.alloc (.cells #[.int .i64 mx, .slice iA ins.length iC, .slice lA lat.length lC, .slice oA outs.length oC, .slice bA bads.length bC, .slice vA invs.length vC, .slice gA ands.length gC, .slice nA nms.length nC] 27)).alloc (.cells #[.int .i64 nx, .int .i64 dp, .slice TA fs.length tc] 42) = W := ⟨_, rfl⟩
  rw [hW0]
  have HF0 : Hid (Fr [] w W0) := hW0 ▸ ((box_fr _ _).then_ (box_fr _ _))
  have HB0 : Hid (At W0 w.heap.size 27 #[.int .i64 mx, .slice iA ins.length iC, .slice lA lat.length lC, .slice oA outs.length oC, .slice bA bads.length bC, .slice vA invs.length vC, .slice gA ands.length gC, .slice nA nms.length nC]) := hW0 ▸ (At.new w _ _).alloc _
  have HT0 : Hid (At W0 (w.heap.size + 1) 42 #[.int .i64 nx, .int .i64 dp, .slice TA fs.length tc]) := by
    rw [← hW0]
    have := At.new (w.alloc (.cells #[.int .i64 mx, .slice iA ins.length iC, .slice lA lat.length lC, .slice oA outs.length oC, .slice bA bads.length bC, .slice vA invs.length vC, .slice gA ands.length gC, .slice nA nms.length nC] 27)) 42 #[.int .i64 nx, .int .i64 dp, .slice TA fs.length tc]
    have e : (w.alloc (.cells #[.int .i64 mx, .slice iA ins.length iC, .slice lA lat.length lC, .slice oA outs.length oC, .slice bA bads.length bC, .slice vA invs.length vC, .slice gA ands.length gC, .slice nA nms.length nC] 27)).heap.size = w.heap.size + 1 := by simp
    rw [e] at this
    exact this
  obtain ⟨bx, hbx⟩ : ∃ bx, w.heap.size = bx := ⟨_, rfl⟩
  rw [hbx] at HB0 HT0 ⊢
  have HBX := Lib.hid hbx
  clear hW0 hbx
  go_wp2_with fail
  refine (HAL.out W0).mono ?_
  rintro e W1 ⟨rfl, hf1⟩
  have HF1 := Lib.hid (HF0.out.then_ hf1)
  have HB1 := Lib.hid (HB0.out.keep hf1)
  have HT1 := Lib.hid (HT0.out.keep hf1)
  clear hf1 HF0 HB0 HT0
  have s0 := HB1.out.cell 0
  have s1 := HB1.out.cell 1
  have s2 := HB1.out.cell 2
  have s3 := HB1.out.cell 3
  have s4 := HB1.out.cell 4
  have s5 := HB1.out.cell 5
  have s6 := HB1.out.cell 6
  have s7 := HB1.out.cell 7
  have t0 := HT1.out.cell 0
  have t1 := HT1.out.cell 1
  have t2 := HT1.out.cell 2
  simp at s0 s1 s2 s3 s4 s5 s6 s7 t0 t1 t2
  go_wp2_with fail
  refine (HQ.out W1 HF1.out).mono ?_
  clear s0 s1 s2 s3 s4 s5 s6 s7 t0 t1 t2
  rintro e W2 ⟨⟨iA1, iC1, lA1, lC1, oA1, oC1, bA1, bC1, vA1, vC1, gA1, gC1, nA1, nC1⟩, A1, c1, h1, A2, c2, h2, A3, c3, h3, rfl, ho, hr1, hm1, hr2, hm2, hn3, hf2⟩
  simp only [qval, cvs] at *
  have HF2 := Lib.hid (HF1.out.then_ hf2)
  have HB2 := Lib.hid (HB1.out.keep hf2)
  have HT2 := Lib.hid (HT1.out.keep hf2)
  have HO2 := Lib.hid ho
  have HR1 := Lib.hid hr1
  have HM1 := Lib.hid hm1
  have HR2 := Lib.hid hr2
  have HM2 := Lib.hid hm2
  have HN3 := Lib.hid hn3
  clear hf2 HF1 HB1 HT1 ho hr1 hm1 hr2 hm2 hn3 HQ HAL
  go_upto_region 4 with fail
  obtain ⟨W3, hW3⟩ : ∃ W, W2.alloc (.cells #[.int .i64 mx, .slice iA1 ins.length iC1, .slice lA1 lat.length lC1, .slice oA1 outs.length oC1, .slice bA1 bads.length bC1, .slice vA1 invs.length vC1, .slice gA1 ands.length gC1, .slice nA1 nms.length nC1, .slice A1 h1.length c1, .slice A2 h2.length c2, .slice A3 h3.length c3, .int .i64 x, .int .i64 y, .int .i64 z] 46) = W := ⟨_, rfl⟩
  rw [hW3]
  have HG3 : Hid (Fr [] W2 W3) := hW3 ▸ box_fr _ _
  have HQ3 : Hid (At W3 W2.heap.size 46 #[.int .i64 mx, .slice iA1 ins.length iC1, .slice lA1 lat.length lC1, .slice oA1 outs.length oC1, .slice bA1 bads.length bC1, .slice vA1 invs.length vC1, .slice gA1 ands.length gC1, .slice nA1 nms.length nC1, .slice A1 h1.length c1, .slice A2 h2.length c2, .slice A3 h3.length c3, .int .i64 x, .int .i64 y, .int .i64 z]) := hW3 ▸ At.new _ _ _
  obtain ⟨qx, hqx⟩ : ∃ qx, W2.heap.size = qx := ⟨_, rfl⟩
  rw [hqx] at HQ3 ⊢
  clear hW3 hqx
  have HF3 := Lib.hid (HF2.out.then_ HG3.out)
  have HT3 := Lib.hid (HT2.out.keep HG3.out)
  have t0 := HT3.out.cell 0
  have t1 := HT3.out.cell 1
  have t2 := HT3.out.cell 2
  simp at t0 t1 t2
  go_wp2_with fail
  refine (HC3.out W3 HF3.out).mono ?_
  clear t0 t1 t2
  rintro e W4 ⟨A4, c4, rfl, hi, hb, hf4⟩
  have HG4 := Lib.hid (HG3.out.then_ hf4)
  have HF4 := Lib.hid (HF2.out.then_ HG4.out)
  have HB4 := Lib.hid (HB2.out.keep HG4.out)
  have HT4 := Lib.hid (HT2.out.keep HG4.out)
  have HQ4 := Lib.hid (HQ3.out.keep hf4)
  have HO4 := Lib.hid (HO2.out.keep HG4.out (fun k hk => by cases hk))
  have R14 := Lib.hid (HR1.out.keep HG4.out)
  have R24 := Lib.hid (HR2.out.keep HG4.out)
  have HRA := Lib.hid ((own_rs hi (by simp)).rd)
  clear hi hb hf4 HG3 HG4 HF2 HF3 HB2 HT2 HT3 HQ3 HO2 HR1 HR2 HC3
  go_wp2_with fail
  go_loopg [15, 16] ks.length (fun g x15 x16 wr => ∃ k n : Nat, k + g = ks.length ∧ x15 = .int .i64 n ∧ x16 = .int .i64 k ∧ n = kn (act fs) (ks.take k) ∧ Fr [] W4 wr)
  case atStart => exact ⟨0, 0, by omega, rfl, rfl, by simp [kn], Fr.refl _ _⟩
  case round =>
    obtain ⟨k, n, hk, rfl, rfl, hn, hf⟩ := hrel
    have HK := Lib.hid hk
    have HFR := Lib.hid hf
    have HN := Lib.hid hn
    have hkk : k ≤ ks.length := by omega
    clear hk hf hn
    by_cases hlt : k < ks.length
    · obtain ⟨b, o, B, dB, ls, B2, d2, l2, hA, hxk, x0, x1, hrl, hot, hll, hlm⟩ := (HKS.out.keep (HF4.out.then_ HFR.out)).one hlt
      subst hA
      have hmo := HKN.out k hlt
      have hkt := kn_take (act fs) ks k hlt
      rw [hxk.out] at hmo hkt
      simp only [kn1] at hmo hkt
      rw [← HN.out] at hmo hkt
      have HMO := Lib.hid hmo
      have HKT2 := Lib.hid hkt
      have HOT := Lib.hid hot
      have hl2 : l2.length ≤ 17592186044416 := hot.2.2.1
      have X0 := Lib.hid x0
      have X1 := Lib.hid x1
      clear hrl hot hlm hmo hkt
      go_wp2_with fail
      clear x0 x1
      go_loopg [17, 18] l2.length (fun g2 x17 x18 wi => ∃ (m : Nat) (q : Bool), m + g2 = l2.length ∧ x17 = .bool q ∧ x18 = .int .i64 m ∧ Hid ((!(l2.take m).any (lackB (act fs))) = q) ∧ Fr [] wr wi)
      case atStart => exact ⟨0, true, by omega, rfl, rfl, (by simp : (!(l2.take 0).any (lackB (act fs))) = true), Fr.refl _ _⟩
      case round =>
        obtain ⟨m, q, hm, rfl, rfl, HQM, hf⟩ := hrel
        have HM := Lib.hid hm
        have HFI := Lib.hid hf
        have hmm : m ≤ l2.length := by omega
        have x0 := HFI.out.cellS X0.out
        have x1 := HFI.out.cellS X1.out
        clear hm hf
        by_cases hlt2 : m < l2.length
        · have hat := any_take (lackB (act fs)) l2 m hlt2
          cases q with
          | true =>
            obtain ⟨b3, o3, v, hB, hv, cv, hv1, hv2⟩ := (HOT.out.1.keep HFI.out).one HOT.out.2.1 hlt2
            simp only at hB
            subst hB
            rw [hv.out] at hat
            have HAT := Lib.hid hat
            have HH1 := Lib.hid (rhas_calls _ A4 c4 (act fs) v (HRA.out.keep (HFR.out.then_ HFI.out)) HAR.out (by omega))
            rw [lack_has] at HH1
            clear hat
            go_wp2_with fail
            refine HH1.out.mono ?_
            clear HH1 cv x0 x1
            rintro e wj ⟨rfl, hfj⟩
            have HFJ := Lib.hid (HFI.out.then_ hfj)
            clear hfj
            obtain ⟨q2, hq2⟩ : ∃ q2, lackB (act fs) v = q2 := ⟨_, rfl⟩
            rw [hq2] at HAT ⊢
            have HNX : Hid ((!(l2.take (m + 1)).any (lackB (act fs))) = !q2) := by
              have h1 := HQM.out
              rw [HAT.out]
              cases hh : (l2.take m).any (lackB (act fs))
              · rfl
              · rw [hh] at h1; cases h1
            clear hq2
            go_wp2_with fail
            go_roundg (gk - 1)
            case measure => have := HM.out; omega
            case rel => exact ⟨m + 1, !q2, by have := HM.out; omega, by simp, by go_num, HNX, HFJ.out⟩
          | false =>
            have HNX : Hid ((!(l2.take (m + 1)).any (lackB (act fs))) = false) := by
              have h1 := HQM.out
              rw [hat]
              cases hh : (l2.take m).any (lackB (act fs))
              · rw [hh] at h1; cases h1
              · rfl
            clear hat
            go_wp2_with fail
            clear x0 x1
            go_roundg (gk - 1)
            case measure => have := HM.out; omega
            case rel => exact ⟨m + 1, false, by have := HM.out; omega, by simp, by go_num, HNX, HFI.out⟩
        · obtain rfl : m = l2.length := by omega
          clear HM
          have hqm := HQM.out
          rw [List.take_length] at hqm
          have HFX := Lib.hid (HFR.out.then_ HFI.out)
          cases q with
          | true =>
            have hqz : l2.any (lackB (act fs)) = false := by
              cases hh : l2.any (lackB (act fs))
              · rfl
              · rw [hh] at hqm; cases hqm
            have hmo := HMO.out
            have hkt := HKT2.out
            rw [hqz] at hmo hkt
            simp only [Bool.false_eq_true, if_false] at hmo hkt
            have HKT3 := Lib.hid hkt
            clear hkt hqz hqm
            go_wp2_with fail
            clear x0 x1
            go_roundg (ks.length - (k + 1))
            case measure => have := HK.out; omega
            case rel => exact ⟨k + 1, n + ls.length, by have := HK.out; omega, by go_num, by go_num, HKT3.out.symm, HFX.out⟩
          | false =>
            have hqz : l2.any (lackB (act fs)) = true := by
              cases hh : l2.any (lackB (act fs))
              · rw [hh] at hqm; cases hqm
              · rfl
            have hkt := HKT2.out
            rw [hqz] at hkt
            simp only [if_true, Nat.add_zero] at hkt
            have HKT3 := Lib.hid hkt
            clear hkt hqz hqm
            go_wp2_with fail
            clear x0 x1
            go_roundg (ks.length - (k + 1))
            case measure => have := HK.out; omega
            case rel => exact ⟨k + 1, n, by have := HK.out; omega, rfl, by go_num, HKT3.out.symm, HFX.out⟩
    · obtain rfl : k = ks.length := by omega
      clear HK
      have HNL : Hid (h3.length ≤ n) := by rw [HN.out, HKT.out]; exact HN3.out
      have hnl := HNL.out
      have HF5 := Lib.hid (HF4.out.then_ HFR.out)
      have HB5 := Lib.hid (HB4.out.keep HFR.out)
      have HT5 := Lib.hid (HT4.out.keep HFR.out)
      have HQ5 := Lib.hid (HQ4.out.keep HFR.out)
      have HO5 := Lib.hid (HO4.out.keep HFR.out (fun k hk => by cases hk))
      have R15 := Lib.hid (R14.out.keep HFR.out)
      have R25 := Lib.hid (R24.out.keep HFR.out)
      have hdl : decide ((h3.length : Int) ≤ (n : Int)) = true := decide_eq_true (by omega)
      have hdx : (x == x) = true := by simp
      have hdy : (y == y) = true := by simp
      have hdz : (z == z) = true := by simp
      have CC1 : (cls fs 1).length ≤ 1048576 := Nat.le_trans (cls_len fs 1) hfl
      have CC2 : (cls fs 2).length ≤ 1048576 := Nat.le_trans (cls_len fs 2) hfl
      have hh1 : h1.length ≤ 1048576 := by rw [← HM1.out, List.length_map] at CC1; exact CC1
      have hh2 : h2.length ≤ 1048576 := by rw [← HM2.out, List.length_map] at CC2; exact CC2
      clear HF4 HB4 HT4 HQ4 HO4 R14 R24 HFR HN HKN HKT HKS
      go_upto_region 16 with fail
      refine wp_region_noPanic ?_
      refine wp_region_C (fun w' => Fr [] wr w') 43 (by kernel_rfl) ((Fr.refl [] wr).drew) (fun hT0 => ?_)
      refine wpAnyC_take0 (i := 0) (oi := ?oir16u1) (v := ?vr16u1) ?hir16u1 (by kernel_rfl) (by kernel_rfl) (by kernel_rfl) (by kernel_rfl) ?hQr16u1 ?hwr16u1 ?hyr16u1 hT0 ?_
      case hir16u1 => (simp only [List.getElem?_toArray, List.getElem?_cons_zero]; rfl)
      case hQr16u1 => exact fun _ _ _ h => h
      case hwr16u1 => rfl
      case hyr16u1 => (intro w; go_simp <;> with_reducible rfl)
      try simp only [Act.put, List.setIfInBounds_toArray, List.set_cons_zero, List.set_cons_succ]
      refine wpAnyC_take (i := 1) (oi := ?oir16u2) (v := ?vr16u2) [1, 43] ?hir16u2 (by kernel_rfl) (by kernel_rfl) (by kernel_rfl) (by kernel_rfl) ?hQr16u2 (.inl ⟨?hwr16u2, ?hyr16u2⟩) ((hT0.more 0).resolve_left (by decide)) ?_
      case hir16u2 => (simp only [List.getElem?_toArray, List.getElem?_cons_succ, List.getElem?_cons_zero]; rfl)
      case hQr16u2 => exact fun _ _ _ h => h
      case hwr16u2 => rfl
      case hyr16u2 => (intro w hSw; (have s := hSw.at_ HQ5.out (by simp); have q0 := s.cell 0; have q1 := s.cell 1; have q2 := s.cell 2; have q3 := s.cell 3; have q4 := s.cell 4; have q5 := s.cell 5; have q6 := s.cell 6; have q7 := s.cell 7; have q8 := s.cell 8; have q9 := s.cell 9; have q10 := s.cell 10; have q11 := s.cell 11; have q12 := s.cell 12; have q13 := s.cell 13; have s := hSw.at_ HB5.out (by simp); have s0 := s.cell 0; have s1 := s.cell 1; have s2 := s.cell 2; have s3 := s.cell 3; have s4 := s.cell 4; have s5 := s.cell 5; have s6 := s.cell 6; have s7 := s.cell 7; have t := hSw.at_ HT5.out (by simp); have t0 := t.cell 0; have t1 := t.cell 1; have t2 := t.cell 2; simp at q0 q1 q2 q3 q4 q5 q6 q7 q8 q9 q10 q11 q12 q13 s0 s1 s2 s3 s4 s5 s6 s7 t0 t1 t2); go_simp <;> with_reducible rfl)
      try simp only [Act.put, List.setIfInBounds_toArray, List.set_cons_zero, List.set_cons_succ]
      refine wpAnyC_take (i := 2) (oi := ?oir16u3) (v := ?vr16u3) [2, 43] ?hir16u3 (by kernel_rfl) (by kernel_rfl) (by kernel_rfl) (by kernel_rfl) ?hQr16u3 (.inl ⟨?hwr16u3, ?hyr16u3⟩) (((hT0.more 0).more 1).resolve_left (by decide)) ?_
      case hir16u3 => (simp only [List.getElem?_toArray, List.getElem?_cons_succ, List.getElem?_cons_zero]; rfl)
      case hQr16u3 => exact fun _ _ _ h => h
      case hwr16u3 => rfl
      case hyr16u3 => (intro w hSw; (have s := hSw.at_ HQ5.out (by simp); have q0 := s.cell 0; have q1 := s.cell 1; have q2 := s.cell 2; have q3 := s.cell 3; have q4 := s.cell 4; have q5 := s.cell 5; have q6 := s.cell 6; have q7 := s.cell 7; have q8 := s.cell 8; have q9 := s.cell 9; have q10 := s.cell 10; have q11 := s.cell 11; have q12 := s.cell 12; have q13 := s.cell 13; have s := hSw.at_ HB5.out (by simp); have s0 := s.cell 0; have s1 := s.cell 1; have s2 := s.cell 2; have s3 := s.cell 3; have s4 := s.cell 4; have s5 := s.cell 5; have s6 := s.cell 6; have s7 := s.cell 7; have t := hSw.at_ HT5.out (by simp); have t0 := t.cell 0; have t1 := t.cell 1; have t2 := t.cell 2; simp at q0 q1 q2 q3 q4 q5 q6 q7 q8 q9 q10 q11 q12 q13 s0 s1 s2 s3 s4 s5 s6 s7 t0 t1 t2); go_simp <;> with_reducible rfl)
      try simp only [Act.put, List.setIfInBounds_toArray, List.set_cons_zero, List.set_cons_succ]
      have hSx := (((hT0.more 0).more 1).more 2).resolve_left (by decide)
      refine wpAnyC_ready (rs := [3]) (by kernel_rfl) (by simp) ?_
      refine ReadyC.cons (o := ?or16u4) ?hor16u4 ?hstepr16u4 ?_
      case hor16u4 => (simp only [List.getElem?_toArray, List.getElem?_cons_succ, List.getElem?_cons_zero]; rfl)
      case hstepr16u4 =>
        intro K hK
        (go_simp; refine (HCI.out _ _ ⟨iA1, iC1, lA1, lC1, oA1, oC1, bA1, bC1, vA1, vC1, gA1, gC1, nA1, nC1⟩ (HF5.out.then_ hSx) (HO5.out.keep hSx (fun k hk => by cases hk))).mono ?_; rintro e w1 ⟨rfl, hf1⟩; dsimp only)
        refine hK.out _ _ (.inr ?_) (fun hHeld => ?_)
        · first | exact hSx.then_ hf5 | exact hSx.then_ hf4 | exact hSx.then_ hf3 | exact hSx.then_ hf2 | exact hSx.then_ hf1 | exact hSx
        have hT4 := hHeld
        clear hHeld
        clear hK K
        try simp only [Act.put, List.setIfInBounds_toArray, List.set_cons_zero, List.set_cons_succ]
        refine wpAnyC_take0 (i := 4) (oi := ?oir16u5) (v := ?vr16u5) ?hir16u5 (by kernel_rfl) (by kernel_rfl) (by kernel_rfl) (by kernel_rfl) ?hQr16u5 ?hwr16u5 ?hyr16u5 hT4 ?_
        case hir16u5 => (simp only [List.getElem?_toArray, List.getElem?_cons_succ, List.getElem?_cons_zero]; rfl)
        case hQr16u5 => exact fun _ _ _ h => h
        case hwr16u5 => rfl
        case hyr16u5 => (intro w; go_simp <;> with_reducible rfl)
        try simp only [Act.put, List.setIfInBounds_toArray, List.set_cons_zero, List.set_cons_succ]
        refine wpAnyC_take0 (i := 5) (oi := ?oir16u6) (v := ?vr16u6) ?hir16u6 (by kernel_rfl) (by kernel_rfl) (by kernel_rfl) (by kernel_rfl) ?hQr16u6 ?hwr16u6 ?hyr16u6 (hT4.more 4) ?_
        case hir16u6 => (simp only [List.getElem?_toArray, List.getElem?_cons_succ, List.getElem?_cons_zero]; rfl)
        case hQr16u6 => exact fun _ _ _ h => h
        case hwr16u6 => rfl
        case hyr16u6 => (intro w; go_simp <;> with_reducible rfl)
        try simp only [Act.put, List.setIfInBounds_toArray, List.set_cons_zero, List.set_cons_succ]
        refine wpAnyC_take (i := 6) (oi := ?oir16u7) (v := ?vr16u7) [6, 43] ?hir16u7 (by kernel_rfl) (by kernel_rfl) (by kernel_rfl) (by kernel_rfl) ?hQr16u7 (.inl ⟨?hwr16u7, ?hyr16u7⟩) (((hT4.more 4).more 5).resolve_left (by decide)) ?_
        case hir16u7 => (simp only [List.getElem?_toArray, List.getElem?_cons_succ, List.getElem?_cons_zero]; rfl)
        case hQr16u7 => exact fun _ _ _ h => h
        case hwr16u7 => rfl
        case hyr16u7 => (intro w hSw; (have s := hSw.at_ HQ5.out (by simp); have q0 := s.cell 0; have q1 := s.cell 1; have q2 := s.cell 2; have q3 := s.cell 3; have q4 := s.cell 4; have q5 := s.cell 5; have q6 := s.cell 6; have q7 := s.cell 7; have q8 := s.cell 8; have q9 := s.cell 9; have q10 := s.cell 10; have q11 := s.cell 11; have q12 := s.cell 12; have q13 := s.cell 13; have s := hSw.at_ HB5.out (by simp); have s0 := s.cell 0; have s1 := s.cell 1; have s2 := s.cell 2; have s3 := s.cell 3; have s4 := s.cell 4; have s5 := s.cell 5; have s6 := s.cell 6; have s7 := s.cell 7; have t := hSw.at_ HT5.out (by simp); have t0 := t.cell 0; have t1 := t.cell 1; have t2 := t.cell 2; simp at q0 q1 q2 q3 q4 q5 q6 q7 q8 q9 q10 q11 q12 q13 s0 s1 s2 s3 s4 s5 s6 s7 t0 t1 t2); go_simp <;> with_reducible rfl)
        try simp only [Act.put, List.setIfInBounds_toArray, List.set_cons_zero, List.set_cons_succ]
        refine wpAnyC_take (i := 7) (oi := ?oir16u8) (v := ?vr16u8) [7, 43] ?hir16u8 (by kernel_rfl) (by kernel_rfl) (by kernel_rfl) (by kernel_rfl) ?hQr16u8 (.inl ⟨?hwr16u8, ?hyr16u8⟩) ((((hT4.more 4).more 5).more 6).resolve_left (by decide)) ?_
        case hir16u8 => (simp only [List.getElem?_toArray, List.getElem?_cons_succ, List.getElem?_cons_zero]; rfl)
        case hQr16u8 => exact fun _ _ _ h => h
        case hwr16u8 => rfl
        case hyr16u8 => (intro w hSw; (have s := hSw.at_ HQ5.out (by simp); have q0 := s.cell 0; have q1 := s.cell 1; have q2 := s.cell 2; have q3 := s.cell 3; have q4 := s.cell 4; have q5 := s.cell 5; have q6 := s.cell 6; have q7 := s.cell 7; have q8 := s.cell 8; have q9 := s.cell 9; have q10 := s.cell 10; have q11 := s.cell 11; have q12 := s.cell 12; have q13 := s.cell 13; have s := hSw.at_ HB5.out (by simp); have s0 := s.cell 0; have s1 := s.cell 1; have s2 := s.cell 2; have s3 := s.cell 3; have s4 := s.cell 4; have s5 := s.cell 5; have s6 := s.cell 6; have s7 := s.cell 7; have t := hSw.at_ HT5.out (by simp); have t0 := t.cell 0; have t1 := t.cell 1; have t2 := t.cell 2; simp at q0 q1 q2 q3 q4 q5 q6 q7 q8 q9 q10 q11 q12 q13 s0 s1 s2 s3 s4 s5 s6 s7 t0 t1 t2); go_simp <;> with_reducible rfl)
        try simp only [Act.put, List.setIfInBounds_toArray, List.set_cons_zero, List.set_cons_succ]
        have hSx := ((((hT4.more 4).more 5).more 6).more 7).resolve_left (by decide)
        refine wpAnyC_ready (rs := [8]) (by kernel_rfl) (by simp) ?_
        refine ReadyC.cons (o := ?or16u9) ?hor16u9 ?hstepr16u9 ?_
        case hor16u9 => (simp only [List.getElem?_toArray, List.getElem?_cons_succ, List.getElem?_cons_zero]; rfl)
        case hstepr16u9 =>
          intro K hK
          (go_simp; refine (HC2.out _ 1 (HF5.out.then_ hSx)).mono ?_; rintro e w2 ⟨A6, c6, h6, rfl, ho6, hm6, hf2⟩; have HO6 := Lib.hid ho6; have HM6 := Lib.hid hm6; clear ho6 hm6; dsimp only)
          refine hK.out _ _ (.inr ?_) (fun hHeld => ?_)
          · first | exact hSx.then_ hf5 | exact hSx.then_ hf4 | exact hSx.then_ hf3 | exact hSx.then_ hf2 | exact hSx.then_ hf1 | exact hSx
          have hT9 := hHeld
          clear hHeld
          clear hK K
          try simp only [Act.put, List.setIfInBounds_toArray, List.set_cons_zero, List.set_cons_succ]
          have hSx := hT9.resolve_left (by decide)
          refine wpAnyC_ready (rs := [9]) (by kernel_rfl) (by simp) ?_
          refine ReadyC.cons (o := ?or16u10) ?hor16u10 ?hstepr16u10 ?_
          case hor16u10 => (simp only [List.getElem?_toArray, List.getElem?_cons_succ, List.getElem?_cons_zero]; rfl)
          case hstepr16u10 =>
            intro K hK
            (go_simp; refine (lists_eq _ A1 A6 c1 c6 h1 h6 (R15.out.keep hSx) (HO6.out.rd) (HM1.out.trans HM6.out.symm) (by omega)).mono ?_; rintro e w3 ⟨rfl, hf3⟩; dsimp only)
            refine hK.out _ _ (.inr ?_) (fun hHeld => ?_)
            · first | exact hSx.then_ hf5 | exact hSx.then_ hf4 | exact hSx.then_ hf3 | exact hSx.then_ hf2 | exact hSx.then_ hf1 | exact hSx
            have hT10 := hHeld
            clear hHeld
            clear hK K
            try simp only [Act.put, List.setIfInBounds_toArray, List.set_cons_zero, List.set_cons_succ]
            refine wpAnyC_take0 (i := 10) (oi := ?oir16u11) (v := ?vr16u11) ?hir16u11 (by kernel_rfl) (by kernel_rfl) (by kernel_rfl) (by kernel_rfl) ?hQr16u11 ?hwr16u11 ?hyr16u11 hT10 ?_
            case hir16u11 => (simp only [List.getElem?_toArray, List.getElem?_cons_succ, List.getElem?_cons_zero]; rfl)
            case hQr16u11 => exact fun _ _ _ h => h
            case hwr16u11 => rfl
            case hyr16u11 => (intro w; go_simp <;> with_reducible rfl)
            try simp only [Act.put, List.setIfInBounds_toArray, List.set_cons_zero, List.set_cons_succ]
            refine wpAnyC_take0 (i := 11) (oi := ?oir16u12) (v := ?vr16u12) ?hir16u12 (by kernel_rfl) (by kernel_rfl) (by kernel_rfl) (by kernel_rfl) ?hQr16u12 ?hwr16u12 ?hyr16u12 (hT10.more 10) ?_
            case hir16u12 => (simp only [List.getElem?_toArray, List.getElem?_cons_succ, List.getElem?_cons_zero]; rfl)
            case hQr16u12 => exact fun _ _ _ h => h
            case hwr16u12 => rfl
            case hyr16u12 => (intro w; go_simp <;> with_reducible rfl)
            try simp only [Act.put, List.setIfInBounds_toArray, List.set_cons_zero, List.set_cons_succ]
            refine wpAnyC_take0 (i := 12) (oi := ?oir16u13) (v := ?vr16u13) ?hir16u13 (by kernel_rfl) (by kernel_rfl) (by kernel_rfl) (by kernel_rfl) ?hQr16u13 ?hwr16u13 ?hyr16u13 ((hT10.more 10).more 11) ?_
            case hir16u13 => (simp only [List.getElem?_toArray, List.getElem?_cons_succ, List.getElem?_cons_zero]; rfl)
            case hQr16u13 => exact fun _ _ _ h => h
            case hwr16u13 => rfl
            case hyr16u13 => (intro w; go_simp <;> with_reducible rfl)
            try simp only [Act.put, List.setIfInBounds_toArray, List.set_cons_zero, List.set_cons_succ]
            refine wpAnyC_take (i := 13) (oi := ?oir16u14) (v := ?vr16u14) [13, 43] ?hir16u14 (by kernel_rfl) (by kernel_rfl) (by kernel_rfl) (by kernel_rfl) ?hQr16u14 (.inl ⟨?hwr16u14, ?hyr16u14⟩) ((((hT10.more 10).more 11).more 12).resolve_left (by decide)) ?_
            case hir16u14 => (simp only [List.getElem?_toArray, List.getElem?_cons_succ, List.getElem?_cons_zero]; rfl)
            case hQr16u14 => exact fun _ _ _ h => h
            case hwr16u14 => rfl
            case hyr16u14 => (intro w hSw; (have s := hSw.at_ HQ5.out (by simp); have q0 := s.cell 0; have q1 := s.cell 1; have q2 := s.cell 2; have q3 := s.cell 3; have q4 := s.cell 4; have q5 := s.cell 5; have q6 := s.cell 6; have q7 := s.cell 7; have q8 := s.cell 8; have q9 := s.cell 9; have q10 := s.cell 10; have q11 := s.cell 11; have q12 := s.cell 12; have q13 := s.cell 13; have s := hSw.at_ HB5.out (by simp); have s0 := s.cell 0; have s1 := s.cell 1; have s2 := s.cell 2; have s3 := s.cell 3; have s4 := s.cell 4; have s5 := s.cell 5; have s6 := s.cell 6; have s7 := s.cell 7; have t := hSw.at_ HT5.out (by simp); have t0 := t.cell 0; have t1 := t.cell 1; have t2 := t.cell 2; simp at q0 q1 q2 q3 q4 q5 q6 q7 q8 q9 q10 q11 q12 q13 s0 s1 s2 s3 s4 s5 s6 s7 t0 t1 t2); go_simp <;> with_reducible rfl)
            try simp only [Act.put, List.setIfInBounds_toArray, List.set_cons_zero, List.set_cons_succ]
            refine wpAnyC_take (i := 14) (oi := ?oir16u15) (v := ?vr16u15) [14, 43] ?hir16u15 (by kernel_rfl) (by kernel_rfl) (by kernel_rfl) (by kernel_rfl) ?hQr16u15 (.inl ⟨?hwr16u15, ?hyr16u15⟩) (((((hT10.more 10).more 11).more 12).more 13).resolve_left (by decide)) ?_
            case hir16u15 => (simp only [List.getElem?_toArray, List.getElem?_cons_succ, List.getElem?_cons_zero]; rfl)
            case hQr16u15 => exact fun _ _ _ h => h
            case hwr16u15 => rfl
            case hyr16u15 => (intro w hSw; (have s := hSw.at_ HQ5.out (by simp); have q0 := s.cell 0; have q1 := s.cell 1; have q2 := s.cell 2; have q3 := s.cell 3; have q4 := s.cell 4; have q5 := s.cell 5; have q6 := s.cell 6; have q7 := s.cell 7; have q8 := s.cell 8; have q9 := s.cell 9; have q10 := s.cell 10; have q11 := s.cell 11; have q12 := s.cell 12; have q13 := s.cell 13; have s := hSw.at_ HB5.out (by simp); have s0 := s.cell 0; have s1 := s.cell 1; have s2 := s.cell 2; have s3 := s.cell 3; have s4 := s.cell 4; have s5 := s.cell 5; have s6 := s.cell 6; have s7 := s.cell 7; have t := hSw.at_ HT5.out (by simp); have t0 := t.cell 0; have t1 := t.cell 1; have t2 := t.cell 2; simp at q0 q1 q2 q3 q4 q5 q6 q7 q8 q9 q10 q11 q12 q13 s0 s1 s2 s3 s4 s5 s6 s7 t0 t1 t2); go_simp <;> with_reducible rfl)
            try simp only [Act.put, List.setIfInBounds_toArray, List.set_cons_zero, List.set_cons_succ]
            have hSx := (((((hT10.more 10).more 11).more 12).more 13).more 14).resolve_left (by decide)
            refine wpAnyC_ready (rs := [15]) (by kernel_rfl) (by simp) ?_
            refine ReadyC.cons (o := ?or16u16) ?hor16u16 ?hstepr16u16 ?_
            case hor16u16 => (simp only [List.getElem?_toArray, List.getElem?_cons_succ, List.getElem?_cons_zero]; rfl)
            case hstepr16u16 =>
              intro K hK
              (go_simp; refine (HC2.out _ 2 (HF5.out.then_ hSx)).mono ?_; rintro e w4 ⟨A7, c7, h7, rfl, ho7, hm7, hf4⟩; have HO7 := Lib.hid ho7; have HM7 := Lib.hid hm7; clear ho7 hm7; dsimp only)
              refine hK.out _ _ (.inr ?_) (fun hHeld => ?_)
              · first | exact hSx.then_ hf5 | exact hSx.then_ hf4 | exact hSx.then_ hf3 | exact hSx.then_ hf2 | exact hSx.then_ hf1 | exact hSx
              have hT16 := hHeld
              clear hHeld
              clear hK K
              try simp only [Act.put, List.setIfInBounds_toArray, List.set_cons_zero, List.set_cons_succ]
              have hSx := hT16.resolve_left (by decide)
              refine wpAnyC_ready (rs := [16]) (by kernel_rfl) (by simp) ?_
              refine ReadyC.cons (o := ?or16u17) ?hor16u17 ?hstepr16u17 ?_
              case hor16u17 => (simp only [List.getElem?_toArray, List.getElem?_cons_succ, List.getElem?_cons_zero]; rfl)
              case hstepr16u17 =>
                intro K hK
                (go_simp; refine (lists_eq _ A2 A7 c2 c7 h2 h7 (R25.out.keep hSx) (HO7.out.rd) (HM2.out.trans HM7.out.symm) (by omega)).mono ?_; rintro e w5 ⟨rfl, hf5⟩; dsimp only)
                refine hK.out _ _ (.inr ?_) (fun hHeld => ?_)
                · first | exact hSx.then_ hf5 | exact hSx.then_ hf4 | exact hSx.then_ hf3 | exact hSx.then_ hf2 | exact hSx.then_ hf1 | exact hSx
                have hT17 := hHeld
                clear hHeld
                clear hK K
                try simp only [Act.put, List.setIfInBounds_toArray, List.set_cons_zero, List.set_cons_succ]
                refine wpAnyC_take0 (i := 17) (oi := ?oir16u18) (v := ?vr16u18) ?hir16u18 (by kernel_rfl) (by kernel_rfl) (by kernel_rfl) (by kernel_rfl) ?hQr16u18 ?hwr16u18 ?hyr16u18 hT17 ?_
                case hir16u18 => (simp only [List.getElem?_toArray, List.getElem?_cons_succ, List.getElem?_cons_zero]; rfl)
                case hQr16u18 => exact fun _ _ _ h => h
                case hwr16u18 => rfl
                case hyr16u18 => (intro w; go_simp <;> with_reducible rfl)
                try simp only [Act.put, List.setIfInBounds_toArray, List.set_cons_zero, List.set_cons_succ]
                refine wpAnyC_take0 (i := 18) (oi := ?oir16u19) (v := ?vr16u19) ?hir16u19 (by kernel_rfl) (by kernel_rfl) (by kernel_rfl) (by kernel_rfl) ?hQr16u19 ?hwr16u19 ?hyr16u19 (hT17.more 17) ?_
                case hir16u19 => (simp only [List.getElem?_toArray, List.getElem?_cons_succ, List.getElem?_cons_zero]; rfl)
                case hQr16u19 => exact fun _ _ _ h => h
                case hwr16u19 => rfl
                case hyr16u19 => (intro w; go_simp <;> with_reducible rfl)
                try simp only [Act.put, List.setIfInBounds_toArray, List.set_cons_zero, List.set_cons_succ]
                refine wpAnyC_take0 (i := 19) (oi := ?oir16u20) (v := ?vr16u20) ?hir16u20 (by kernel_rfl) (by kernel_rfl) (by kernel_rfl) (by kernel_rfl) ?hQr16u20 ?hwr16u20 ?hyr16u20 ((hT17.more 17).more 18) ?_
                case hir16u20 => (simp only [List.getElem?_toArray, List.getElem?_cons_succ, List.getElem?_cons_zero]; rfl)
                case hQr16u20 => exact fun _ _ _ h => h
                case hwr16u20 => rfl
                case hyr16u20 => (intro w; go_simp <;> with_reducible rfl)
                try simp only [Act.put, List.setIfInBounds_toArray, List.set_cons_zero, List.set_cons_succ]
                refine wpAnyC_take (i := 20) (oi := ?oir16u21) (v := ?vr16u21) [20, 43] ?hir16u21 (by kernel_rfl) (by kernel_rfl) (by kernel_rfl) (by kernel_rfl) ?hQr16u21 (.inl ⟨?hwr16u21, ?hyr16u21⟩) ((((hT17.more 17).more 18).more 19).resolve_left (by decide)) ?_
                case hir16u21 => (simp only [List.getElem?_toArray, List.getElem?_cons_succ, List.getElem?_cons_zero]; rfl)
                case hQr16u21 => exact fun _ _ _ h => h
                case hwr16u21 => rfl
                case hyr16u21 => (intro w hSw; (have s := hSw.at_ HQ5.out (by simp); have q0 := s.cell 0; have q1 := s.cell 1; have q2 := s.cell 2; have q3 := s.cell 3; have q4 := s.cell 4; have q5 := s.cell 5; have q6 := s.cell 6; have q7 := s.cell 7; have q8 := s.cell 8; have q9 := s.cell 9; have q10 := s.cell 10; have q11 := s.cell 11; have q12 := s.cell 12; have q13 := s.cell 13; have s := hSw.at_ HB5.out (by simp); have s0 := s.cell 0; have s1 := s.cell 1; have s2 := s.cell 2; have s3 := s.cell 3; have s4 := s.cell 4; have s5 := s.cell 5; have s6 := s.cell 6; have s7 := s.cell 7; have t := hSw.at_ HT5.out (by simp); have t0 := t.cell 0; have t1 := t.cell 1; have t2 := t.cell 2; simp at q0 q1 q2 q3 q4 q5 q6 q7 q8 q9 q10 q11 q12 q13 s0 s1 s2 s3 s4 s5 s6 s7 t0 t1 t2); go_simp <;> with_reducible rfl)
                try simp only [Act.put, List.setIfInBounds_toArray, List.set_cons_zero, List.set_cons_succ]
                refine wpAnyC_take0 (i := 21) (oi := ?oir16u22) (v := ?vr16u22) ?hir16u22 (by kernel_rfl) (by kernel_rfl) (by kernel_rfl) (by kernel_rfl) ?hQr16u22 ?hwr16u22 ?hyr16u22 ((((hT17.more 17).more 18).more 19).more 20) ?_
                case hir16u22 => (simp only [List.getElem?_toArray, List.getElem?_cons_succ, List.getElem?_cons_zero]; rfl)
                case hQr16u22 => exact fun _ _ _ h => h
                case hwr16u22 => rfl
                case hyr16u22 => (intro w; go_simp <;> with_reducible rfl)
                try simp only [Act.put, List.setIfInBounds_toArray, List.set_cons_zero, List.set_cons_succ]
                refine wpAnyC_take0 (i := 22) (oi := ?oir16u23) (v := ?vr16u23) ?hir16u23 (by kernel_rfl) (by kernel_rfl) (by kernel_rfl) (by kernel_rfl) ?hQr16u23 ?hwr16u23 ?hyr16u23 (((((hT17.more 17).more 18).more 19).more 20).more 21) ?_
                case hir16u23 => (simp only [List.getElem?_toArray, List.getElem?_cons_succ, List.getElem?_cons_zero]; rfl)
                case hQr16u23 => exact fun _ _ _ h => h
                case hwr16u23 => rfl
                case hyr16u23 => (intro w; go_simp <;> with_reducible rfl)
                try simp only [Act.put, List.setIfInBounds_toArray, List.set_cons_zero, List.set_cons_succ]
                refine wpAnyC_take0 (i := 23) (oi := ?oir16u24) (v := ?vr16u24) ?hir16u24 (by kernel_rfl) (by kernel_rfl) (by kernel_rfl) (by kernel_rfl) ?hQr16u24 ?hwr16u24 ?hyr16u24 ((((((hT17.more 17).more 18).more 19).more 20).more 21).more 22) ?_
                case hir16u24 => (simp only [List.getElem?_toArray, List.getElem?_cons_succ, List.getElem?_cons_zero]; rfl)
                case hQr16u24 => exact fun _ _ _ h => h
                case hwr16u24 => rfl
                case hyr16u24 => (intro w; go_simp <;> with_reducible rfl)
                try simp only [Act.put, List.setIfInBounds_toArray, List.set_cons_zero, List.set_cons_succ]
                refine wpAnyC_take0 (i := 24) (oi := ?oir16u25) (v := ?vr16u25) ?hir16u25 (by kernel_rfl) (by kernel_rfl) (by kernel_rfl) (by kernel_rfl) ?hQr16u25 ?hwr16u25 ?hyr16u25 (((((((hT17.more 17).more 18).more 19).more 20).more 21).more 22).more 23) ?_
                case hir16u25 => (simp only [List.getElem?_toArray, List.getElem?_cons_succ, List.getElem?_cons_zero]; rfl)
                case hQr16u25 => exact fun _ _ _ h => h
                case hwr16u25 => rfl
                case hyr16u25 => (intro w; go_simp <;> with_reducible rfl)
                try simp only [Act.put, List.setIfInBounds_toArray, List.set_cons_zero, List.set_cons_succ]
                refine wpAnyC_take0 (i := 25) (oi := ?oir16u26) (v := ?vr16u26) ?hir16u26 (by kernel_rfl) (by kernel_rfl) (by kernel_rfl) (by kernel_rfl) ?hQr16u26 ?hwr16u26 ?hyr16u26 ((((((((hT17.more 17).more 18).more 19).more 20).more 21).more 22).more 23).more 24) ?_
                case hir16u26 => (simp only [List.getElem?_toArray, List.getElem?_cons_succ, List.getElem?_cons_zero]; rfl)
                case hQr16u26 => exact fun _ _ _ h => h
                case hwr16u26 => rfl
                case hyr16u26 => (intro w; go_simp <;> with_reducible rfl)
                try simp only [Act.put, List.setIfInBounds_toArray, List.set_cons_zero, List.set_cons_succ]
                refine wpAnyC_take0 (i := 26) (oi := ?oir16u27) (v := ?vr16u27) ?hir16u27 (by kernel_rfl) (by kernel_rfl) (by kernel_rfl) (by kernel_rfl) ?hQr16u27 ?hwr16u27 ?hyr16u27 (((((((((hT17.more 17).more 18).more 19).more 20).more 21).more 22).more 23).more 24).more 25) ?_
                case hir16u27 => (simp only [List.getElem?_toArray, List.getElem?_cons_succ, List.getElem?_cons_zero]; rfl)
                case hQr16u27 => exact fun _ _ _ h => h
                case hwr16u27 => rfl
                case hyr16u27 => (intro w; go_simp <;> with_reducible rfl)
                try simp only [Act.put, List.setIfInBounds_toArray, List.set_cons_zero, List.set_cons_succ]
                refine wpAnyC_take (i := 27) (oi := ?oir16u28) (v := ?vr16u28) [27, 43] ?hir16u28 (by kernel_rfl) (by kernel_rfl) (by kernel_rfl) (by kernel_rfl) ?hQr16u28 (.inl ⟨?hwr16u28, ?hyr16u28⟩) (((((((((((hT17.more 17).more 18).more 19).more 20).more 21).more 22).more 23).more 24).more 25).more 26).resolve_left (by decide)) ?_
                case hir16u28 => (simp only [List.getElem?_toArray, List.getElem?_cons_succ, List.getElem?_cons_zero]; rfl)
                case hQr16u28 => exact fun _ _ _ h => h
                case hwr16u28 => rfl
                case hyr16u28 => (intro w hSw; (have s := hSw.at_ HQ5.out (by simp); have q0 := s.cell 0; have q1 := s.cell 1; have q2 := s.cell 2; have q3 := s.cell 3; have q4 := s.cell 4; have q5 := s.cell 5; have q6 := s.cell 6; have q7 := s.cell 7; have q8 := s.cell 8; have q9 := s.cell 9; have q10 := s.cell 10; have q11 := s.cell 11; have q12 := s.cell 12; have q13 := s.cell 13; have s := hSw.at_ HB5.out (by simp); have s0 := s.cell 0; have s1 := s.cell 1; have s2 := s.cell 2; have s3 := s.cell 3; have s4 := s.cell 4; have s5 := s.cell 5; have s6 := s.cell 6; have s7 := s.cell 7; have t := hSw.at_ HT5.out (by simp); have t0 := t.cell 0; have t1 := t.cell 1; have t2 := t.cell 2; simp at q0 q1 q2 q3 q4 q5 q6 q7 q8 q9 q10 q11 q12 q13 s0 s1 s2 s3 s4 s5 s6 s7 t0 t1 t2); go_simp <;> with_reducible rfl)
                try simp only [Act.put, List.setIfInBounds_toArray, List.set_cons_zero, List.set_cons_succ]
                refine wpAnyC_take0 (i := 28) (oi := ?oir16u29) (v := ?vr16u29) ?hir16u29 (by kernel_rfl) (by kernel_rfl) (by kernel_rfl) (by kernel_rfl) ?hQr16u29 ?hwr16u29 ?hyr16u29 (((((((((((hT17.more 17).more 18).more 19).more 20).more 21).more 22).more 23).more 24).more 25).more 26).more 27) ?_
                case hir16u29 => (simp only [List.getElem?_toArray, List.getElem?_cons_succ, List.getElem?_cons_zero]; rfl)
                case hQr16u29 => exact fun _ _ _ h => h
                case hwr16u29 => rfl
                case hyr16u29 => (intro w; go_simp <;> with_reducible rfl)
                try simp only [Act.put, List.setIfInBounds_toArray, List.set_cons_zero, List.set_cons_succ]
                refine wpAnyC_take0 (i := 29) (oi := ?oir16u30) (v := ?vr16u30) ?hir16u30 (by kernel_rfl) (by kernel_rfl) (by kernel_rfl) (by kernel_rfl) ?hQr16u30 ?hwr16u30 ?hyr16u30 ((((((((((((hT17.more 17).more 18).more 19).more 20).more 21).more 22).more 23).more 24).more 25).more 26).more 27).more 28) ?_
                case hir16u30 => (simp only [List.getElem?_toArray, List.getElem?_cons_succ, List.getElem?_cons_zero]; rfl)
                case hQr16u30 => exact fun _ _ _ h => h
                case hwr16u30 => rfl
                case hyr16u30 => (intro w; go_simp <;> with_reducible rfl)
                try simp only [Act.put, List.setIfInBounds_toArray, List.set_cons_zero, List.set_cons_succ]
                refine wpAnyC_take0 (i := 30) (oi := ?oir16u31) (v := ?vr16u31) ?hir16u31 (by kernel_rfl) (by kernel_rfl) (by kernel_rfl) (by kernel_rfl) ?hQr16u31 ?hwr16u31 ?hyr16u31 (((((((((((((hT17.more 17).more 18).more 19).more 20).more 21).more 22).more 23).more 24).more 25).more 26).more 27).more 28).more 29) ?_
                case hir16u31 => (simp only [List.getElem?_toArray, List.getElem?_cons_succ, List.getElem?_cons_zero]; rfl)
                case hQr16u31 => exact fun _ _ _ h => h
                case hwr16u31 => rfl
                case hyr16u31 => (intro w; go_simp <;> with_reducible rfl)
                try simp only [Act.put, List.setIfInBounds_toArray, List.set_cons_zero, List.set_cons_succ]
                refine wpAnyC_take0 (i := 31) (oi := ?oir16u32) (v := ?vr16u32) ?hir16u32 (by kernel_rfl) (by kernel_rfl) (by kernel_rfl) (by kernel_rfl) ?hQr16u32 ?hwr16u32 ?hyr16u32 ((((((((((((((hT17.more 17).more 18).more 19).more 20).more 21).more 22).more 23).more 24).more 25).more 26).more 27).more 28).more 29).more 30) ?_
                case hir16u32 => (simp only [List.getElem?_toArray, List.getElem?_cons_succ, List.getElem?_cons_zero]; rfl)
                case hQr16u32 => exact fun _ _ _ h => h
                case hwr16u32 => rfl
                case hyr16u32 => (intro w; go_simp <;> with_reducible rfl)
                try simp only [Act.put, List.setIfInBounds_toArray, List.set_cons_zero, List.set_cons_succ]
                refine wpAnyC_take0 (i := 32) (oi := ?oir16u33) (v := ?vr16u33) ?hir16u33 (by kernel_rfl) (by kernel_rfl) (by kernel_rfl) (by kernel_rfl) ?hQr16u33 ?hwr16u33 ?hyr16u33 (((((((((((((((hT17.more 17).more 18).more 19).more 20).more 21).more 22).more 23).more 24).more 25).more 26).more 27).more 28).more 29).more 30).more 31) ?_
                case hir16u33 => (simp only [List.getElem?_toArray, List.getElem?_cons_succ, List.getElem?_cons_zero]; rfl)
                case hQr16u33 => exact fun _ _ _ h => h
                case hwr16u33 => rfl
                case hyr16u33 => (intro w; go_simp <;> with_reducible rfl)
                try simp only [Act.put, List.setIfInBounds_toArray, List.set_cons_zero, List.set_cons_succ]
                refine wpAnyC_take (i := 33) (oi := ?oir16u34) (v := ?vr16u34) [33, 43] ?hir16u34 (by kernel_rfl) (by kernel_rfl) (by kernel_rfl) (by kernel_rfl) ?hQr16u34 (.inl ⟨?hwr16u34, ?hyr16u34⟩) (((((((((((((((((hT17.more 17).more 18).more 19).more 20).more 21).more 22).more 23).more 24).more 25).more 26).more 27).more 28).more 29).more 30).more 31).more 32).resolve_left (by decide)) ?_
                case hir16u34 => (simp only [List.getElem?_toArray, List.getElem?_cons_succ, List.getElem?_cons_zero]; rfl)
                case hQr16u34 => exact fun _ _ _ h => h
                case hwr16u34 => rfl
                case hyr16u34 => (intro w hSw; (have s := hSw.at_ HQ5.out (by simp); have q0 := s.cell 0; have q1 := s.cell 1; have q2 := s.cell 2; have q3 := s.cell 3; have q4 := s.cell 4; have q5 := s.cell 5; have q6 := s.cell 6; have q7 := s.cell 7; have q8 := s.cell 8; have q9 := s.cell 9; have q10 := s.cell 10; have q11 := s.cell 11; have q12 := s.cell 12; have q13 := s.cell 13; have s := hSw.at_ HB5.out (by simp); have s0 := s.cell 0; have s1 := s.cell 1; have s2 := s.cell 2; have s3 := s.cell 3; have s4 := s.cell 4; have s5 := s.cell 5; have s6 := s.cell 6; have s7 := s.cell 7; have t := hSw.at_ HT5.out (by simp); have t0 := t.cell 0; have t1 := t.cell 1; have t2 := t.cell 2; simp at q0 q1 q2 q3 q4 q5 q6 q7 q8 q9 q10 q11 q12 q13 s0 s1 s2 s3 s4 s5 s6 s7 t0 t1 t2); go_simp <;> with_reducible rfl)
                try simp only [Act.put, List.setIfInBounds_toArray, List.set_cons_zero, List.set_cons_succ]
                refine wpAnyC_take0 (i := 34) (oi := ?oir16u35) (v := ?vr16u35) ?hir16u35 (by kernel_rfl) (by kernel_rfl) (by kernel_rfl) (by kernel_rfl) ?hQr16u35 ?hwr16u35 ?hyr16u35 (((((((((((((((((hT17.more 17).more 18).more 19).more 20).more 21).more 22).more 23).more 24).more 25).more 26).more 27).more 28).more 29).more 30).more 31).more 32).more 33) ?_
                case hir16u35 => (simp only [List.getElem?_toArray, List.getElem?_cons_succ, List.getElem?_cons_zero]; rfl)
                case hQr16u35 => exact fun _ _ _ h => h
                case hwr16u35 => rfl
                case hyr16u35 => (intro w; go_simp <;> with_reducible rfl)
                try simp only [Act.put, List.setIfInBounds_toArray, List.set_cons_zero, List.set_cons_succ]
                refine wpAnyC_take0 (i := 35) (oi := ?oir16u36) (v := ?vr16u36) ?hir16u36 (by kernel_rfl) (by kernel_rfl) (by kernel_rfl) (by kernel_rfl) ?hQr16u36 ?hwr16u36 ?hyr16u36 ((((((((((((((((((hT17.more 17).more 18).more 19).more 20).more 21).more 22).more 23).more 24).more 25).more 26).more 27).more 28).more 29).more 30).more 31).more 32).more 33).more 34) ?_
                case hir16u36 => (simp only [List.getElem?_toArray, List.getElem?_cons_succ, List.getElem?_cons_zero]; rfl)
                case hQr16u36 => exact fun _ _ _ h => h
                case hwr16u36 => rfl
                case hyr16u36 => (intro w; go_simp <;> with_reducible rfl)
                try simp only [Act.put, List.setIfInBounds_toArray, List.set_cons_zero, List.set_cons_succ]
                refine wpAnyC_take0 (i := 36) (oi := ?oir16u37) (v := ?vr16u37) ?hir16u37 (by kernel_rfl) (by kernel_rfl) (by kernel_rfl) (by kernel_rfl) ?hQr16u37 ?hwr16u37 ?hyr16u37 (((((((((((((((((((hT17.more 17).more 18).more 19).more 20).more 21).more 22).more 23).more 24).more 25).more 26).more 27).more 28).more 29).more 30).more 31).more 32).more 33).more 34).more 35) ?_
                case hir16u37 => (simp only [List.getElem?_toArray, List.getElem?_cons_succ, List.getElem?_cons_zero]; rfl)
                case hQr16u37 => exact fun _ _ _ h => h
                case hwr16u37 => rfl
                case hyr16u37 => (intro w; go_simp <;> with_reducible rfl)
                try simp only [Act.put, List.setIfInBounds_toArray, List.set_cons_zero, List.set_cons_succ]
                refine wpAnyC_take0 (i := 37) (oi := ?oir16u38) (v := ?vr16u38) ?hir16u38 (by kernel_rfl) (by kernel_rfl) (by kernel_rfl) (by kernel_rfl) ?hQr16u38 ?hwr16u38 ?hyr16u38 ((((((((((((((((((((hT17.more 17).more 18).more 19).more 20).more 21).more 22).more 23).more 24).more 25).more 26).more 27).more 28).more 29).more 30).more 31).more 32).more 33).more 34).more 35).more 36) ?_
                case hir16u38 => (simp only [List.getElem?_toArray, List.getElem?_cons_succ, List.getElem?_cons_zero]; rfl)
                case hQr16u38 => exact fun _ _ _ h => h
                case hwr16u38 => rfl
                case hyr16u38 => (intro w; go_simp <;> with_reducible rfl)
                try simp only [Act.put, List.setIfInBounds_toArray, List.set_cons_zero, List.set_cons_succ]
                refine wpAnyC_take0 (i := 38) (oi := ?oir16u39) (v := ?vr16u39) ?hir16u39 (by kernel_rfl) (by kernel_rfl) (by kernel_rfl) (by kernel_rfl) ?hQr16u39 ?hwr16u39 ?hyr16u39 (((((((((((((((((((((hT17.more 17).more 18).more 19).more 20).more 21).more 22).more 23).more 24).more 25).more 26).more 27).more 28).more 29).more 30).more 31).more 32).more 33).more 34).more 35).more 36).more 37) ?_
                case hir16u39 => (simp only [List.getElem?_toArray, List.getElem?_cons_succ, List.getElem?_cons_zero]; rfl)
                case hQr16u39 => exact fun _ _ _ h => h
                case hwr16u39 => rfl
                case hyr16u39 => (intro w; go_simp <;> with_reducible rfl)
                try simp only [Act.put, List.setIfInBounds_toArray, List.set_cons_zero, List.set_cons_succ]
                refine wpAnyC_take (i := 39) (oi := ?oir16u40) (v := ?vr16u40) [39, 43] ?hir16u40 (by kernel_rfl) (by kernel_rfl) (by kernel_rfl) (by kernel_rfl) ?hQr16u40 (.inl ⟨?hwr16u40, ?hyr16u40⟩) (((((((((((((((((((((((hT17.more 17).more 18).more 19).more 20).more 21).more 22).more 23).more 24).more 25).more 26).more 27).more 28).more 29).more 30).more 31).more 32).more 33).more 34).more 35).more 36).more 37).more 38).resolve_left (by decide)) ?_
                case hir16u40 => (simp only [List.getElem?_toArray, List.getElem?_cons_succ, List.getElem?_cons_zero]; rfl)
                case hQr16u40 => exact fun _ _ _ h => h
                case hwr16u40 => rfl
                case hyr16u40 => (intro w hSw; (have s := hSw.at_ HQ5.out (by simp); have q0 := s.cell 0; have q1 := s.cell 1; have q2 := s.cell 2; have q3 := s.cell 3; have q4 := s.cell 4; have q5 := s.cell 5; have q6 := s.cell 6; have q7 := s.cell 7; have q8 := s.cell 8; have q9 := s.cell 9; have q10 := s.cell 10; have q11 := s.cell 11; have q12 := s.cell 12; have q13 := s.cell 13; have s := hSw.at_ HB5.out (by simp); have s0 := s.cell 0; have s1 := s.cell 1; have s2 := s.cell 2; have s3 := s.cell 3; have s4 := s.cell 4; have s5 := s.cell 5; have s6 := s.cell 6; have s7 := s.cell 7; have t := hSw.at_ HT5.out (by simp); have t0 := t.cell 0; have t1 := t.cell 1; have t2 := t.cell 2; simp at q0 q1 q2 q3 q4 q5 q6 q7 q8 q9 q10 q11 q12 q13 s0 s1 s2 s3 s4 s5 s6 s7 t0 t1 t2); go_simp <;> with_reducible rfl)
                try simp only [Act.put, List.setIfInBounds_toArray, List.set_cons_zero, List.set_cons_succ]
                refine wpAnyC_take0 (i := 40) (oi := ?oir16u41) (v := ?vr16u41) ?hir16u41 (by kernel_rfl) (by kernel_rfl) (by kernel_rfl) (by kernel_rfl) ?hQr16u41 ?hwr16u41 ?hyr16u41 (((((((((((((((((((((((hT17.more 17).more 18).more 19).more 20).more 21).more 22).more 23).more 24).more 25).more 26).more 27).more 28).more 29).more 30).more 31).more 32).more 33).more 34).more 35).more 36).more 37).more 38).more 39) ?_
                case hir16u41 => (simp only [List.getElem?_toArray, List.getElem?_cons_succ, List.getElem?_cons_zero]; rfl)
                case hQr16u41 => exact fun _ _ _ h => h
                case hwr16u41 => rfl
                case hyr16u41 => (intro w; go_simp <;> with_reducible rfl)
                try simp only [Act.put, List.setIfInBounds_toArray, List.set_cons_zero, List.set_cons_succ]
                refine wpAnyC_take0 (i := 41) (oi := ?oir16u42) (v := ?vr16u42) ?hir16u42 (by kernel_rfl) (by kernel_rfl) (by kernel_rfl) (by kernel_rfl) ?hQr16u42 ?hwr16u42 ?hyr16u42 ((((((((((((((((((((((((hT17.more 17).more 18).more 19).more 20).more 21).more 22).more 23).more 24).more 25).more 26).more 27).more 28).more 29).more 30).more 31).more 32).more 33).more 34).more 35).more 36).more 37).more 38).more 39).more 40) ?_
                case hir16u42 => (simp only [List.getElem?_toArray, List.getElem?_cons_succ, List.getElem?_cons_zero]; rfl)
                case hQr16u42 => exact fun _ _ _ h => h
                case hwr16u42 => rfl
                case hyr16u42 => (intro w; go_simp <;> with_reducible rfl)
                try simp only [Act.put, List.setIfInBounds_toArray, List.set_cons_zero, List.set_cons_succ]
                refine wpAnyC_take0 (i := 42) (oi := ?oir16u43) (v := ?vr16u43) ?hir16u43 (by kernel_rfl) (by kernel_rfl) (by kernel_rfl) (by kernel_rfl) ?hQr16u43 ?hwr16u43 ?hyr16u43 (((((((((((((((((((((((((hT17.more 17).more 18).more 19).more 20).more 21).more 22).more 23).more 24).more 25).more 26).more 27).more 28).more 29).more 30).more 31).more 32).more 33).more 34).more 35).more 36).more 37).more 38).more 39).more 40).more 41) ?_
                case hir16u43 => (simp only [List.getElem?_toArray, List.getElem?_cons_succ, List.getElem?_cons_zero]; rfl)
                case hQr16u43 => exact fun _ _ _ h => h
                case hwr16u43 => rfl
                case hyr16u43 => (intro w; go_simp <;> with_reducible rfl)
                try simp only [Act.put, List.setIfInBounds_toArray, List.set_cons_zero, List.set_cons_succ]
                have hSx := ((((((((((((((((((((((((((hT17.more 17).more 18).more 19).more 20).more 21).more 22).more 23).more 24).more 25).more 26).more 27).more 28).more 29).more 30).more 31).more 32).more 33).more 34).more 35).more 36).more 37).more 38).more 39).more 40).more 41).more 42).resolve_left (by decide)
                refine wpAnyC_ready (rs := [43]) (by kernel_rfl) (by simp) ?_
                refine ReadyC.cons (o := ?or16u44) ?hor16u44 ?hstepr16u44 ?_
                case hor16u44 => (simp only [List.getElem?_toArray, List.getElem?_cons_succ, List.getElem?_cons_zero]; rfl)
                case hstepr16u44 =>
                  intro K hK
                  go_simp
                  refine hK.out _ _ (.inl rfl) (fun hHeld => ?_)
                  have hT44 := hHeld
                  clear hHeld
                  clear hK K
                  try simp only [Act.put, List.setIfInBounds_toArray, List.set_cons_zero, List.set_cons_succ]
                  refine wpAnyC_done (by kernel_rfl) ?_ _
                  refine NoPanic.normal ?_
                  go_wp2_with fail
                  go_ret
                  exact ⟨rfl, HF5.out.then_ hSx⟩
                exact ReadyC.nil
              exact ReadyC.nil
            exact ReadyC.nil
          exact ReadyC.nil
        exact ReadyC.nil
      exact ReadyC.nil

end Go.Proofs.Ytbjccgahmgpkjaa
