/- The reference's Check walked. -/
import Derived.Test.YtbjccgahmgpkjaaRefE
namespace Go.Proofs.Ytbjccgahmgpkjaa
open Go.RowKit
set_option linter.unusedVariables false

set_option maxRecDepth 100000 in
set_option maxHeartbeats 8000000 in
theorem rcheck_calls (w : World) (H : Hd) (C : Pc) (h : CiAt w H C) (hnil : H.iA = none → C.ins.length = 0 ∧ H.iC = 0) :
    Calls Try.prog 7 #[cval H C] w (ChkP C w) := by
  have HH := Lib.hid h
  have HNIL := Lib.hid hnil
  have hgL := h.gL
  have hlL := h.lL
  have hmr := h.mr
  unfold R64 at hmr
  obtain ⟨hm1, hm2⟩ := hmr
  clear h hnil
  have HS := Lib.hid (Cx.start w H C)
  have NO : Hid (∀ W, ¬ Valid C → Fr [] w W → ChkP C w (.returned (.int .i64 9)) W) := fun W h1 h2 => chk_no h1 h2
  have YES : Hid (∀ W, Valid C → Fr [] w W → ChkP C w (.returned (.int .i64 0)) W) := fun W h1 h2 => chk_yes h1 h2
  have KC := Lib.hid (fun W l hW hl => rknown_calls W H C l hW hl)
  have KN := Lib.hid (fun W hW => rnames_calls W H C hW)
  have KA := Lib.hid (fun W A c xs hW hx hr hl => rall_calls W H C A c xs hW hx hr hl)
  have VV := Lib.hid (fun V : Valid C => V)
  have RG := Lib.hid (rfl : ChkP C w = ChkP C w)
  obtain ⟨mx, ins, lat, outs, bads, invs, ands, nms⟩ := C
  obtain ⟨iA, iC, lA, lC, oA, oC, bA, bC, vA, vC, gA, gC, nA, nC⟩ := H
  simp only [cval, cvs] at *
  by_cases m0 : mx < 0
  · have d0 : decide (mx < 0) = true := decide_eq_true m0
    go_enter Try.func7, Try.ntmps7
    go_wp2_with fail
    go_ret
    exact NO.out _ (fun hv => by have := hv.m0; simp only at this; omega) HS.out.fr
  · have d0 : decide (mx < 0) = false := decide_eq_false m0
    by_cases m1 : 2048 < mx
    · have d1 : decide (2048 < mx) = true := decide_eq_true m1
      go_enter Try.func7, Try.ntmps7
      go_wp2_with fail
      go_ret
      exact NO.out _ (fun hv => by have := hv.m1; simp only at this; omega) HS.out.fr
    · have d1 : decide (2048 < mx) = false := decide_eq_false m1
      by_cases m2 : 64 < ins.length
      · have d2 : decide (64 < (ins.length : Int)) = true := decide_eq_true (by omega)
        have d2' : decide (64 < ins.length) = true := decide_eq_true m2
        go_enter Try.func7, Try.ntmps7
        go_wp2_with fail
        go_ret
        exact NO.out _ (fun hv => by have := hv.i; simp only at this; omega) HS.out.fr
      · have d2 : decide (64 < (ins.length : Int)) = false := decide_eq_false (by omega)
        have d2' : decide (64 < ins.length) = false := decide_eq_false m2
        by_cases m3 : 64 < lat.length
        · have d3 : decide (64 < (lat.length : Int)) = true := decide_eq_true (by omega)
          have d3' : decide (64 < lat.length) = true := decide_eq_true m3
          go_enter Try.func7, Try.ntmps7
          go_wp2_with fail
          go_ret
          exact NO.out _ (fun hv => by have := hv.l; simp only at this; omega) HS.out.fr
        · have d3 : decide (64 < (lat.length : Int)) = false := decide_eq_false (by omega)
          have d3' : decide (64 < lat.length) = false := decide_eq_false m3
          go_enter Try.func7, Try.ntmps7
          go_wp2_with fail
          refine (KN.out _ (HH.out.keep HS.out.fr)).mono ?_
          obtain ⟨nb, HNM⟩ : ∃ nb, Hid (namesB ⟨mx, ins, lat, outs, bads, invs, ands, nms⟩ = nb) := ⟨_, rfl⟩
          rw [HNM.out]
          rintro e w1 ⟨rfl, hf⟩
          have HX := Lib.hid (HS.out.keep hf)
          clear hf
          cases nb with
          | false =>
            go_wp2_with fail
            go_ret
            exact NO.out _ (fun hv => by have := hv.n; rw [HNM.out] at this; cases this) HX.out.fr
          | true =>
            have hx := HX.out
            obtain ⟨c0, c1, c2, c3, c4, c5, c6, c7⟩ := hx.cells
            clear hx
            simp only at c0 c1 c2 c3 c4 c5 c6 c7
            have hlt1 := HX.out.lt
            go_upto_region 5 with (at_builtin; refine wpList_append_rs _ rfl _ _ 22 rfl 3 (.int .i64 0) 1 8 Try.underlying22 infoInt rfl (by decide) none 0 0 rfl [] (World.ownsRow_nil _ 0 _ 1) iA ins.length iC rfl (ins.map (Value.int .i64)) (by simp) (HNIL.out) ((HH.out.keep HX.out.fr).i.rs) (by simp [Value.oneCell']) (by unfold maxLen; omega) (by omega) ?_; intro A2 cap w2 hi2 hf2 hg2 hs2 hn2; have HI2 := Lib.hid hi2; have HF2 := Lib.hid hf2; have HG2 := Lib.hid hg2; clear hi2 hf2 hg2 hs2 hn2)
            have HK1 : Hid (∃ l, Ck w w2 ⟨iA, iC, lA, lC, oA, oC, bA, bC, vA, vC, gA, gC, nA, nC⟩ ⟨mx, ins, lat, outs, bads, invs, ands, nms⟩ A2 cap l ∧ l = ins ++ (lat.take 0).map (fun x => x.a)) := ⟨ins, ⟨⟨(HX.out.fr).trans HF2.out (fun x hx => (by cases hx)), HF2.out.at_ HX.out.bx (by simp [blks])⟩, by have := HI2.out; unfold Ints; simpa using this, fun k hk => by
              rcases HG2.out k hk with h | h
              · simp [blks] at h
              · rw [h]; exact hlt1⟩, by simp⟩
            clear HI2 HF2 HG2 c0 c1 c2 c3 c4 c5 c6 c7 hlt1
            obtain ⟨l0, HC1, hl0⟩ := HK1
            have HC0 := Lib.hid HC1
            have HL0 := Lib.hid hl0
            have EL0 : Hid (ins.length = l0.length) := (by rw [hl0]; simp : ins.length = l0.length)
            clear HC1 hl0
            go_wp2_with fail
            go_loopg [3, 4] lat.length (fun g s3 i wr => ∃ (k : Nat) (A : Option Addr) (c : Nat) (l : List Int), k + g = lat.length ∧ i = .int .i64 k ∧ s3 = .slice A l.length c ∧ Ck w wr ⟨iA, iC, lA, lC, oA, oC, bA, bC, vA, vC, gA, gC, nA, nC⟩ ⟨mx, ins, lat, outs, bads, invs, ands, nms⟩ A c l ∧ Hid (l = ins ++ (lat.take k).map (fun x => x.a)) ∧ LatTo ⟨mx, ins, lat, outs, bads, invs, ands, nms⟩ k)
            case atStart => exact ⟨0, A2, cap, l0, by omega, rfl, by rw [EL0.out], HC0.out, HL0, LatTo.zero _⟩
            case round =>
              obtain ⟨k, A, c, l, hk, rfl, rfl, hx, hl, hn⟩ := hrel
              have HK := Lib.hid hk
              have HX := Lib.hid hx
              have HN := Lib.hid hn
              have hkn : k ≤ lat.length := by omega
              obtain ⟨c0, c1, c2, c3, c4, c5, c6, c7⟩ := hx.cx.cells
              clear hk hx hn
              simp only at c0 c1 c2 c3 c4 c5 c6 c7
              have hlen : l.length ≤ 128 := by rw [hl.out]; simp; omega
              by_cases hlt : k < lat.length
              · obtain ⟨b, o, x, y, z, hA, he, cx, cy, cz, ⟨hx1, hx2⟩, ⟨hy1, hy2⟩, _, _⟩ := (HH.out.keep HX.out.cx.fr).l.one HH.out.lr hlt
                simp only at hA
                subst hA
                go_upto_region 9 with fail
                obtain ⟨W1, hW1⟩ : ∃ W, wr.alloc (.cells #[.int .i64 x, .int .i64 y, .int .i64 z] 67) = W := ⟨_, rfl⟩
                rw [hW1]
                have hO : At W1 wr.heap.size 67 #[.int .i64 x, .int .i64 y, .int .i64 z] := hW1 ▸ At.new _ _ _
                have HX1 : Hid (Fr [] wr W1) := hW1 ▸ box_fr _ _
                have HOB : Hid (wr.heap.size ∉ blks A) := fun hm => Nat.lt_irrefl _ (HX.out.own.lt _ hm)
                have hsz : wr.heap.size < W1.heap.size := hO.lt
                clear hW1 c0 c1 c2 c3 c4 c5 c6 c7 cx cy cz
                generalize wr.heap.size = ob at hO HOB hsz ⊢
                have HX2 := Lib.hid (HX.out.keep HX1.out)
                have HO := Lib.hid hO
                have c0 : W1.cell? ⟨ob, 0, none⟩ = some (.int .i64 x) := by rw [hO.cell]; rfl
                clear hO
                go_upto_region 10 with (at_builtin; refine wpList_append_int _ rfl _ _ rfl A c l _ rfl rfl (HX2.out.own.alloc _) ⟨W1.heap.size, 0, none⟩ 1 x rfl (by simp) (by omega) ?_; intro g2 cap w3 hi2 hf2 hg2 hs2; have HI2 := Lib.hid hi2; have HF2 := Lib.hid hf2; have HG2 := Lib.hid hg2; clear hi2 hf2 hg2 hs2)
                have HO3 := Lib.hid (HF2.out.at_ (HO.out.alloc _) HOB.out)
                have HX3 := Lib.hid ((HX2.out.keep (box_fr W1 _)).grow HI2.out HF2.out (fun k hk => by
                  simp only [blks, Option.map_some, Option.toList_some, List.mem_singleton] at hk
                  subst hk
                  rcases HG2.out with h | h
                  · exact .inl h
                  · exact .inr h) (Nat.lt_of_lt_of_le HX2.out.cx.lt (box_fr W1 _).size))
                clear HI2 HF2 HG2 c0
                have c0 : w3.cell? ⟨ob, 0, none⟩ = some (.int .i64 x) := by rw [HO3.out.cell]; rfl
                have c1 : w3.cell? ⟨ob, 1, none⟩ = some (.int .i64 y) := by rw [HO3.out.cell]; rfl
                have c2 : w3.cell? ⟨ob, 2, none⟩ = some (.int .i64 z) := by rw [HO3.out.cell]; rfl
                obtain ⟨lb, HB⟩ : ∃ lb, Hid (latB ⟨mx, ins, lat, outs, bads, invs, ands, nms⟩ ⟨x, y, z⟩ = lb) := ⟨_, rfl⟩
                go_cut [76] (fun st wx => st = .bool (!lb) ∧ Fr [] w3 wx)
                case first =>
                  obtain ⟨q, HQ⟩ : ∃ q, Hid (litB ⟨mx, ins, lat, outs, bads, invs, ands, nms⟩ y = q) := ⟨_, rfl⟩
                  obtain ⟨c0', c1', c2', c3', c4', c5', c6', c7'⟩ := HX3.out.cx.cells
                  simp only at c0' c1' c2' c3' c4' c5' c6' c7'
                  by_cases z0 : z = 0
                  · have b0 : (z != 0) = false := by simp [z0]
                    have Z0 := Lib.hid z0
                    clear z0
                    go_wp2_with fail
                    refine (KC.out _ y (HH.out.keep HX3.out.cx.fr) ⟨hy1, hy2⟩).mono ?_
                    rw [HQ.out]
                    rintro e w4 ⟨rfl, hf⟩
                    go_wp2_with fail
                    go_meet
                    exact ⟨by rw [← HB.out, latB, HQ.out]; simp [rstB, Z0.out], hf⟩
                  · have b0 : (z != 0) = true := by simp [z0]
                    have Z0 := Lib.hid z0
                    clear z0
                    by_cases z1 : z = 1
                    · have b1 : (z != 1) = false := by simp [z1]
                      have Z1 := Lib.hid z1
                      clear z1
                      go_wp2_with fail
                      refine (KC.out _ y (HH.out.keep HX3.out.cx.fr) ⟨hy1, hy2⟩).mono ?_
                      rw [HQ.out]
                      rintro e w4 ⟨rfl, hf⟩
                      go_wp2_with fail
                      go_meet
                      exact ⟨by rw [← HB.out, latB, HQ.out]; simp [rstB, Z1.out], hf⟩
                    · have b1 : (z != 1) = true := by simp [z1]
                      have Z1 := Lib.hid z1
                      clear z1
                      by_cases z2 : z = x
                      · have b2 : (z != x) = false := by simp [z2]
                        have Z2 := Lib.hid z2
                        clear z2
                        go_wp2_with fail
                        refine (KC.out _ y (HH.out.keep HX3.out.cx.fr) ⟨hy1, hy2⟩).mono ?_
                        rw [HQ.out]
                        rintro e w4 ⟨rfl, hf⟩
                        go_wp2_with fail
                        go_meet
                        exact ⟨by rw [← HB.out, latB, HQ.out]; simp [rstB, Z2.out], hf⟩
                      · have b2 : (z != x) = true := by simp [z2]
                        have Z2 := Lib.hid z2
                        clear z2
                        go_wp2_with fail
                        go_meet
                        exact ⟨by rw [← HB.out, latB]; simp [rstB, Z0.out, Z1.out, Z2.out], Fr.refl _ _⟩
                case rest =>
                  obtain ⟨rfl, hfc⟩ := hcut
                  have HX4 := Lib.hid (HX3.out.keep hfc)
                  clear hfc c0 c1 c2
                  cases lb with
                  | false =>
                    go_wp2_with fail
                    go_ret
                    exact NO.out _ (no_lat hlt (by rw [he.out]; exact HB.out)) HX4.out.cx.fr
                  | true =>
                    go_wp2_with fail
                    go_roundg (gk - 1)
                    case measure => have := HK.out; omega
                    case rel => exact ⟨k + 1, some ⟨g2, 0, none⟩, cap, l ++ [x], by have := HK.out; omega, by go_num, by rw [List.length_append]; rfl, HX4.out, (by rw [hl.out, take_snoc _ _ hlt, he.out]; simp : l ++ [x] = _), HN.out.step (by rw [he.out]; exact HB.out)⟩
              · obtain rfl : k = lat.length := by omega
                have HLT : Hid (LatTo ⟨mx, ins, lat, outs, bads, invs, ands, nms⟩ lat.length) := HN.out
                have HL1 : Hid (l = ins ++ lat.map (fun x => x.a)) := (by rw [hl.out, List.take_length] : l = _)
                have HCK := HX
                clear HN HK HX hl hkn hlt
                go_wp2_with fail
                clear c0 c1 c2 c3 c4 c5 c6 c7
                go_loopg [3, 6] ands.length (fun g s3 i wr => ∃ (k : Nat) (A : Option Addr) (c : Nat) (l : List Int), k + g = ands.length ∧ i = .int .i64 k ∧ s3 = .slice A l.length c ∧ Ck w wr ⟨iA, iC, lA, lC, oA, oC, bA, bC, vA, vC, gA, gC, nA, nC⟩ ⟨mx, ins, lat, outs, bads, invs, ands, nms⟩ A c l ∧ Hid (l = ins ++ lat.map (fun x => x.a) ++ (ands.take k).map (fun x => x.a)) ∧ AndTo ⟨mx, ins, lat, outs, bads, invs, ands, nms⟩ k)
                case atStart => exact ⟨0, A, c, l, by omega, rfl, rfl, HCK.out, (by rw [HL1.out]; simp : l = _), AndTo.zero _⟩
                case round =>
                  clear HL1 HCK HL0 HC0 EL0
                  obtain ⟨k, A, c, l, hk, rfl, rfl, hx, hl, hn⟩ := hrel
                  have HK := Lib.hid hk
                  have HX := Lib.hid hx
                  have HN := Lib.hid hn
                  have hkn : k ≤ ands.length := by omega
                  obtain ⟨c0, c1, c2, c3, c4, c5, c6, c7⟩ := hx.cx.cells
                  clear hk hx hn
                  simp only at c0 c1 c2 c3 c4 c5 c6 c7
                  have hlen : l.length ≤ 128 + ands.length := by rw [hl.out]; simp; omega
                  by_cases hlt : k < ands.length
                  · obtain ⟨b, o, x, y, z, hA, he, cx, cy, cz, ⟨hx1, hx2⟩, ⟨hy1, hy2⟩, hz1, hz2⟩ := (HH.out.keep HX.out.cx.fr).g.one HH.out.gr hlt
                    simp only at hA
                    subst hA
                    go_upto_region 16 with fail
                    obtain ⟨W1, hW1⟩ : ∃ W, wr.alloc (.cells #[.int .i64 x, .int .i64 y, .int .i64 z] 70) = W := ⟨_, rfl⟩
                    rw [hW1]
                    have hO : At W1 wr.heap.size 70 #[.int .i64 x, .int .i64 y, .int .i64 z] := hW1 ▸ At.new _ _ _
                    have HX1 : Hid (Fr [] wr W1) := hW1 ▸ box_fr _ _
                    have HOB : Hid (wr.heap.size ∉ blks A) := fun hm => Nat.lt_irrefl _ (HX.out.own.lt _ hm)
                    have hsz : wr.heap.size < W1.heap.size := hO.lt
                    clear hW1 c0 c1 c2 c3 c4 c5 c6 c7 cx cy cz
                    generalize wr.heap.size = ob at hO HOB hsz ⊢
                    have HX2 := Lib.hid (HX.out.keep HX1.out)
                    have HO := Lib.hid hO
                    have c0 : W1.cell? ⟨ob, 0, none⟩ = some (.int .i64 x) := by rw [hO.cell]; rfl
                    clear hO
                    go_upto_region 17 with (at_builtin; refine wpList_append_int _ rfl _ _ rfl A c l _ rfl rfl (HX2.out.own.alloc _) ⟨W1.heap.size, 0, none⟩ 1 x rfl (by simp) (by omega) ?_; intro g2 cap w3 hi2 hf2 hg2 hs2; have HI2 := Lib.hid hi2; have HF2 := Lib.hid hf2; have HG2 := Lib.hid hg2; clear hi2 hf2 hg2 hs2)
                    have HO3 := Lib.hid (HF2.out.at_ (HO.out.alloc _) HOB.out)
                    have HX3 := Lib.hid ((HX2.out.keep (box_fr W1 _)).grow HI2.out HF2.out (fun k hk => by
                      simp only [blks, Option.map_some, Option.toList_some, List.mem_singleton] at hk
                      subst hk
                      rcases HG2.out with h | h
                      · exact .inl h
                      · exact .inr h) (Nat.lt_of_lt_of_le HX2.out.cx.lt (box_fr W1 _).size))
                    clear HI2 HF2 HG2 c0
                    obtain ⟨pb, HPB⟩ : ∃ pb, Hid (andB ⟨mx, ins, lat, outs, bads, invs, ands, nms⟩ (prv ands k) ⟨x, y, z⟩ = pb) := ⟨_, rfl⟩
                    go_cut [135] (fun st wx => st = .bool (!pb) ∧ Fr [] w3 wx)
                    case first =>
                      have c0 : w3.cell? ⟨ob, 0, none⟩ = some (.int .i64 x) := by rw [HO3.out.cell]; rfl
                      have c1 : w3.cell? ⟨ob, 1, none⟩ = some (.int .i64 y) := by rw [HO3.out.cell]; rfl
                      have c2 : w3.cell? ⟨ob, 2, none⟩ = some (.int .i64 z) := by rw [HO3.out.cell]; rfl
                      have f0 := Ext.cell c0
                      have f1 := Ext.cell c1
                      have f2 := Ext.cell c2
                      clear c0 c1 c2
                      obtain ⟨e0, e1, e2, e3, e4, e5, e6, e7⟩ := HX3.out.cx.ext
                      simp only at e0 e1 e2 e3 e4 e5 e6 e7
                      by_cases hk0 : 0 < k
                      · obtain ⟨j, rfl⟩ : ∃ j, k = j + 1 := ⟨k - 1, by omega⟩
                        obtain ⟨b', o', x', y', z', hA', he', cx', cy', cz', ⟨hx1', hx2'⟩, _, _, _⟩ := (HH.out.keep HX3.out.cx.fr).g.one HH.out.gr (show j < ands.length by omega)
                        simp only [Option.some.injEq, Addr.mk.injEq, and_true] at hA'
                        obtain ⟨rfl, rfl⟩ := hA'
                        have g0 := Ext.cell cx'
                        clear cx' cy' cz'
                        have HPV : Hid (prv ands (j + 1) = some x') := (by rw [prv, if_neg (by omega), Nat.add_sub_cancel, he'.out] : prv ands (j + 1) = some x')
                        by_cases h0 : x' < x
                        · have d0 : decide (x ≤ x') = false := decide_eq_false (by omega)
                          have t0 : decide (x' < x) = true := decide_eq_true h0
                          by_cases h1 : y < x
                          · have d1 : decide (x ≤ y) = false := decide_eq_false (by omega)
                            have t1 : decide (y < x) = true := decide_eq_true h1
                            by_cases h2 : z < x
                            · have d2 : decide (x ≤ z) = false := decide_eq_false (by omega)
                              have t2 : decide (z < x) = true := decide_eq_true h2
                              rcases Bool.eq_false_or_eq_true (litB ⟨mx, ins, lat, outs, bads, invs, ands, nms⟩ y) with q1 | q1
                              · rcases Bool.eq_false_or_eq_true (litB ⟨mx, ins, lat, outs, bads, invs, ands, nms⟩ z) with q2 | q2
                                · as_aux_lemma =>
                                    go_wp2_with fail
                                    refine wp_region_ext (by kernel_rfl) (by kernel_rfl) ?_
                                    repeat (go_big_quiet_step (exact call_ext (KC.out _ _ (HH.out.keep (HX3.out.cx.fr.then_ (Ext.fr _))) (by unfold R64; omega))))
                                    refine wpQuiet_nil ?_
                                    rintro w4 ⟨u2, hu2⟩
                                    have HF_w4 : Hid (Fr [] w3 w4) := hu2 ▸ u2.fr
                                    clear hu2 u2
                                    go_wp2_with fail
                                    go_meet
                                    exact ⟨by rw [← HPB.out]; simp [andB, HPV.out, t0, t1, t2, q1, q2], HF_w4.out⟩
                                · as_aux_lemma =>
                                    go_wp2_with fail
                                    refine wp_region_ext (by kernel_rfl) (by kernel_rfl) ?_
                                    repeat (go_big_quiet_step (exact call_ext (KC.out _ _ (HH.out.keep (HX3.out.cx.fr.then_ (Ext.fr _))) (by unfold R64; omega))))
                                    refine wpQuiet_nil ?_
                                    rintro w4 ⟨u2, hu2⟩
                                    have HF_w4 : Hid (Fr [] w3 w4) := hu2 ▸ u2.fr
                                    clear hu2 u2
                                    go_wp2_with fail
                                    go_meet
                                    exact ⟨by rw [← HPB.out]; simp [andB, q2], HF_w4.out⟩
                              · as_aux_lemma =>
                                  go_wp2_with fail
                                  refine wp_region_ext (by kernel_rfl) (by kernel_rfl) ?_
                                  repeat (go_big_quiet_step (exact call_ext (KC.out _ _ (HH.out.keep (HX3.out.cx.fr.then_ (Ext.fr _))) (by unfold R64; omega))))
                                  refine wpQuiet_nil ?_
                                  rintro w4 ⟨u2, hu2⟩
                                  have HF_w4 : Hid (Fr [] w3 w4) := hu2 ▸ u2.fr
                                  clear hu2 u2
                                  go_wp2_with fail
                                  go_meet
                                  exact ⟨by rw [← HPB.out]; simp [andB, q1], HF_w4.out⟩
                            · have d2 : decide (x ≤ z) = true := decide_eq_true (by omega)
                              have t2 : decide (z < x) = false := decide_eq_false h2
                              as_aux_lemma =>
                                go_wp2_with fail
                                refine wp_region_ext (by kernel_rfl) (by kernel_rfl) ?_
                                repeat (go_big_quiet_step (exact call_ext (KC.out _ _ (HH.out.keep (HX3.out.cx.fr.then_ (Ext.fr _))) (by unfold R64; omega))))
                                refine wpQuiet_nil ?_
                                rintro w4 ⟨u2, hu2⟩
                                have HF_w4 : Hid (Fr [] w3 w4) := hu2 ▸ u2.fr
                                clear hu2 u2
                                go_wp2_with fail
                                go_meet
                                exact ⟨by rw [← HPB.out]; simp [andB, t2], HF_w4.out⟩
                          · have d1 : decide (x ≤ y) = true := decide_eq_true (by omega)
                            have t1 : decide (y < x) = false := decide_eq_false h1
                            as_aux_lemma =>
                              go_wp2_with fail
                              refine wp_region_ext (by kernel_rfl) (by kernel_rfl) ?_
                              repeat (go_big_quiet_step (exact call_ext (KC.out _ _ (HH.out.keep (HX3.out.cx.fr.then_ (Ext.fr _))) (by unfold R64; omega))))
                              refine wpQuiet_nil ?_
                              rintro w4 ⟨u2, hu2⟩
                              have HF_w4 : Hid (Fr [] w3 w4) := hu2 ▸ u2.fr
                              clear hu2 u2
                              go_wp2_with fail
                              go_meet
                              exact ⟨by rw [← HPB.out]; simp [andB, t1], HF_w4.out⟩
                        · have d0 : decide (x ≤ x') = true := decide_eq_true (by omega)
                          have t0 : decide (x' < x) = false := decide_eq_false h0
                          as_aux_lemma =>
                            go_wp2_with fail
                            refine wp_region_ext (by kernel_rfl) (by kernel_rfl) ?_
                            repeat (go_big_quiet_step (exact call_ext (KC.out _ _ (HH.out.keep (HX3.out.cx.fr.then_ (Ext.fr _))) (by unfold R64; omega))))
                            refine wpQuiet_nil ?_
                            rintro w4 ⟨u2, hu2⟩
                            have HF_w4 : Hid (Fr [] w3 w4) := hu2 ▸ u2.fr
                            clear hu2 u2
                            go_wp2_with fail
                            go_meet
                            exact ⟨by rw [← HPB.out]; simp [andB, HPV.out, t0], HF_w4.out⟩
                      · obtain rfl : k = 0 := by omega
                        have HPV : Hid (prv ands 0 = none) := rfl
                        by_cases h1 : y < x
                        · have d1 : decide (x ≤ y) = false := decide_eq_false (by omega)
                          have t1 : decide (y < x) = true := decide_eq_true h1
                          by_cases h2 : z < x
                          · have d2 : decide (x ≤ z) = false := decide_eq_false (by omega)
                            have t2 : decide (z < x) = true := decide_eq_true h2
                            rcases Bool.eq_false_or_eq_true (litB ⟨mx, ins, lat, outs, bads, invs, ands, nms⟩ y) with q1 | q1
                            · rcases Bool.eq_false_or_eq_true (litB ⟨mx, ins, lat, outs, bads, invs, ands, nms⟩ z) with q2 | q2
                              · as_aux_lemma =>
                                  go_wp2_with fail
                                  refine wp_region_ext (by kernel_rfl) (by kernel_rfl) ?_
                                  repeat (go_big_quiet_step (exact call_ext (KC.out _ _ (HH.out.keep (HX3.out.cx.fr.then_ (Ext.fr _))) (by unfold R64; omega))))
                                  refine wpQuiet_nil ?_
                                  rintro w4 ⟨u2, hu2⟩
                                  have HF_w4 : Hid (Fr [] w3 w4) := hu2 ▸ u2.fr
                                  clear hu2 u2
                                  go_wp2_with fail
                                  go_meet
                                  exact ⟨by rw [← HPB.out]; simp [andB, HPV.out, t1, t2, q1, q2], HF_w4.out⟩
                              · as_aux_lemma =>
                                  go_wp2_with fail
                                  refine wp_region_ext (by kernel_rfl) (by kernel_rfl) ?_
                                  repeat (go_big_quiet_step (exact call_ext (KC.out _ _ (HH.out.keep (HX3.out.cx.fr.then_ (Ext.fr _))) (by unfold R64; omega))))
                                  refine wpQuiet_nil ?_
                                  rintro w4 ⟨u2, hu2⟩
                                  have HF_w4 : Hid (Fr [] w3 w4) := hu2 ▸ u2.fr
                                  clear hu2 u2
                                  go_wp2_with fail
                                  go_meet
                                  exact ⟨by rw [← HPB.out]; simp [andB, q2], HF_w4.out⟩
                            · as_aux_lemma =>
                                go_wp2_with fail
                                refine wp_region_ext (by kernel_rfl) (by kernel_rfl) ?_
                                repeat (go_big_quiet_step (exact call_ext (KC.out _ _ (HH.out.keep (HX3.out.cx.fr.then_ (Ext.fr _))) (by unfold R64; omega))))
                                refine wpQuiet_nil ?_
                                rintro w4 ⟨u2, hu2⟩
                                have HF_w4 : Hid (Fr [] w3 w4) := hu2 ▸ u2.fr
                                clear hu2 u2
                                go_wp2_with fail
                                go_meet
                                exact ⟨by rw [← HPB.out]; simp [andB, q1], HF_w4.out⟩
                          · have d2 : decide (x ≤ z) = true := decide_eq_true (by omega)
                            have t2 : decide (z < x) = false := decide_eq_false h2
                            as_aux_lemma =>
                              go_wp2_with fail
                              refine wp_region_ext (by kernel_rfl) (by kernel_rfl) ?_
                              repeat (go_big_quiet_step (exact call_ext (KC.out _ _ (HH.out.keep (HX3.out.cx.fr.then_ (Ext.fr _))) (by unfold R64; omega))))
                              refine wpQuiet_nil ?_
                              rintro w4 ⟨u2, hu2⟩
                              have HF_w4 : Hid (Fr [] w3 w4) := hu2 ▸ u2.fr
                              clear hu2 u2
                              go_wp2_with fail
                              go_meet
                              exact ⟨by rw [← HPB.out]; simp [andB, t2], HF_w4.out⟩
                        · have d1 : decide (x ≤ y) = true := decide_eq_true (by omega)
                          have t1 : decide (y < x) = false := decide_eq_false h1
                          as_aux_lemma =>
                            go_wp2_with fail
                            refine wp_region_ext (by kernel_rfl) (by kernel_rfl) ?_
                            repeat (go_big_quiet_step (exact call_ext (KC.out _ _ (HH.out.keep (HX3.out.cx.fr.then_ (Ext.fr _))) (by unfold R64; omega))))
                            refine wpQuiet_nil ?_
                            rintro w4 ⟨u2, hu2⟩
                            have HF_w4 : Hid (Fr [] w3 w4) := hu2 ▸ u2.fr
                            clear hu2 u2
                            go_wp2_with fail
                            go_meet
                            exact ⟨by rw [← HPB.out]; simp [andB, t1], HF_w4.out⟩
                    case rest =>
                      obtain ⟨rfl, hfc⟩ := hcut
                      have HX4 := Lib.hid (HX3.out.keep hfc)
                      clear hfc
                      cases pb with
                      | false =>
                        go_wp2_with fail
                        go_ret
                        exact NO.out _ (no_and hlt (by rw [he.out]; exact HPB.out)) HX4.out.cx.fr
                      | true =>
                        go_wp2_with fail
                        go_roundg (gk - 1)
                        case measure => have := HK.out; omega
                        case rel => exact ⟨k + 1, some ⟨g2, 0, none⟩, cap, l ++ [x], by have := HK.out; omega, by go_num, by rw [List.length_append]; rfl, HX4.out, (by rw [hl.out, take_snoc _ _ hlt, he.out]; simp : l ++ [x] = _), HN.out.step (by rw [he.out]; exact HPB.out)⟩
                  · obtain rfl : k = ands.length := by omega
                    have HAT : Hid (AndTo ⟨mx, ins, lat, outs, bads, invs, ands, nms⟩ ands.length) := HN.out
                    have HL1 : Hid (l = ownL ⟨mx, ins, lat, outs, bads, invs, ands, nms⟩) := (by rw [hl.out, List.take_length]; rfl : l = _)
                    have HCK := HX
                    clear HN HK HX hl hkn hlt
                    go_wp2_with fail
                    clear c0 c1 c2 c3 c4 c5 c6 c7
                    go_loopg [8] l.length (fun g i wr => ∃ k : Nat, k + g = l.length ∧ i = .int .i64 k ∧ Ck w wr ⟨iA, iC, lA, lC, oA, oC, bA, bC, vA, vC, gA, gC, nA, nC⟩ ⟨mx, ins, lat, outs, bads, invs, ands, nms⟩ A c l ∧ OwnTo ⟨mx, ins, lat, outs, bads, invs, ands, nms⟩ l k)
                    case atStart => exact ⟨0, by omega, rfl, HCK.out, OwnTo.zero _ _⟩
                    case round =>
                      clear HCK
                      obtain ⟨k, hk, rfl, hx, hn⟩ := hrel
                      have HK := Lib.hid hk
                      have HX := Lib.hid hx
                      have HN := Lib.hid hn
                      have hkn : k ≤ l.length := by omega
                      have mx0 : 0 ≤ mx := by omega
                      have mx1 : mx ≤ 2048 := by omega
                      clear hk hx hn
                      by_cases hlt : k < l.length
                      · obtain ⟨gb, hA, hgb⟩ := HX.out.own.pos hlt
                        subst hA
                        have hcap : l.length ≤ c := by
                          rcases HX.out.own.form with ⟨h1, _⟩ | ⟨_, _, _, h3, _⟩
                          · cases h1
                          · exact h3
                        have hkc : k ≤ c := by omega
                        have hcm : c ≤ 9223372036854775807 := by
                          rcases HX.out.own.form with ⟨h1, _⟩ | ⟨_, _, _, _, h4⟩
                          · cases h1
                          · unfold maxLen at h4; omega
                        obtain ⟨x, hx, hcx⟩ : ∃ x, Hid (l[k]! = x) ∧ Hid (wr.cell? ⟨gb, k, none⟩ = some (.int .i64 x)) := ⟨_, rfl, HX.out.own.cell hlt⟩
                        have hcc := hcx.out
                        go_upto_region 22 with fail
                        obtain ⟨pb, HPB⟩ : ∃ pb, Hid (ownB ⟨mx, ins, lat, outs, bads, invs, ands, nms⟩ l k = pb) := ⟨_, rfl⟩
                        obtain ⟨hb, HHB⟩ : ∃ hb, Hid (decide (x ∈ l.take k) = hb) := ⟨_, rfl⟩
                        have KH : Hid (∀ W, Rd W (some ⟨gb, 0, none⟩) (l.take k) → Calls Try.prog 16 #[.slice (some ⟨gb, 0, none⟩) k c, .int .i64 x] W fun e w' => e = .returned (.bool hb) ∧ W = w') := fun W hW => by
                          have h1 : (l.take k).length = k := by rw [List.length_take]; omega
                          have := has_any W (some ⟨gb, 0, none⟩) c (l.take k) x hW (by omega)
                          rw [h1, HHB.out] at this
                          exact this
                        have HRK := Lib.hid ((HX.out.own.take_ k).rd)
                        go_cut [174] (fun st wx => st = .bool (!pb) ∧ Fr [] wr wx)
                        case first =>
                          have f0 := Ext.cell hcc
                          obtain ⟨e0, e1, e2, e3, e4, e5, e6, e7⟩ := HX.out.cx.ext
                          simp only at e0 e1 e2 e3 e4 e5 e6 e7
                          by_cases h1 : 2 ≤ x
                          · have d1 : decide (x < 2) = false := decide_eq_false (by omega)
                            have t1 : decide (2 ≤ x) = true := decide_eq_true h1
                            by_cases h2 : x % 2 = 0
                            · have d2 : (x % 2 == 1) = false := by rw [beq_eq_false_iff_ne]; omega
                              have H2 := Lib.hid h2
                              clear h2
                              by_cases h3 : x ≤ 2 * mx
                              · have d3 : decide (2 * mx < x) = false := decide_eq_false (by omega)
                                have t3 : decide (x ≤ 2 * mx) = true := decide_eq_true h3
                                go_wp2_with fail
                                refine wp_region_ext (by kernel_rfl) (by kernel_rfl) ?_
                                repeat (go_big_quiet_step (exact call_same (KH.out _ (HRK.out.keep (Ext.fr _)))))
                                refine wpQuiet_nil ?_
                                rintro w4 ⟨u2, hu2⟩
                                have HF_w4 : Hid (Fr [] wr w4) := hu2 ▸ u2.fr
                                clear hu2 u2
                                go_wp2_with fail
                                go_meet
                                exact ⟨by rw [← HPB.out, ownB, hx.out, HHB.out]; simp [t1, t3, H2.out], HF_w4.out⟩
                              · have d3 : decide (2 * mx < x) = true := decide_eq_true (by omega)
                                have t3 : decide (x ≤ 2 * mx) = false := decide_eq_false h3
                                go_wp2_with fail
                                refine wp_region_ext (by kernel_rfl) (by kernel_rfl) ?_
                                repeat (go_big_quiet_step (exact call_same (KH.out _ (HRK.out.keep (Ext.fr _)))))
                                refine wpQuiet_nil ?_
                                rintro w4 ⟨u2, hu2⟩
                                have HF_w4 : Hid (Fr [] wr w4) := hu2 ▸ u2.fr
                                clear hu2 u2
                                go_wp2_with fail
                                go_meet
                                exact ⟨by rw [← HPB.out, ownB, hx.out]; simp [t3], HF_w4.out⟩
                            · have d2 : (x % 2 == 1) = true := by rw [beq_iff_eq]; omega
                              have H2 : Hid (decide (x % 2 = 0) = false) := decide_eq_false h2
                              clear h2
                              go_wp2_with fail
                              refine wp_region_ext (by kernel_rfl) (by kernel_rfl) ?_
                              repeat (go_big_quiet_step (exact call_same (KH.out _ (HRK.out.keep (Ext.fr _)))))
                              refine wpQuiet_nil ?_
                              rintro w4 ⟨u2, hu2⟩
                              have HF_w4 : Hid (Fr [] wr w4) := hu2 ▸ u2.fr
                              clear hu2 u2
                              go_wp2_with fail
                              go_meet
                              exact ⟨by rw [← HPB.out, ownB, hx.out, H2.out]; simp, HF_w4.out⟩
                          · have d1 : decide (x < 2) = true := decide_eq_true (by omega)
                            have t1 : decide (2 ≤ x) = false := decide_eq_false h1
                            go_wp2_with fail
                            refine wp_region_ext (by kernel_rfl) (by kernel_rfl) ?_
                            repeat (go_big_quiet_step (exact call_same (KH.out _ (HRK.out.keep (Ext.fr _)))))
                            refine wpQuiet_nil ?_
                            rintro w4 ⟨u2, hu2⟩
                            have HF_w4 : Hid (Fr [] wr w4) := hu2 ▸ u2.fr
                            clear hu2 u2
                            go_wp2_with fail
                            go_meet
                            exact ⟨by rw [← HPB.out, ownB, hx.out, t1]; simp, HF_w4.out⟩
                        case rest =>
                          obtain ⟨rfl, hfc⟩ := hcut
                          have HX4 := Lib.hid (HX.out.keep hfc)
                          clear hfc hcc
                          cases pb with
                          | false =>
                            go_wp2_with fail
                            go_ret
                            exact NO.out _ (no_own (by rw [← HL1.out]; exact hlt) (by rw [← HL1.out]; exact HPB.out)) HX4.out.cx.fr
                          | true =>
                            go_wp2_with fail
                            go_roundg (gk - 1)
                            case measure => have := HK.out; omega
                            case rel => exact ⟨k + 1, by have := HK.out; omega, by go_num, HX4.out, HN.out.step HPB.out⟩
                      · obtain rfl : k = l.length := by omega
                        have HOT : Hid (OwnTo ⟨mx, ins, lat, outs, bads, invs, ands, nms⟩ (ownL ⟨mx, ins, lat, outs, bads, invs, ands, nms⟩) (ownL ⟨mx, ins, lat, outs, bads, invs, ands, nms⟩).length) := (by rw [← HL1.out]; exact HN.out : OwnTo ⟨mx, ins, lat, outs, bads, invs, ands, nms⟩ (ownL ⟨mx, ins, lat, outs, bads, invs, ands, nms⟩) (ownL ⟨mx, ins, lat, outs, bads, invs, ands, nms⟩).length)
                        go_upto_region 24 with fail
                        obtain ⟨qo, HQO⟩ : ∃ q, Hid (allB ⟨mx, ins, lat, outs, bads, invs, ands, nms⟩ outs = q) := ⟨_, rfl⟩
                        obtain ⟨qb, HQB⟩ : ∃ q, Hid (allB ⟨mx, ins, lat, outs, bads, invs, ands, nms⟩ bads = q) := ⟨_, rfl⟩
                        obtain ⟨qv, HQV⟩ : ∃ q, Hid (allB ⟨mx, ins, lat, outs, bads, invs, ands, nms⟩ invs = q) := ⟨_, rfl⟩
                        have hx := HX.out.cx
                        obtain ⟨c0, c1, c2, c3, c4, c5, c6, c7⟩ := hx.cells
                        clear hx
                        simp only at c0 c1 c2 c3 c4 c5 c6 c7
                        go_wp2_with fail
                        refine (KA.out _ oA oC outs (HH.out.keep HX.out.cx.fr) (HH.out.keep HX.out.cx.fr).o HH.out.or_ HH.out.oL).mono ?_
                        rw [HQO.out]
                        rintro e w4 ⟨rfl, hf⟩
                        have HY := Lib.hid (HX.out.cx.keep hf)
                        clear hf c0 c1 c2 c3 c4 c5 c6 c7
                        cases qo with
                        | false =>
                          go_wp2_with fail
                          go_ret
                          exact NO.out _ (fun hv => by have := hv.o; rw [HQO.out] at this; cases this) HY.out.fr
                        | true =>
                          have hx := HY.out
                          obtain ⟨c0, c1, c2, c3, c4, c5, c6, c7⟩ := hx.cells
                          clear hx
                          simp only at c0 c1 c2 c3 c4 c5 c6 c7
                          go_wp2_with fail
                          refine (KA.out _ bA bC bads (HH.out.keep HY.out.fr) (HH.out.keep HY.out.fr).b HH.out.br HH.out.bL).mono ?_
                          rw [HQB.out]
                          rintro e w5 ⟨rfl, hf⟩
                          have HZ := Lib.hid (HY.out.keep hf)
                          clear hf c0 c1 c2 c3 c4 c5 c6 c7
                          cases qb with
                          | false =>
                            go_wp2_with fail
                            go_ret
                            exact NO.out _ (fun hv => by have := hv.b; rw [HQB.out] at this; cases this) HZ.out.fr
                          | true =>
                            have hx := HZ.out
                            obtain ⟨c0, c1, c2, c3, c4, c5, c6, c7⟩ := hx.cells
                            clear hx
                            simp only at c0 c1 c2 c3 c4 c5 c6 c7
                            go_wp2_with fail
                            refine (KA.out _ vA vC invs (HH.out.keep HZ.out.fr) (HH.out.keep HZ.out.fr).v HH.out.vr HH.out.vL).mono ?_
                            rw [HQV.out]
                            rintro e w6 ⟨rfl, hf⟩
                            have HF := Lib.hid (HZ.out.fr.then_ hf)
                            clear hf c0 c1 c2 c3 c4 c5 c6 c7
                            cases qv with
                            | false =>
                              go_wp2_with fail
                              go_ret
                              exact NO.out _ (fun hv => by have := hv.v; rw [HQV.out] at this; cases this) HF.out
                            | true =>
                              go_wp2_with fail
                              go_ret
                              exact YES.out _ ⟨by simp only; omega, by simp only; omega, by simp only; omega, by simp only; omega, HNM.out, HLT.out, HAT.out, HOT.out, HQO.out, HQB.out, HQV.out⟩ HF.out

end Go.Proofs.Ytbjccgahmgpkjaa
