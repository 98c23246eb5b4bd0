/- The reference's names walked. -/
import Derived.Test.YtbjccgahmgpkjaaRefC
namespace Go.Proofs.Ytbjccgahmgpkjaa
open Go.RowKit
set_option linter.unusedVariables false

def badCh (c : UInt8) : Bool := decide ((c.toNat : Int) < 33) || decide (126 < (c.toNat : Int))
def txtBad (t : ByteArray) : Bool := t.data.toList.any badCh
def headB (C : Pc) (x : Nm) : Bool := decide (0 ≤ x.i) && decide (x.i < cnt C x.k) && !x.t.toList.isEmpty && decide ((x.t.size : Int) ≤ 32)
def nameB (C : Pc) (x : Nm) : Bool := headB C x && !txtBad x.t
def pairBad (y x : Nm) : Bool := decide (rk x.k < rk y.k) || (y.k.toList == x.k.toList) && decide (x.i ≤ y.i)
/-- The first k names may be. -/
def NamesTo (C : Pc) (k : Nat) : Prop := ∀ j : Nat, j < k → nameB C C.nms[j]! = true ∧ (0 < j → pairBad C.nms[j - 1]! C.nms[j]! = false)
def namesB (C : Pc) : Bool := (List.range C.nms.length).all fun j => nameB C C.nms[j]! && (j == 0 || !pairBad C.nms[j - 1]! C.nms[j]!)
theorem names_iff (C : Pc) : namesB C = true ↔ NamesTo C C.nms.length := by
  unfold namesB NamesTo
  rw [List.all_eq_true]
  constructor
  · intro h j hj
    have := h j (List.mem_range.2 hj)
    simp only [Bool.and_eq_true, Bool.or_eq_true, beq_iff_eq, Bool.not_eq_true'] at this
    exact ⟨this.1, fun h0 => this.2.resolve_left (by omega)⟩
  · intro h j hj
    obtain ⟨h1, h2⟩ := h j (List.mem_range.1 hj)
    simp only [Bool.and_eq_true, Bool.or_eq_true, beq_iff_eq, Bool.not_eq_true']
    refine ⟨h1, ?_⟩
    by_cases e : j = 0
    · exact .inl e
    · exact .inr (h2 (by omega))
theorem NamesTo.zero (C : Pc) : NamesTo C 0 := fun j hj => absurd hj (Nat.not_lt_zero _)
theorem NamesTo.step {C : Pc} {k : Nat} (h : NamesTo C k) (h1 : nameB C C.nms[k]! = true) (h2 : 0 < k → pairBad C.nms[k - 1]! C.nms[k]! = false) : NamesTo C (k + 1) := fun j hj => by
  by_cases e : j = k
  · subst e; exact ⟨h1, h2⟩
  · exact h j (by omega)
theorem names_bad1 {C : Pc} {k : Nat} (hk : k < C.nms.length) (h : nameB C C.nms[k]! = false) : namesB C = false := by
  rw [Bool.eq_false_iff]
  intro hh
  have := ((names_iff C).1 hh k hk).1
  rw [h] at this; cases this
theorem names_bad2 {C : Pc} {k : Nat} (hk : k < C.nms.length) (h0 : 0 < k) (h : pairBad C.nms[k - 1]! C.nms[k]! = true) : namesB C = false := by
  rw [Bool.eq_false_iff]
  intro hh
  have := ((names_iff C).1 hh k hk).2 h0
  rw [h] at this; cases this

set_option maxRecDepth 100000 in
set_option maxHeartbeats 4000000 in
theorem rnames_calls (w : World) (H : Hd) (C : Pc) (h : CiAt w H C) :
    Calls Try.prog 26 #[cval H C] w fun e w' => e = .returned (.bool (namesB C)) ∧ Fr [] w w' := by
  have HH := Lib.hid h
  have hnL := h.nL
  clear h
  have hK : Hid (∀ s, namesB C = s → Ending.returned (.bool s) = .returned (.bool (namesB C))) := fun s h => by rw [h]
  have HS := Lib.hid (Cx.start w H C)
  have KC := Lib.hid (fun W s => rcount_calls W H C s)
  obtain ⟨mx, ins, lat, outs, bads, invs, ands, nms⟩ := C
  obtain ⟨iA, iC, lA, lC, oA, oC, bA, bC, vA, vC, gA, gC, nA, nC⟩ := H
  simp only [cval, cvs] at *
  go_enter Try.func26, Try.ntmps26
  go_wp2_with fail
  go_loopg [3] nms.length (fun g i wr => ∃ k : Nat, k + g = nms.length ∧ i = .int .i64 k ∧ Cx w wr ⟨iA, iC, lA, lC, oA, oC, bA, bC, vA, vC, gA, gC, nA, nC⟩ ⟨mx, ins, lat, outs, bads, invs, ands, nms⟩ ∧ NamesTo ⟨mx, ins, lat, outs, bads, invs, ands, nms⟩ k)
  case atStart => exact ⟨0, by omega, rfl, HS.out, NamesTo.zero _⟩
  case round =>
    obtain ⟨k, hk, rfl, hx, hn⟩ := hrel
    have HK := Lib.hid hk
    have HX := Lib.hid hx
    have HN := Lib.hid hn
    have hkn : k ≤ nms.length := by omega
    obtain ⟨c0, c1, c2, c3, c4, c5, c6, c7⟩ := hx.cells
    clear hk hx hn
    simp only at c0 c1 c2 c3 c4 c5 c6 c7
    by_cases hlt : k < nms.length
    · obtain ⟨b, o, x, y, z, hA, he, cx, cy, cz, hx1, ⟨hy1, hy2⟩, hz1⟩ := (HH.out.keep HX.out.fr).n.one HH.out.nr hlt
      simp only at hA
      subst hA
      unfold maxLen at hx1 hz1
      go_upto_region 5 with fail
      obtain ⟨W1, hW1⟩ : ∃ W, wr.alloc (.cells #[.string x, .int .i64 y, .string z] 61) = W := ⟨_, rfl⟩
      rw [hW1]
      have hO : At W1 wr.heap.size 61 #[.string x, .int .i64 y, .string z] := hW1 ▸ At.new _ _ _
      have HF1 : Hid (Fr [] wr W1) := hW1 ▸ box_fr _ _
      clear hW1 c0 c1 c2 c3 c4 c5 c6 c7 cx cy cz
      generalize wr.heap.size = ob at hO ⊢
      have HX1 := Lib.hid (HX.out.keep HF1.out)
      have HO := Lib.hid hO
      clear hO
      have nx : W1.cell? ⟨ob, 0, none⟩ = some (.string x) := by rw [HO.out.cell]; rfl
      have ny : W1.cell? ⟨ob, 1, none⟩ = some (.int .i64 y) := by rw [HO.out.cell]; rfl
      have nz : W1.cell? ⟨ob, 2, none⟩ = some (.string z) := by rw [HO.out.cell]; rfl
      obtain ⟨hb, HB⟩ : ∃ hb, Hid (headB ⟨mx, ins, lat, outs, bads, invs, ands, nms⟩ ⟨x, y, z⟩ = hb) := ⟨_, rfl⟩
      go_cut [41] (fun st wx => st = .bool (!hb) ∧ Fr [] W1 wx)
      case first =>
        have ex := Ext.cell nx
        have ey := Ext.cell ny
        have ez := Ext.cell nz
        obtain ⟨e0, e1, e2, e3, e4, e5, e6, e7⟩ := HX1.out.ext
        simp only at e0 e1 e2 e3 e4 e5 e6 e7
        by_cases h0 : 0 ≤ y
        · obtain ⟨n, HNN⟩ : ∃ n, Hid (cnt ⟨mx, ins, lat, outs, bads, invs, ands, nms⟩ x = n) := ⟨_, rfl⟩
          have KQ0 := fun W => KC.out W x
          rw [HNN.out] at KQ0
          have KQ := Lib.hid KQ0
          clear KQ0
          have d0 : decide (y < 0) = false := decide_eq_false (by omega)
          by_cases h1 : y < n
          · have d1 : decide (n ≤ y) = false := decide_eq_false (by omega)
            by_cases h2 : z.toList.isEmpty = true
            · go_wp2_with fail
              refine wp_region_ext (by kernel_rfl) (by kernel_rfl) ?_
              repeat (go_big_quiet_step (exact call_ext (KQ.out _)))
              refine wpQuiet_nil ?_
              rintro w2 ⟨u2, hu2⟩
              have HF_w2 : Hid (Fr [] W1 w2) := hu2 ▸ u2.fr
              clear hu2 u2
              go_wp2_with fail
              go_meet
              exact ⟨by rw [← HB.out, headB]; simp [h2], HF_w2.out⟩
            · have h2b := Bool.eq_false_iff.2 h2
              by_cases h3 : (z.size : Int) ≤ 32
              · have d3 : decide (32 < (z.size : Int)) = false := decide_eq_false (by omega)
                go_wp2_with fail
                refine wp_region_ext (by kernel_rfl) (by kernel_rfl) ?_
                repeat (go_big_quiet_step (exact call_ext (KQ.out _)))
                refine wpQuiet_nil ?_
                rintro w2 ⟨u2, hu2⟩
                have HF_w2 : Hid (Fr [] W1 w2) := hu2 ▸ u2.fr
                clear hu2 u2
                go_wp2_with fail
                go_meet
                exact ⟨by rw [← HB.out, headB]; simp [h2b, h0, HNN.out, h1, h3], HF_w2.out⟩
              · have d3 : decide (32 < (z.size : Int)) = true := decide_eq_true (by omega)
                go_wp2_with fail
                refine wp_region_ext (by kernel_rfl) (by kernel_rfl) ?_
                repeat (go_big_quiet_step (exact call_ext (KQ.out _)))
                refine wpQuiet_nil ?_
                rintro w2 ⟨u2, hu2⟩
                have HF_w2 : Hid (Fr [] W1 w2) := hu2 ▸ u2.fr
                clear hu2 u2
                go_wp2_with fail
                go_meet
                exact ⟨by rw [← HB.out, headB]; simp [h2b, h0, HNN.out, h1, h3], HF_w2.out⟩
          · have d1 : decide (n ≤ y) = true := decide_eq_true (by omega)
            go_wp2_with fail
            refine wp_region_ext (by kernel_rfl) (by kernel_rfl) ?_
            repeat (go_big_quiet_step (exact call_ext (KQ.out _)))
            refine wpQuiet_nil ?_
            rintro w2 ⟨u2, hu2⟩
            have HF_w2 : Hid (Fr [] W1 w2) := hu2 ▸ u2.fr
            clear hu2 u2
            go_wp2_with fail
            go_meet
            exact ⟨by rw [← HB.out, headB]; simp [HNN.out, h1], HF_w2.out⟩
        · go_wp2_with fail
          refine wp_region_ext (by kernel_rfl) (by kernel_rfl) ?_
          repeat (go_big_quiet_step (exact call_ext (KC.out _ _)))
          refine wpQuiet_nil ?_
          rintro w2 ⟨u2, hu2⟩
          have HF_w2 : Hid (Fr [] W1 w2) := hu2 ▸ u2.fr
          clear hu2 u2
          go_wp2_with fail
          go_meet
          exact ⟨by rw [← HB.out, headB]; simp [show ¬ 0 ≤ y from by omega], HF_w2.out⟩
      case rest =>
        obtain ⟨rfl, hfc⟩ := hcut
        have HFC := Lib.hid hfc
        clear hfc nx ny nz
        have HX2 := Lib.hid (HX1.out.keep HFC.out)
        have HO2 := Lib.hid (HO.out.keep HFC.out)
        have nx : wc.cell? ⟨ob, 0, none⟩ = some (.string x) := by rw [HO2.out.cell]; rfl
        have ny : wc.cell? ⟨ob, 1, none⟩ = some (.int .i64 y) := by rw [HO2.out.cell]; rfl
        have nz : wc.cell? ⟨ob, 2, none⟩ = some (.string z) := by rw [HO2.out.cell]; rfl
        cases hb with
        | false =>
          go_wp2_with fail
          go_ret
          exact ⟨hK.out _ (names_bad1 hlt (by rw [he.out, nameB, HB.out]; rfl)), HX2.out.fr⟩
        | true =>
          go_wp2_with fail
          go_loop [5] (fun i => ∃ m : Nat, m ≤ z.size ∧ i = .int .i64 m ∧ NoneTo z.data.toList badCh m) (fun i => z.size - (intOf i).toNat)
          case atStart => exact ⟨0, Nat.zero_le _, rfl, NoneTo.zero _ _⟩
          case round =>
            obtain ⟨m, hm, rfl, hmn⟩ := hrel
            have HM := Lib.hid hmn
            clear hmn
            by_cases hml : m < z.size
            · have hmd : m < z.data.toList.length := hml
              have hcl : z.data.toList[m]! = z[m] := by
                rw [List.getElem!_eq_getElem?_getD, List.getElem?_eq_getElem hmd]
                rfl
              by_cases hc1 : (z[m].toNat : Int) < 33
              · have d1 : decide ((z[m].toNat : Int) < 33) = true := decide_eq_true hc1
                have HQ : Hid (badCh (z.data.toList[m]!) = true) := (by rw [hcl, badCh, d1]; rfl : badCh (z.data.toList[m]!) = true)
                clear hcl hc1
                go_wp2_with fail
                go_ret
                exact ⟨hK.out _ (names_bad1 hlt (by rw [he.out, nameB, txtBad, any_yes _ _ m hmd HQ.out, HB.out]; rfl)), HX2.out.fr⟩
              · have d1 : decide ((z[m].toNat : Int) < 33) = false := decide_eq_false hc1
                by_cases hc2 : 126 < (z[m].toNat : Int)
                · have d2 : decide (126 < (z[m].toNat : Int)) = true := decide_eq_true hc2
                  have HQ : Hid (badCh (z.data.toList[m]!) = true) := (by rw [hcl, badCh, d1, d2]; rfl : badCh (z.data.toList[m]!) = true)
                  clear hcl hc1 hc2
                  go_wp2_with fail
                  go_ret
                  exact ⟨hK.out _ (names_bad1 hlt (by rw [he.out, nameB, txtBad, any_yes _ _ m hmd HQ.out, HB.out]; rfl)), HX2.out.fr⟩
                · have d2 : decide (126 < (z[m].toNat : Int)) = false := decide_eq_false hc2
                  have HQ : Hid (badCh (z.data.toList[m]!) = false) := (by rw [hcl, badCh, d1, d2]; rfl : badCh (z.data.toList[m]!) = false)
                  clear hcl hc1 hc2
                  go_wp2_with fail
                  go_round
                  case rel => exact ⟨m + 1, by omega, by go_num, HM.out.step HQ.out⟩
                  case measure => simp [intOf]; omega
            · have hmd : ¬ m < z.data.toList.length := hml
              have HT : Hid (txtBad z = false) := HM.out.all hmd
              have HNB : Hid (nameB ⟨mx, ins, lat, outs, bads, invs, ands, nms⟩ ⟨x, y, z⟩ = true) := (by rw [nameB, HB.out, HT.out]; rfl : nameB ⟨mx, ins, lat, outs, bads, invs, ands, nms⟩ ⟨x, y, z⟩ = true)
              clear HM HT
              obtain ⟨c0, c1, c2, c3, c4, c5, c6, c7⟩ := HX2.out.cells
              simp only at c0 c1 c2 c3 c4 c5 c6 c7
              by_cases hk0 : 0 < k
              · obtain ⟨j, rfl⟩ : ∃ j, k = j + 1 := ⟨k - 1, by omega⟩
                obtain ⟨b', o', x', y', z', hA', he', cx', cy', cz', hx1', ⟨hy1', hy2'⟩, hz1'⟩ := (HH.out.keep HX2.out.fr).n.one HH.out.nr (show j < nms.length by omega)
                simp only [Option.some.injEq, Addr.mk.injEq, and_true] at hA'
                obtain ⟨rfl, rfl⟩ := hA'
                unfold maxLen at hx1' hz1'
                have RK := Lib.hid (fun W s => rrank_calls W s)
                go_upto_region 14 with fail
                obtain ⟨W3, hW3⟩ : ∃ W, wc.alloc (.cells #[.string x', .int .i64 y', .string z'] 61) = W := ⟨_, rfl⟩
                rw [hW3]
                have hO3 : At W3 wc.heap.size 61 #[.string x', .int .i64 y', .string z'] := hW3 ▸ At.new _ _ _
                have HF3 : Hid (Fr [] wc W3) := hW3 ▸ box_fr _ _
                have fx := HF3.out.cellS nx
                have fy := HF3.out.cellS ny
                clear hW3 c0 c1 c2 c3 c4 c5 c6 c7 cx' cy' cz' nx ny nz
                generalize wc.heap.size = oc at hO3 ⊢
                have gx : W3.cell? ⟨oc, 0, none⟩ = some (.string x') := by rw [hO3.cell]; rfl
                have gy : W3.cell? ⟨oc, 1, none⟩ = some (.int .i64 y') := by rw [hO3.cell]; rfl
                clear hO3
                obtain ⟨pb, HP⟩ : ∃ pb, Hid (pairBad ⟨x', y', z'⟩ ⟨x, y, z⟩ = pb) := ⟨_, rfl⟩
                go_cut [89] (fun st wx => st = .bool pb ∧ Fr [] W3 wx)
                case first =>
                  have efx := Ext.cell fx
                  have efy := Ext.cell fy
                  have egx := Ext.cell gx
                  have egy := Ext.cell gy
                  clear fx fy gx gy
                  by_cases q0 : rk x < rk x'
                  · have d0 : decide (rk x < rk x') = true := decide_eq_true q0
                    go_wp2_with fail
                    refine wp_region_ext (by kernel_rfl) (by kernel_rfl) ?_
                    repeat (go_big_quiet_step (exact call_ext (RK.out _ _)))
                    refine wpQuiet_nil ?_
                    rintro w2 ⟨u2, hu2⟩
                    have HF_w2 : Hid (Fr [] W3 w2) := hu2 ▸ u2.fr
                    clear hu2 u2
                    go_wp2_with fail
                    go_meet
                    exact ⟨by rw [← HP.out, pairBad]; simp [q0], HF_w2.out⟩
                  · have d0 : decide (rk x < rk x') = false := decide_eq_false q0
                    rcases seq_or x'.toList x.toList with q1 | q1
                    · by_cases q2 : y ≤ y'
                      · have d2 : decide (y ≤ y') = true := decide_eq_true q2
                        go_wp2_with fail
                        refine wp_region_ext (by kernel_rfl) (by kernel_rfl) ?_
                        repeat (go_big_quiet_step (exact call_ext (RK.out _ _)))
                        refine wpQuiet_nil ?_
                        rintro w2 ⟨u2, hu2⟩
                        have HF_w2 : Hid (Fr [] W3 w2) := hu2 ▸ u2.fr
                        clear hu2 u2
                        go_wp2_with fail
                        go_meet
                        exact ⟨by rw [← HP.out, pairBad]; simp only [d0, q1, d2]; rfl, HF_w2.out⟩
                      · have d2 : decide (y ≤ y') = false := decide_eq_false q2
                        go_wp2_with fail
                        refine wp_region_ext (by kernel_rfl) (by kernel_rfl) ?_
                        repeat (go_big_quiet_step (exact call_ext (RK.out _ _)))
                        refine wpQuiet_nil ?_
                        rintro w2 ⟨u2, hu2⟩
                        have HF_w2 : Hid (Fr [] W3 w2) := hu2 ▸ u2.fr
                        clear hu2 u2
                        go_wp2_with fail
                        go_meet
                        exact ⟨by rw [← HP.out, pairBad]; simp only [d0, q1, d2]; rfl, HF_w2.out⟩
                    · go_wp2_with fail
                      refine wp_region_ext (by kernel_rfl) (by kernel_rfl) ?_
                      repeat (go_big_quiet_step (exact call_ext (RK.out _ _)))
                      refine wpQuiet_nil ?_
                      rintro w2 ⟨u2, hu2⟩
                      have HF_w2 : Hid (Fr [] W3 w2) := hu2 ▸ u2.fr
                      clear hu2 u2
                      go_wp2_with fail
                      go_meet
                      exact ⟨by rw [← HP.out, pairBad]; simp only [d0, q1]; rfl, HF_w2.out⟩
                case rest =>
                  obtain ⟨rfl, hfc⟩ := hcut
                  rename_i wd
                  have HX3 := Lib.hid (HX2.out.keep (HF3.out.then_ hfc))
                  clear hfc fx fy gx gy
                  cases pb with
                  | true =>
                    go_wp2_with fail
                    go_ret
                    exact ⟨hK.out _ (names_bad2 hlt hk0 (by rw [Nat.add_sub_cancel, he.out, he'.out]; exact HP.out)), HX3.out.fr⟩
                  | false =>
                    go_wp2_with fail
                    go_roundg (gk - 1)
                    case measure => have := HK.out; omega
                    case rel => exact ⟨j + 2, by have := HK.out; omega, by go_num, HX3.out, HN.out.step (by rw [he.out]; exact HNB.out) (fun h => by rw [Nat.add_sub_cancel, he.out, he'.out]; exact HP.out)⟩
              · obtain rfl : k = 0 := by omega
                go_wp2_with fail
                go_roundg (gk - 1)
                case measure => have := HK.out; omega
                case rel => exact ⟨1, by have := HK.out; omega, by go_num, HX2.out, HN.out.step (by rw [he.out]; exact HNB.out) (fun h => absurd h (Nat.lt_irrefl _))⟩
    · have HT := Lib.hid ((names_iff ⟨mx, ins, lat, outs, bads, invs, ands, nms⟩).2 (by rw [show nms.length = k from by omega]; exact HN.out))
      go_wp2_with fail
      go_ret
      exact ⟨hK.out _ HT.out, HX.out.fr⟩

end Go.Proofs.Ytbjccgahmgpkjaa
