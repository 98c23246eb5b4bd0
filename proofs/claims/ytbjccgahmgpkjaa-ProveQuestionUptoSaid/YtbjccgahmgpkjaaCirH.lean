/- The checker's named walked. -/
import Derived.Test.YtbjccgahmgpkjaaCirG
namespace Go.Proofs.Ytbjccgahmgpkjaa
open Go.RowKit
set_option linter.unusedVariables false

theorem size1 {k : ByteArray} (h : (k.size : Int) = 1) : ∃ c, k = ⟨#[c]⟩ := by
  obtain ⟨⟨l⟩⟩ := k
  have hl : l.length = 1 := by
    simp [ByteArray.size] at h
    omega
  match l, hl with
  | [c], _ => exact ⟨c, rfl⟩
theorem cntP_le {w : World} {H : Hd} {C : Pc} (h : CiAt w H C) (k : ByteArray) : cntP C k ≤ 17592186044416 := by
  have h1 := h.iL
  have h2 := h.lL
  have h3 := h.oL
  have h4 := h.bL
  have h5 := h.vL
  unfold cntP
  split
  · omega
  · split
    · omega
    · split
      · omega
      · split <;> omega

def oneB (C : Pc) (x : Nm) : Bool := decide ((x.k.size : Int) = 1) && decide (0 ≤ posI (letter x.k)) && decide (0 ≤ x.i) && decide (x.i < cntP C x.k) && textB x.t
def NamedTo (C : Pc) (k : Nat) : Prop := ∀ j : Nat, j < k → oneB C C.nms[j]! = true ∧ (0 < j → rankI C.nms[j - 1]! < rankI C.nms[j]!)
theorem NamedTo.zero (C : Pc) : NamedTo C 0 := fun j hj => absurd hj (Nat.not_lt_zero _)
theorem NamedTo.step {C : Pc} {k : Nat} (h : NamedTo C k) (h1 : oneB C C.nms[k]! = true) (h2 : 0 < k → rankI C.nms[k - 1]! < rankI C.nms[k]!) : NamedTo C (k + 1) := fun j hj => by
  by_cases e : j = k
  · subst e; exact ⟨h1, h2⟩
  · exact h j (by omega)
/-- What named answers. -/
def NmP (C : Pc) (w : World) (e : Ending) (w' : World) : Prop := ∃ b : Bool, e = .returned (.bool b) ∧ (b = true ↔ NamedTo C C.nms.length) ∧ Fr [] w w'

set_option maxRecDepth 100000 in
set_option maxHeartbeats 8000000 in
theorem named_calls (w : World) (H : Hd) (C : Pc) (h : CiAt w H C) :
    Calls Try.prog 43 #[cval H C] w (NmP C w) := by
  have HH := Lib.hid h
  have hnL := h.nL
  have HCL := Lib.hid (fun k => cntP_le h k)
  clear h
  have NO : Hid (∀ W, ¬ NamedTo C C.nms.length → Fr [] w W → NmP C w (.returned (.bool false)) W) := fun W h1 h2 => ⟨false, rfl, by simp [h1], h2⟩
  have YES : Hid (∀ W, NamedTo C C.nms.length → Fr [] w W → NmP C w (.returned (.bool true)) W) := fun W h1 h2 => ⟨true, rfl, by simp [h1], h2⟩
  have HS := Lib.hid (Cx.start w H C)
  have KC := Lib.hid (fun W s => pcount_calls W H C s)
  have RK := Lib.hid (fun W c i t h0 h1 => rank_calls W c i t h0 h1)
  have NBD : Hid (∀ k : Nat, k < C.nms.length → oneB C C.nms[k]! = false → ¬ NamedTo C C.nms.length) := fun k hk hb hn => by
    have := (hn k hk).1
    rw [hb] at this; cases this
  have NBR : Hid (∀ k : Nat, k < C.nms.length → 0 < k → ¬ rankI C.nms[k - 1]! < rankI C.nms[k]! → ¬ NamedTo C C.nms.length) := fun k hk h0 hb hn => hb ((hn k hk).2 h0)
  obtain ⟨mx, ins, lat, outs, bads, invs, ands, nms⟩ := C
  obtain ⟨iA, iC, lA, lC, oA, oC, bA, bC, vA, vC, gA, gC, nA, nC⟩ := H
  simp only [cval, cvs] at *
  go_enter Try.func43, Try.ntmps43
  go_wp2_with fail
  go_loopg [8] nms.length (fun g i wr => ∃ k : Nat, k + g = nms.length ∧ i = .int .i64 k ∧ Cx w wr ⟨iA, iC, lA, lC, oA, oC, bA, bC, vA, vC, gA, gC, nA, nC⟩ ⟨mx, ins, lat, outs, bads, invs, ands, nms⟩ ∧ NamedTo ⟨mx, ins, lat, outs, bads, invs, ands, nms⟩ k)
  case atStart => exact ⟨0, by omega, rfl, HS.out, NamedTo.zero _⟩
  case round =>
    obtain ⟨k, hk, rfl, hx, hn⟩ := hrel
    have HK := Lib.hid hk
    have HX := Lib.hid hx
    have HN := Lib.hid hn
    have hkn : k ≤ nms.length := by omega
    obtain ⟨c0, c1, c2, c3, c4, c5, c6, c7⟩ := hx.cells
    clear hk hx hn
    simp only at c0 c1 c2 c3 c4 c5 c6 c7
    by_cases hlt : k < nms.length
    · obtain ⟨b, o, x, y, z, hA, he, cx, cy, cz, hx1, ⟨hy1, hy2⟩, hz1⟩ := (HH.out.keep HX.out.fr).n.one HH.out.nr hlt
      simp only at hA
      subst hA
      go_upto_region 4 with fail
      obtain ⟨W1, hW1⟩ : ∃ W, wr.alloc (.cells #[.string x, .int .i64 y, .string z] 61) = W := ⟨_, rfl⟩
      rw [hW1]
      have hO : At W1 wr.heap.size 61 #[.string x, .int .i64 y, .string z] := hW1 ▸ At.new _ _ _
      have HF1 : Hid (Fr [] wr W1) := hW1 ▸ box_fr _ _
      clear hW1 c0 c1 c2 c3 c4 c5 c6 c7 cx cy cz
      generalize wr.heap.size = ob at hO ⊢
      have HX1 := Lib.hid (HX.out.keep HF1.out)
      have HO := Lib.hid hO
      clear hO
      obtain ⟨hb, HB⟩ : ∃ hb, Hid (oneB ⟨mx, ins, lat, outs, bads, invs, ands, nms⟩ ⟨x, y, z⟩ = hb) := ⟨_, rfl⟩
      obtain ⟨tb, HTB⟩ : ∃ tb, Hid (textB z = tb) := ⟨_, rfl⟩
      have KT0 := fun W => text_calls W z hz1
      rw [HTB.out] at KT0
      have KT := Lib.hid KT0
      obtain ⟨n, HNN⟩ : ∃ n, Hid (cntP ⟨mx, ins, lat, outs, bads, invs, ands, nms⟩ x = n) := ⟨_, rfl⟩
      have KQ0 := fun W => KC.out W x
      rw [HNN.out] at KQ0
      have KQ := Lib.hid KQ0
      clear KQ0 KT0
      have hxm := hx1
      unfold maxLen at hxm
      go_cut [42] (fun st wx => st = .bool (!hb) ∧ Fr [] W1 wx)
      case first =>
        have nx : W1.cell? ⟨ob, 0, none⟩ = some (.string x) := by rw [HO.out.cell]; rfl
        have ny : W1.cell? ⟨ob, 1, none⟩ = some (.int .i64 y) := by rw [HO.out.cell]; rfl
        have nz : W1.cell? ⟨ob, 2, none⟩ = some (.string z) := by rw [HO.out.cell]; rfl
        have ex := Ext.cell nx
        have ey := Ext.cell ny
        have ez := Ext.cell nz
        obtain ⟨e0, e1, e2, e3, e4, e5, e6, e7⟩ := HX1.out.ext
        simp only at e0 e1 e2 e3 e4 e5 e6 e7
        by_cases s1 : (x.size : Int) = 1
        · obtain ⟨c, hc⟩ := size1 s1
          subst hc
          have KS := Lib.hid (fun W => strcontains W c)
          clear s1
          by_cases p0 : 0 ≤ posI c
          · have p0b : decide (0 ≤ posI c) = true := decide_eq_true p0
            have PL : Hid (posI (letter ⟨#[c]⟩) = posI c) := rfl
            by_cases h0 : 0 ≤ y
            · have d0 : decide (y < 0) = false := decide_eq_false (by omega)
              by_cases h1 : y < n
              · have d1 : decide (n ≤ y) = false := decide_eq_false (by omega)
                go_wp2_with fail
                refine wp_region_ext (by kernel_rfl) (by kernel_rfl) ?_
                repeat (go_big_quiet_step (first | (go_at_call 59; exact call_same (KS.out _)) | (go_at_call 60; exact call_ext (KQ.out _)) | (go_at_call 61; exact call_ext (KT.out _))))
                refine wpQuiet_nil ?_
                rintro w2 ⟨u2, hu2⟩
                have HF_w2 : Hid (Fr [] W1 w2) := hu2 ▸ u2.fr
                clear hu2 u2
                go_wp2_with fail
                go_meet
                exact ⟨by rw [← HB.out]; simp [oneB, PL.out, p0, h0, HNN.out, h1, HTB.out, ByteArray.size], HF_w2.out⟩
              · have d1 : decide (n ≤ y) = true := decide_eq_true (by omega)
                go_wp2_with fail
                refine wp_region_ext (by kernel_rfl) (by kernel_rfl) ?_
                repeat (go_big_quiet_step (first | (go_at_call 59; exact call_same (KS.out _)) | (go_at_call 60; exact call_ext (KQ.out _)) | (go_at_call 61; exact call_ext (KT.out _))))
                refine wpQuiet_nil ?_
                rintro w2 ⟨u2, hu2⟩
                have HF_w2 : Hid (Fr [] W1 w2) := hu2 ▸ u2.fr
                clear hu2 u2
                go_wp2_with fail
                go_meet
                exact ⟨by rw [← HB.out]; simp [oneB, HNN.out, h1], HF_w2.out⟩
            · have d0 : decide (y < 0) = true := decide_eq_true (by omega)
              go_wp2_with fail
              refine wp_region_ext (by kernel_rfl) (by kernel_rfl) ?_
              repeat (go_big_quiet_step (first | (go_at_call 59; exact call_same (KS.out _)) | (go_at_call 60; exact call_ext (KQ.out _)) | (go_at_call 61; exact call_ext (KT.out _))))
              refine wpQuiet_nil ?_
              rintro w2 ⟨u2, hu2⟩
              have HF_w2 : Hid (Fr [] W1 w2) := hu2 ▸ u2.fr
              clear hu2 u2
              go_wp2_with fail
              go_meet
              exact ⟨by rw [← HB.out]; simp [oneB, show ¬ 0 ≤ y from by omega], HF_w2.out⟩
          · have p0b : decide (0 ≤ posI c) = false := decide_eq_false p0
            have PL : Hid (posI (letter ⟨#[c]⟩) = posI c) := rfl
            go_wp2_with fail
            refine wp_region_ext (by kernel_rfl) (by kernel_rfl) ?_
            repeat (go_big_quiet_step (first | (go_at_call 59; exact call_same (KS.out _)) | (go_at_call 60; exact call_ext (KQ.out _)) | (go_at_call 61; exact call_ext (KT.out _))))
            refine wpQuiet_nil ?_
            rintro w2 ⟨u2, hu2⟩
            have HF_w2 : Hid (Fr [] W1 w2) := hu2 ▸ u2.fr
            clear hu2 u2
            go_wp2_with fail
            go_meet
            exact ⟨by rw [← HB.out]; simp [oneB, PL.out, p0], HF_w2.out⟩
        · have s1b : ((x.size : Int) != 1) = true := by simp [s1]
          have S1 := Lib.hid s1
          clear s1
          go_wp2_with fail
          refine wp_region_ext (by kernel_rfl) (by kernel_rfl) ?_
          repeat (go_big_quiet_step (fail))
          refine wpQuiet_nil ?_
          rintro w2 ⟨u2, hu2⟩
          have HF_w2 : Hid (Fr [] W1 w2) := hu2 ▸ u2.fr
          clear hu2 u2
          go_wp2_with fail
          go_meet
          exact ⟨by rw [← HB.out]; simp [oneB, S1.out], HF_w2.out⟩
      case rest =>
        obtain ⟨rfl, hfc⟩ := hcut
        have HFC := Lib.hid hfc
        clear hfc
        have HX2 := Lib.hid (HX1.out.keep HFC.out)
        have HO2 := Lib.hid (HO.out.keep HFC.out)
        cases hb with
        | false =>
          go_wp2_with fail
          go_ret
          exact NO.out _ (NBD.out k hlt (by rw [he.out]; exact HB.out)) HX2.out.fr
        | true =>
          have hob := HB.out
          simp only [oneB, Bool.and_eq_true, decide_eq_true_eq] at hob
          obtain ⟨⟨⟨⟨s1, p0⟩, h0⟩, h1⟩, _⟩ := hob
          obtain ⟨c, hc⟩ := size1 s1
          have h2 := HCL.out x
          subst hc
          have hyb : y ≤ 17592186044416 := by omega
          clear s1 p0 h1 h2
          have nx : wc.cell? ⟨ob, 0, none⟩ = some (.string ⟨#[c]⟩) := by rw [HO2.out.cell]; rfl
          have ny : wc.cell? ⟨ob, 1, none⟩ = some (.int .i64 y) := by rw [HO2.out.cell]; rfl
          have nz : wc.cell? ⟨ob, 2, none⟩ = some (.string z) := by rw [HO2.out.cell]; rfl
          have ex := Ext.cell nx
          have ey := Ext.cell ny
          have ez := Ext.cell nz
          obtain ⟨e0, e1, e2, e3, e4, e5, e6, e7⟩ := HX2.out.ext
          simp only at e0 e1 e2 e3 e4 e5 e6 e7
          by_cases hk0 : 0 < k
          · obtain ⟨j, rfl⟩ : ∃ j, k = j + 1 := ⟨k - 1, by omega⟩
            obtain ⟨b', o', x', y', z', hA', he', cx', cy', cz', hx1', ⟨hy1', hy2'⟩, hz1'⟩ := (HH.out.keep HX2.out.fr).n.one HH.out.nr (show j < nms.length by omega)
            simp only [Option.some.injEq, Addr.mk.injEq, and_true] at hA'
            obtain ⟨rfl, rfl⟩ := hA'
            have hob := (HN.out j (by omega)).1
            simp only [he'.out] at hob
            simp only [oneB, Bool.and_eq_true, decide_eq_true_eq] at hob
            obtain ⟨⟨⟨⟨s1, p0⟩, h0'⟩, h1⟩, _⟩ := hob
            obtain ⟨c', hc'⟩ := size1 s1
            have h2 := HCL.out x'
            subst hc'
            have hyb' : y' ≤ 17592186044416 := by omega
            clear s1 p0 h1 h2
            have ex' := Ext.cell cx'
            have ey' := Ext.cell cy'
            have ez' := Ext.cell cz'
            clear cx' cy' cz' nx ny nz
            by_cases hr : posI c * 2048 + y ≤ posI c' * 2048 + y'
            · have dr : decide (posI c * 2048 + y ≤ posI c' * 2048 + y') = true := decide_eq_true hr
              have HR := Lib.hid hr
              clear hr
              go_wp2_with fail
              refine wp_region_ext (by kernel_rfl) (by kernel_rfl) ?_
              repeat (go_big_quiet_step (exact call_ext (RK.out _ _ _ _ (by omega) (by omega))))
              refine wpQuiet_nil ?_
              rintro w2 ⟨u2, hu2⟩
              have HF_w2 : Hid (Fr [] wc w2) := hu2 ▸ u2.fr
              clear hu2 u2
              go_wp2_with fail
              go_ret
              exact NO.out _ (NBR.out (j + 1) hlt hk0 (by rw [Nat.add_sub_cancel, he.out, he'.out]; have := HR.out; show posI c * 2048 + y ≤ posI c' * 2048 + y'; omega)) (HX2.out.fr.then_ HF_w2.out)
            · have dr : decide (posI c * 2048 + y ≤ posI c' * 2048 + y') = false := decide_eq_false hr
              have HR := Lib.hid hr
              clear hr
              go_wp2_with fail
              refine wp_region_ext (by kernel_rfl) (by kernel_rfl) ?_
              repeat (go_big_quiet_step (exact call_ext (RK.out _ _ _ _ (by omega) (by omega))))
              refine wpQuiet_nil ?_
              rintro w2 ⟨u2, hu2⟩
              have HF_w2 : Hid (Fr [] wc w2) := hu2 ▸ u2.fr
              clear hu2 u2
              go_wp2_with fail
              go_roundg (gk - 1)
              case measure => have := HK.out; omega
              case rel => exact ⟨j + 2, by have := HK.out; omega, by go_num, HX2.out.keep HF_w2.out, HN.out.step (by rw [he.out]; exact HB.out) (fun h => by rw [Nat.add_sub_cancel, he.out, he'.out]; have := HR.out; show posI c' * 2048 + y' < posI c * 2048 + y; omega)⟩
          · obtain rfl : k = 0 := by omega
            go_wp2_with fail
            refine wp_region_ext (by kernel_rfl) (by kernel_rfl) ?_
            repeat (go_big_quiet_step (fail))
            refine wpQuiet_nil ?_
            rintro w2 ⟨u2, hu2⟩
            have HF_w2 : Hid (Fr [] wc w2) := hu2 ▸ u2.fr
            clear hu2 u2
            go_wp2_with fail
            go_roundg (gk - 1)
            case measure => have := HK.out; omega
            case rel => exact ⟨1, by have := HK.out; omega, by go_num, HX2.out.keep HF_w2.out, HN.out.step (by rw [he.out]; exact HB.out) (fun h => absurd h (Nat.lt_irrefl _))⟩
    · have HT : Hid (NamedTo ⟨mx, ins, lat, outs, bads, invs, ands, nms⟩ nms.length) := (by rw [show nms.length = k from by omega]; exact HN.out : NamedTo ⟨mx, ins, lat, outs, bads, invs, ands, nms⟩ nms.length)
      go_wp2_with fail
      go_ret
      exact YES.out _ HT.out HX.out.fr

end Go.Proofs.Ytbjccgahmgpkjaa
