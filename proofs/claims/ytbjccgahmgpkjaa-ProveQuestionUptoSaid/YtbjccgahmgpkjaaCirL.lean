/- The checker's Check walked. -/
import Derived.Test.YtbjccgahmgpkjaaCirJ
import Derived.Test.YtbjccgahmgpkjaaCirK
namespace Go.Proofs.Ytbjccgahmgpkjaa
open Go.RowKit
set_option linter.unusedVariables false

def mx2 (x y : Int) : Int := if y > x then y else x
def mx5 (a b c d e : Int) : Int := mx2 (mx2 (mx2 (mx2 a b) c) d) e
theorem mx2_le (x y n : Int) : mx2 x y ≤ n ↔ x ≤ n ∧ y ≤ n := by unfold mx2; split <;> omega
theorem mx5_le (a b c d e n : Int) : mx5 a b c d e ≤ n ↔ (((a ≤ n ∧ b ≤ n) ∧ c ≤ n) ∧ d ≤ n) ∧ e ≤ n := by simp only [mx5, mx2_le]
theorem run_max5 (w : World) (ts : Array TypeId) (t : TypeId) (a b c d e : Int) : (Builtin.max_ ts t #[.int .i64 a, .int .i64 b, .int .i64 c, .int .i64 d, .int .i64 e]).run Try.prog w = .ok (.int .i64 (mx5 a b c d e)) w := by
  simp [Builtin.max_, Builtin.max2, mx5, mx2]

/-- The state of Check: the box, and its result's cell in block r. -/
structure Kx (w wr : World) (H : Hd) (C : Pc) (r : Nat) : Prop where
  cx : Cx w wr H C
  rs : At wr r 29 #[.int .i64 0]
theorem Kx.keep {w wr w' : World} {H : Hd} {C : Pc} {r : Nat} (h : Kx w wr H C r) (hf : Fr [] wr w') : Kx w w' H C r := ⟨h.cx.keep hf, h.rs.keep hf⟩
theorem Kx.start (w : World) (H : Hd) (C : Pc) : Kx w ((w.alloc (.cells (cvs H C) 27)).alloc (.cells #[.int .i64 0] 29)) H C (w.heap.size + 1) := by
  refine ⟨(Cx.start w H C).keep (box_fr _ _), ?_⟩
  have := At.new (w.alloc (.cells (cvs H C) 27)) 29 #[.int .i64 0]
  simpa using this

set_option maxRecDepth 100000 in
theorem end_panic (R : Ending → World → Prop) (tmps : Array Value) (r : Nat) (wx : World) (h2 : tmps.getD 2 undef = .pointer (some ⟨r, 0, none⟩)) (hc : At wx r 29 #[.int .i64 0])
    (hR : R (.returned (.int .i64 9)) (wx.setCell ⟨r, 0, none⟩ (.int .i64 9))) :
    bodyPostD Try.prog Try.f20 R (Exit.panic [{ v := .iface 29 (.int .i64 9), recovered := false }])
      { tmps := tmps, defers := [{ target := Target.fn (Fn.func 38) #[.pointer (some ⟨r, 0, none⟩)], args := #[] }] } wx := by
  refine leaves_cons (f := 38) (args := #[.pointer (some ⟨r, 0, none⟩)]) (by simp) (by simp [go_sem]) ?_
  refine (catch_panicking ⟨r, 0, none⟩ (.int .i64 0) [] _ (by rw [hc.cell]; rfl) (hc.frozen 0)).mono ?_
  rintro e u' w'' ⟨rfl, rfl, rfl⟩
  have hc2 : (wx.setCell ⟨r, 0, none⟩ (.int .i64 9)).cell? ⟨r, 0, none⟩ = some (.int .i64 9) := by
    have := (hc.set_ 0 (.int .i64 9)).cell 0
    rw [this]; rfl
  have hr2 : (results Try.f20 tmps).run Try.prog (wx.setCell ⟨r, 0, none⟩ (.int .i64 9)) = .ok (.int .i64 9) (wx.setCell ⟨r, 0, none⟩ (.int .i64 9)) := by
    simp only [Array.getD_eq_getD_getElem?] at h2
    simp [results, Try.results20, go_sem, h2, hc2]
  exact ⟨_, hr2, hR⟩
set_option maxRecDepth 100000 in
theorem end_ret (R : Ending → World → Prop) (tmps : Array Value) (r : Nat) (wx : World) (h2 : tmps.getD 2 undef = .pointer (some ⟨r, 0, none⟩)) (hc : At wx r 29 #[.int .i64 0])
    (hR : R (.returned (.int .i64 0)) wx) :
    bodyPostD Try.prog Try.f20 R Exit.ret
      { tmps := tmps, defers := [{ target := Target.fn (Fn.func 38) #[.pointer (some ⟨r, 0, none⟩)], args := #[] }] } wx := by
  refine leaves_cons (f := 38) (args := #[.pointer (some ⟨r, 0, none⟩)]) (by simp) (by simp [go_sem]) ?_
  refine (catch_idle ⟨r, 0, none⟩ _).mono ?_
  rintro e u' w'' ⟨rfl, rfl, rfl⟩
  have hc2 : w''.cell? ⟨r, 0, none⟩ = some (.int .i64 0) := by rw [hc.cell]; rfl
  have hr2 : (results Try.f20 tmps).run Try.prog w'' = .ok (.int .i64 0) w'' := by
    simp only [Array.getD_eq_getD_getElem?] at h2
    simp [results, Try.results20, go_sem, h2, hc2]
  exact ⟨_, hr2, hR⟩

theorem all_kn {f : Int → List UInt8} {C : Pc} {xs : List Int} (hr : Ra xs) (h : ∀ l, R64 l → knB f l = litB C l) : xs.all (knB f) = xs.all (litB C) := by
  rw [Bool.eq_iff_iff, List.all_eq_true, List.all_eq_true]
  have hh : ∀ x ∈ xs, knB f x = litB C x := fun x hx => by
    obtain ⟨j, hj, e⟩ := List.mem_iff_getElem.1 hx
    have := hr j hj
    rw [List.getElem!_eq_getElem?_getD, List.getElem?_eq_getElem hj, e] at this
    exact h x this
  exact ⟨fun h1 x hx => by rw [← hh x hx]; exact h1 x hx, fun h1 x hx => by rw [hh x hx]; exact h1 x hx⟩

set_option maxRecDepth 100000 in
set_option maxHeartbeats 8000000 in
theorem check_calls (w : World) (H : Hd) (C : Pc) (h : CiAt w H C) :
    Calls Try.prog 20 #[cval H C] w (ChkP C w) := by
  have HH := Lib.hid h
  have hmr := h.mr
  have hiL := h.iL
  have hlL := h.lL
  have hoL := h.oL
  have hbL := h.bL
  have hvL := h.vL
  have hgL := h.gL
  unfold R64 at hmr
  obtain ⟨hm1, hm2⟩ := hmr
  clear h
  have BAD : Hid (∀ r wx, w.heap.size < r → Kx w wx H C r → ¬ Valid C → ChkP C w (.returned (.int .i64 9)) (wx.setCell ⟨r, 0, none⟩ (.int .i64 9))) := fun r wx hr hk hv => chk_no hv (hk.cx.fr.setCell (.inr (Nat.le_of_lt hr)) _)
  have YES : Hid (∀ r wx, w.heap.size < r → Kx w wx H C r → Valid C → ChkP C w (.returned (.int .i64 0)) (wx.setCell ⟨r, 0, none⟩ (.int .i64 0))) := fun r wx hr hk hv => chk_yes hv (hk.cx.fr.setCell (.inr (Nat.le_of_lt hr)) _)
  have HKS := Lib.hid (Kx.start w H C)
  have VL := Lib.hid (fun h : Valid C => h.lens)
  have VD := Lib.hid (fun h : Valid C => h.defOk)
  have VR := Lib.hid (fun h : Valid C => h.reB)
  have VO := Lib.hid (fun (h1 : Lens C) (h2 : DefOk C) (h3 : ReB C) => valid_of h1 h2 h3)
  have KD := Lib.hid (fun W hW h1 h2 h3 h4 => defined_calls W H C hW h1 h2 h3 h4)
  have KN := Lib.hid (fun W hW => named_calls W H C hW)
  have KL : Hid (∀ (f : Int → List UInt8), DefOk C → Dk f (ownL C) → ∀ l, R64 l → knB f l = litB C l) := fun f h1 h2 l hl => kn_lit h1 h2 hl
  have hmf : ∀ (fn : Fn) (first cap : Array Value) (w : World), (Instr.makeFunc fn first cap).run Try.prog w = .ok (.func fn first cap) w := fun _ _ _ _ => rfl
  have hmax := fun w ts t => run_max5 w ts t C.ins.length C.lat.length C.outs.length C.bads.length C.invs.length
  simp only [cvs] at HKS
  obtain ⟨mx, ins, lat, outs, bads, invs, ands, nms⟩ := C
  obtain ⟨iA, iC, lA, lC, oA, oC, bA, bC, vA, vC, gA, gC, nA, nC⟩ := H
  simp only [cval, cvs] at *
  go_enter_defers Try.func20, Try.ntmps20
  go_upto_region 2 with fail
  obtain ⟨W0, hW0⟩ : ∃ W, (w.alloc (.cells #[.int .i64 mx, .slice iA ins.length iC, .slice lA lat.length lC, .slice oA outs.length oC, .slice bA bads.length bC, .slice vA invs.length vC, .slice gA ands.length gC, .slice nA nms.length nC] 27)).alloc (.cells #[.int .i64 0] 29) = W := ⟨_, rfl⟩
  rw [hW0] at HKS ⊢
  obtain ⟨r, hr0⟩ : ∃ r, w.heap.size + 1 = r := ⟨_, rfl⟩
  rw [hr0] at HKS ⊢
  have hr : w.heap.size < r := by omega
  clear hW0 hr0
  have hx := HKS.out.cx
  obtain ⟨c0, c1, c2, c3, c4, c5, c6, c7⟩ := hx.cells
  clear hx
  simp only at c0 c1 c2 c3 c4 c5 c6 c7
  by_cases m0 : 0 ≤ mx
  · have d0 : decide (0 ≤ mx) = true := decide_eq_true m0
    by_cases m1 : mx ≤ 2048
    · have d1 : decide (mx ≤ 2048) = true := decide_eq_true m1
      obtain ⟨M, HMX⟩ : ∃ M, Hid (mx5 ins.length lat.length outs.length bads.length invs.length = M) := ⟨_, rfl⟩
      rw [HMX.out] at hmax
      by_cases m2 : M ≤ 64
      · have d2 : decide (M ≤ 64) = true := decide_eq_true m2
        have hm5 := (mx5_le ins.length lat.length outs.length bads.length invs.length 64).1 (by rw [HMX.out]; exact m2)
        obtain ⟨⟨⟨⟨a1, a2⟩, a3⟩, a4⟩, a5⟩ := hm5
        have b1 : ins.length ≤ 64 := by omega
        have b2 : lat.length ≤ 64 := by omega
        have b3 : outs.length ≤ 64 := by omega
        have b4 : bads.length ≤ 64 := by omega
        have b5 : invs.length ≤ 64 := by omega
        have HLN : Hid (Lens ⟨mx, ins, lat, outs, bads, invs, ands, nms⟩) := ⟨m0, m1, b1, b2, b3, b4, b5⟩
        clear a1 a2 a3 a4 a5
        go_wp2_with fail
        refine (need_yes _).mono ?_
        rintro e w9 ⟨rfl, rfl⟩
        clear hmax hmf
        go_wp2_with fail
        refine (KD.out _ (HH.out.keep HKS.out.cx.fr) b1 b2 m0 m1).mono ?_
        rintro e w1 ⟨hcase, hf⟩
        have HK1 := Lib.hid (HKS.out.keep hf)
        clear hf HKS c0 c1 c2 c3 c4 c5 c6 c7
        rcases hcase with ⟨hdo, g, b, n, f, rfl, hms, hdk⟩ | ⟨hdo, rfl⟩
        · have HDO := Lib.hid hdo
          have HMS := Lib.hid hms
          have HKL := Lib.hid (KL.out f hdo hdk)
          clear hdo hms hdk
          have hx := HK1.out.cx
          obtain ⟨c0, c1, c2, c3, c4, c5, c6, c7⟩ := hx.cells
          clear hx
          simp only at c0 c1 c2 c3 c4 c5 c6 c7
          go_wp2_with fail
          clear c0 c1 c2 c3 c4 c5 c6 c7
          go_loopg [42] lat.length (fun gg i wr => ∃ k : Nat, k + gg = lat.length ∧ i = .int .i64 k ∧ Kx w wr ⟨iA, iC, lA, lC, oA, oC, bA, bC, vA, vC, gA, gC, nA, nC⟩ ⟨mx, ins, lat, outs, bads, invs, ands, nms⟩ r ∧ Ms wr g b n f ∧ (∀ j, j < k → litB ⟨mx, ins, lat, outs, bads, invs, ands, nms⟩ (lat[j]!).b = true))
          case atStart => exact ⟨0, by omega, rfl, HK1.out, HMS.out, fun j hj => absurd hj (Nat.not_lt_zero _)⟩
          case round =>
            clear HK1 HMS
            obtain ⟨k, hk, rfl, hkx, hms, hl⟩ := hrel
            have HK := Lib.hid hk
            have HX := Lib.hid hkx
            have HM := Lib.hid hms
            have HL := Lib.hid hl
            have hkn : k ≤ lat.length := by omega
            clear hk hkx hms hl
            by_cases hlt : k < lat.length
            · obtain ⟨bb, o, x, y, z, hA, he, cx, cy, cz, _, ⟨hy1, hy2⟩, _, _⟩ := (HH.out.keep HX.out.cx.fr).l.one HH.out.lr hlt
              simp only at hA
              subst hA
              go_upto_region 7 with fail
              obtain ⟨W1, hW1⟩ : ∃ W, wr.alloc (.cells #[.int .i64 x, .int .i64 y, .int .i64 z] 67) = W := ⟨_, rfl⟩
              rw [hW1]
              have hO : At W1 wr.heap.size 67 #[.int .i64 x, .int .i64 y, .int .i64 z] := hW1 ▸ At.new _ _ _
              have HF1 : Hid (Fr [] wr W1) := hW1 ▸ box_fr _ _
              clear hW1 cx cy cz
              generalize wr.heap.size = ob at hO ⊢
              have n1 : W1.cell? ⟨ob, 1, none⟩ = some (.int .i64 y) := by rw [hO.cell]; rfl
              have HX1 := Lib.hid (HX.out.keep HF1.out)
              have HM1 := Lib.hid (HM.out.keep HF1.out)
              clear hO
              go_wp2_with fail
              refine (known_calls W1 g b n f y HM1.out ⟨hy1, hy2⟩).mono ?_
              rw [HKL.out y ⟨hy1, hy2⟩]
              obtain ⟨q, HQ⟩ : ∃ q, Hid (litB ⟨mx, ins, lat, outs, bads, invs, ands, nms⟩ y = q) := ⟨_, rfl⟩
              rw [HQ.out]
              rintro e w2 ⟨rfl, hf⟩
              have HX2 := Lib.hid (HX1.out.keep hf)
              have HM2 := Lib.hid (HM1.out.keep hf)
              clear hf n1
              cases q with
              | true =>
                go_wp2_with fail
                refine (need_yes _).mono ?_
                rintro e w9 ⟨rfl, rfl⟩
                have HLN2 : Hid (∀ j, j < k + 1 → litB ⟨mx, ins, lat, outs, bads, invs, ands, nms⟩ (lat[j]!).b = true) := fun j hj => by
                  by_cases ej : j = k
                  · subst ej; rw [he.out]; exact HQ.out
                  · exact HL.out j (by omega)
                go_wp2_with fail
                go_roundg (gk - 1)
                case measure => have := HK.out; omega
                case rel => exact ⟨k + 1, by have := HK.out; omega, by go_num, HX2.out, HM2.out, HLN2.out⟩
              | false =>
                go_wp2_with fail
                refine (need_no _).mono ?_
                unfold Fault
                rintro e w9 ⟨rfl, rfl⟩
                go_wp2_with fail
                exact end_panic _ _ r _ rfl HX2.out.rs (BAD.out r _ hr HX2.out (fun hv => by have := (VR.out hv).lat k hlt; rw [he.out] at this; rw [HQ.out] at this; cases this))
            · obtain rfl : k = lat.length := by omega
              have HK1 := HX
              have HMS := HM
              have HRL := HL
              clear HX HM HL HK hkn hlt
              have hx := HK1.out.cx
              obtain ⟨c0, c1, c2, c3, c4, c5, c6, c7⟩ := hx.cells
              clear hx
              simp only at c0 c1 c2 c3 c4 c5 c6 c7
              go_wp2_with fail
              clear c0 c1 c2 c3 c4 c5 c6 c7
              go_loopg [55] ands.length (fun gg i wr => ∃ k : Nat, k + gg = ands.length ∧ i = .int .i64 k ∧ Kx w wr ⟨iA, iC, lA, lC, oA, oC, bA, bC, vA, vC, gA, gC, nA, nC⟩ ⟨mx, ins, lat, outs, bads, invs, ands, nms⟩ r ∧ Ms wr g b n f ∧ (∀ j, j < k → litB ⟨mx, ins, lat, outs, bads, invs, ands, nms⟩ (ands[j]!).b = true ∧ litB ⟨mx, ins, lat, outs, bads, invs, ands, nms⟩ (ands[j]!).c = true ∧ (ands[j]!).b < (ands[j]!).a ∧ (ands[j]!).c < (ands[j]!).a))
              case atStart => exact ⟨0, by omega, rfl, HK1.out, HMS.out, fun j hj => absurd hj (Nat.not_lt_zero _)⟩
              case round =>
                clear HK1 HMS
                obtain ⟨k, hk, rfl, hkx, hms, hl⟩ := hrel
                have HK := Lib.hid hk
                have HX := Lib.hid hkx
                have HM := Lib.hid hms
                have HL := Lib.hid hl
                have hkn : k ≤ ands.length := by omega
                clear hk hkx hms hl
                by_cases hlt : k < ands.length
                · obtain ⟨bb, o, x, y, z, hA, he, cx, cy, cz, _, ⟨hy1, hy2⟩, hz1, hz2⟩ := (HH.out.keep HX.out.cx.fr).g.one HH.out.gr hlt
                  simp only at hA
                  subst hA
                  have HVA : Hid (Valid ⟨mx, ins, lat, outs, bads, invs, ands, nms⟩ → litB ⟨mx, ins, lat, outs, bads, invs, ands, nms⟩ y = true ∧ litB ⟨mx, ins, lat, outs, bads, invs, ands, nms⟩ z = true ∧ y < x ∧ z < x) := fun hv => by
                    have := (VR.out hv).ands k hlt
                    rw [he.out] at this
                    exact this
                  go_upto_region 12 with fail
                  obtain ⟨W1, hW1⟩ : ∃ W, wr.alloc (.cells #[.int .i64 x, .int .i64 y, .int .i64 z] 70) = W := ⟨_, rfl⟩
                  rw [hW1]
                  have hO : At W1 wr.heap.size 70 #[.int .i64 x, .int .i64 y, .int .i64 z] := hW1 ▸ At.new _ _ _
                  have HF1 : Hid (Fr [] wr W1) := hW1 ▸ box_fr _ _
                  clear hW1 cx cy cz
                  generalize wr.heap.size = ob at hO ⊢
                  have HO := Lib.hid hO
                  have n1 : W1.cell? ⟨ob, 1, none⟩ = some (.int .i64 y) := by rw [hO.cell]; rfl
                  have HX1 := Lib.hid (HX.out.keep HF1.out)
                  have HM1 := Lib.hid (HM.out.keep HF1.out)
                  clear hO
                  go_wp2_with fail
                  refine (known_calls W1 g b n f y HM1.out ⟨hy1, hy2⟩).mono ?_
                  rw [HKL.out y ⟨hy1, hy2⟩]
                  obtain ⟨q, HQ⟩ : ∃ q, Hid (litB ⟨mx, ins, lat, outs, bads, invs, ands, nms⟩ y = q) := ⟨_, rfl⟩
                  rw [HQ.out]
                  rintro e w2 ⟨rfl, hf⟩
                  have HX2 := Lib.hid (HX1.out.keep hf)
                  have HM2 := Lib.hid (HM1.out.keep hf)
                  have HO2 := Lib.hid (HO.out.keep hf)
                  clear hf n1
                  have n0 : w2.cell? ⟨ob, 0, none⟩ = some (.int .i64 x) := by rw [HO2.out.cell]; rfl
                  have n1 : w2.cell? ⟨ob, 1, none⟩ = some (.int .i64 y) := by rw [HO2.out.cell]; rfl
                  have n2 : w2.cell? ⟨ob, 2, none⟩ = some (.int .i64 z) := by rw [HO2.out.cell]; rfl
                  cases q with
                  | true =>
                    go_wp2_with fail
                    refine (known_calls w2 g b n f z HM2.out ⟨hz1, hz2⟩).mono ?_
                    rw [HKL.out z ⟨hz1, hz2⟩]
                    obtain ⟨p, HP⟩ : ∃ p, Hid (litB ⟨mx, ins, lat, outs, bads, invs, ands, nms⟩ z = p) := ⟨_, rfl⟩
                    rw [HP.out]
                    rintro e w3 ⟨rfl, hf⟩
                    have HX3 := Lib.hid (HX2.out.keep hf)
                    have HM3 := Lib.hid (HM2.out.keep hf)
                    have HO3 := Lib.hid (HO2.out.keep hf)
                    clear hf n0 n1 n2
                    have n0 : w3.cell? ⟨ob, 0, none⟩ = some (.int .i64 x) := by rw [HO3.out.cell]; rfl
                    have n1 : w3.cell? ⟨ob, 1, none⟩ = some (.int .i64 y) := by rw [HO3.out.cell]; rfl
                    have n2 : w3.cell? ⟨ob, 2, none⟩ = some (.int .i64 z) := by rw [HO3.out.cell]; rfl
                    cases p with
                    | true =>
                      by_cases l1 : y < x
                      · have t1 : decide (y < x) = true := decide_eq_true l1
                        by_cases l2 : z < x
                        · have t2 : decide (z < x) = true := decide_eq_true l2
                          go_wp2_with fail
                          refine (need_yes _).mono ?_
                          rintro e w9 ⟨rfl, rfl⟩
                          have HLN2 : Hid (∀ j, j < k + 1 → litB ⟨mx, ins, lat, outs, bads, invs, ands, nms⟩ (ands[j]!).b = true ∧ litB ⟨mx, ins, lat, outs, bads, invs, ands, nms⟩ (ands[j]!).c = true ∧ (ands[j]!).b < (ands[j]!).a ∧ (ands[j]!).c < (ands[j]!).a) := fun j hj => by
                            by_cases ej : j = k
                            · subst ej; rw [he.out]; exact ⟨HQ.out, HP.out, l1, l2⟩
                            · exact HL.out j (by omega)
                          go_wp2_with fail
                          go_roundg (gk - 1)
                          case measure => have := HK.out; omega
                          case rel => exact ⟨k + 1, by have := HK.out; omega, by go_num, HX3.out, HM3.out, HLN2.out⟩
                        · have t2 : decide (z < x) = false := decide_eq_false l2
                          go_wp2_with fail
                          refine (need_no _).mono ?_
                          unfold Fault
                          rintro e w9 ⟨rfl, rfl⟩
                          go_wp2_with fail
                          exact end_panic _ _ r _ rfl HX3.out.rs (BAD.out r _ hr HX3.out (fun hv => absurd (HVA.out hv).2.2.2 (by omega)))
                      · have t1 : decide (y < x) = false := decide_eq_false l1
                        go_wp2_with fail
                        refine (need_no _).mono ?_
                        unfold Fault
                        rintro e w9 ⟨rfl, rfl⟩
                        go_wp2_with fail
                        exact end_panic _ _ r _ rfl HX3.out.rs (BAD.out r _ hr HX3.out (fun hv => absurd (HVA.out hv).2.2.1 (by omega)))
                    | false =>
                      go_wp2_with fail
                      refine (need_no _).mono ?_
                      unfold Fault
                      rintro e w9 ⟨rfl, rfl⟩
                      go_wp2_with fail
                      exact end_panic _ _ r _ rfl HX3.out.rs (BAD.out r _ hr HX3.out (fun hv => by have := (HVA.out hv).2.1; rw [HP.out] at this; cases this))
                  | false =>
                    go_wp2_with fail
                    refine (need_no _).mono ?_
                    unfold Fault
                    rintro e w9 ⟨rfl, rfl⟩
                    go_wp2_with fail
                    exact end_panic _ _ r _ rfl HX2.out.rs (BAD.out r _ hr HX2.out (fun hv => by have := (HVA.out hv).1; rw [HQ.out] at this; cases this))
                · obtain rfl : k = ands.length := by omega
                  have HRA := HL
                  clear HL HK hkn hlt
                  have hx := HX.out.cx
                  obtain ⟨c0, c1, c2, c3, c4, c5, c6, c7⟩ := hx.cells
                  clear hx
                  simp only at c0 c1 c2 c3 c4 c5 c6 c7
                  go_wp2_with fail
                  refine (all_calls wr g b n f oA oC outs HM.out (HH.out.keep HX.out.cx.fr).o HH.out.or_ HH.out.oL).mono ?_
                  rw [all_kn HH.out.or_ HKL.out]
                  obtain ⟨qo, HQO⟩ : ∃ q, Hid (outs.all (litB ⟨mx, ins, lat, outs, bads, invs, ands, nms⟩) = q) := ⟨_, rfl⟩
                  rw [HQO.out]
                  rintro e w2 ⟨rfl, hf⟩
                  have HX2 := Lib.hid (HX.out.keep hf)
                  have HM2 := Lib.hid (HM.out.keep hf)
                  clear hf c0 c1 c2 c3 c4 c5 c6 c7
                  have hx := HX2.out.cx
                  obtain ⟨c0, c1, c2, c3, c4, c5, c6, c7⟩ := hx.cells
                  clear hx
                  simp only at c0 c1 c2 c3 c4 c5 c6 c7
                  cases qo with
                  | false =>
                    go_wp2_with fail
                    refine (need_no _).mono ?_
                    unfold Fault
                    rintro e w9 ⟨rfl, rfl⟩
                    go_wp2_with fail
                    exact end_panic _ _ r _ rfl HX2.out.rs (BAD.out r _ hr HX2.out (fun hv => by have := (VR.out hv).o; simp only at this; rw [HQO.out] at this; cases this))
                  | true =>
                    go_wp2_with fail
                    refine (all_calls w2 g b n f bA bC bads HM2.out (HH.out.keep HX2.out.cx.fr).b HH.out.br HH.out.bL).mono ?_
                    rw [all_kn HH.out.br HKL.out]
                    obtain ⟨qb, HQB⟩ : ∃ q, Hid (bads.all (litB ⟨mx, ins, lat, outs, bads, invs, ands, nms⟩) = q) := ⟨_, rfl⟩
                    rw [HQB.out]
                    rintro e w3 ⟨rfl, hf⟩
                    have HX3 := Lib.hid (HX2.out.keep hf)
                    have HM3 := Lib.hid (HM2.out.keep hf)
                    clear hf c0 c1 c2 c3 c4 c5 c6 c7
                    have hx := HX3.out.cx
                    obtain ⟨c0, c1, c2, c3, c4, c5, c6, c7⟩ := hx.cells
                    clear hx
                    simp only at c0 c1 c2 c3 c4 c5 c6 c7
                    cases qb with
                    | false =>
                      go_wp2_with fail
                      refine (need_no _).mono ?_
                      unfold Fault
                      rintro e w9 ⟨rfl, rfl⟩
                      go_wp2_with fail
                      exact end_panic _ _ r _ rfl HX3.out.rs (BAD.out r _ hr HX3.out (fun hv => by have := (VR.out hv).b; simp only at this; rw [HQB.out] at this; cases this))
                    | true =>
                      go_wp2_with fail
                      refine (all_calls w3 g b n f vA vC invs HM3.out (HH.out.keep HX3.out.cx.fr).v HH.out.vr HH.out.vL).mono ?_
                      rw [all_kn HH.out.vr HKL.out]
                      obtain ⟨qv, HQV⟩ : ∃ q, Hid (invs.all (litB ⟨mx, ins, lat, outs, bads, invs, ands, nms⟩) = q) := ⟨_, rfl⟩
                      rw [HQV.out]
                      rintro e w4 ⟨rfl, hf⟩
                      have HX4 := Lib.hid (HX3.out.keep hf)
                      clear hf c0 c1 c2 c3 c4 c5 c6 c7
                      have hx := HX4.out.cx
                      obtain ⟨c0, c1, c2, c3, c4, c5, c6, c7⟩ := hx.cells
                      clear hx
                      simp only at c0 c1 c2 c3 c4 c5 c6 c7
                      cases qv with
                      | false =>
                        go_wp2_with fail
                        refine (need_no _).mono ?_
                        unfold Fault
                        rintro e w9 ⟨rfl, rfl⟩
                        go_wp2_with fail
                        exact end_panic _ _ r _ rfl HX4.out.rs (BAD.out r _ hr HX4.out (fun hv => by have := (VR.out hv).v; simp only at this; rw [HQV.out] at this; cases this))
                      | true =>
                        go_wp2_with fail
                        refine (KN.out w4 (HH.out.keep HX4.out.cx.fr)).mono ?_
                        rintro e w5 ⟨qn, rfl, hqn, hf⟩
                        have HQN := Lib.hid hqn
                        have HX5 := Lib.hid (HX4.out.keep hf)
                        clear hf hqn c0 c1 c2 c3 c4 c5 c6 c7
                        cases qn with
                        | false =>
                          go_wp2_with fail
                          refine (need_no _).mono ?_
                          unfold Fault
                          rintro e w9 ⟨rfl, rfl⟩
                          go_wp2_with fail
                          exact end_panic _ _ r _ rfl HX5.out.rs (BAD.out r _ hr HX5.out (fun hv => by have := HQN.out.2 (VR.out hv).n; cases this))
                        | true =>
                          go_wp2_with fail
                          refine (need_yes _).mono ?_
                          rintro e w9 ⟨rfl, rfl⟩
                          have hc := HX5.out.rs.cell 0
                          have hz := HX5.out.rs.frozen 0
                          simp at hc
                          go_wp2_with fail
                          have HRS := HX5.out.rs.set_ 0 (.int .i64 0)
                          simp at HRS
                          exact end_ret _ _ r _ rfl HRS (YES.out r _ hr HX5.out (VO.out HLN.out HDO.out ⟨HRL.out, HRA.out, HQO.out, HQB.out, HQV.out, HQN.out.1 (by simp)⟩))
        · unfold Fault
          go_wp2_with fail
          exact end_panic _ _ r _ rfl HK1.out.rs (BAD.out r _ hr HK1.out (fun hv => hdo (VD.out hv)))
      · have d2 : decide (M ≤ 64) = false := decide_eq_false m2
        have HNV : Hid (¬ Valid ⟨mx, ins, lat, outs, bads, invs, ands, nms⟩) := fun hv => by
          have hl := VL.out hv
          have h1 := hl.i
          have h2 := hl.l
          have h3 := hl.o
          have h4 := hl.b
          have h5 := hl.v
          simp only at h1 h2 h3 h4 h5
          exact m2 (by rw [← HMX.out, mx5_le]; omega)
        go_wp2_with fail
        refine (need_no _).mono ?_
        unfold Fault
        rintro e w9 ⟨rfl, rfl⟩
        go_wp2_with fail
        exact end_panic _ _ r _ rfl HKS.out.rs (BAD.out r _ hr HKS.out (HNV.out))
    · have d1 : decide (mx ≤ 2048) = false := decide_eq_false m1
      have HNV : Hid (¬ Valid ⟨mx, ins, lat, outs, bads, invs, ands, nms⟩) := fun hv => by
        have hl := (VL.out hv).m1
        simp only at hl
        omega
      go_wp2_with fail
      refine (need_no _).mono ?_
      unfold Fault
      rintro e w9 ⟨rfl, rfl⟩
      go_wp2_with fail
      exact end_panic _ _ r _ rfl HKS.out.rs (BAD.out r _ hr HKS.out (HNV.out))
  · have d0 : decide (0 ≤ mx) = false := decide_eq_false m0
    have HNV : Hid (¬ Valid ⟨mx, ins, lat, outs, bads, invs, ands, nms⟩) := fun hv => by
      have hl := (VL.out hv).m0
      simp only at hl
      omega
    go_wp2_with fail
    refine (need_no _).mono ?_
    unfold Fault
    rintro e w9 ⟨rfl, rfl⟩
    go_wp2_with fail
    exact end_panic _ _ r _ rfl HKS.out.rs (BAD.out r _ hr HKS.out (HNV.out))

end Go.Proofs.Ytbjccgahmgpkjaa
