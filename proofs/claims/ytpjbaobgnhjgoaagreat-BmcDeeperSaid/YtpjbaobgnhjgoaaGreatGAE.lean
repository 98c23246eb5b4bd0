/- Parts of a proof. -/
import Derived.Test.YtpjbaobgnhjgoaaGreatGAD
import Derived.Laws.MakeOwn
import Derived.Laws.AppendOwnNone
import Derived.Laws.BitsLemmas
import Derived.Maps.OwnOps
import Derived.Maps.OwnSet
import Derived.Shelf.Abstract
set_option linter.unusedVariables false
set_option linter.unusedSimpArgs false
set_option maxHeartbeats 8000000
set_option maxRecDepth 100000
namespace Go.Proofs.YtpjbaobgnhjgoaaGreat
open Go.RowKit
theorem Dh {x : Int} (h : -9223372036854775808 < x) : (if x < -x then -x else x) = tv x := by
 by_cases h0 : x < 0
 ·rw [if_pos (by omega), qm h0 h]
 ·rw [if_neg (by omega), mn (by omega)]
theorem pk {l : List Int} {n : Nat} (h : n < l.length) : (l.take (n + 1)).reverse = l[n]! :: (l.take n).reverse := by
 rw [List.take_add_one, List.reverse_append]
 simp only [ae, af h, eI, List.reverse_cons, List.reverse_nil, List.nil_append, List.cons_append, aq]
theorem Sv.Ok.mZ {S : Sv} {m : Nat} (ok : S.Ok m) {i : Nat} (h : i < S.T.lits.length) : 1 ≤ tv S.T.lits[i]! ∧ tv S.T.lits[i]! ≤ S.vars ∧ -(S.vars : Int) ≤ S.T.lits[i]! ∧ S.T.lits[i]! ≤ S.vars ∧ S.T.lits[i]! ≠ 0 := by
 obtain ⟨R, hR⟩ := ok.tr
 have hm : S.T.lits[i]! ∈ S.T.lits := get_mem h
 generalize S.T.lits[i]! = x at hm ⊢
 rw [hR.lits, bE] at hm
 obtain ⟨e, he, rfl⟩ := hm
 have hb := hR.bound e he
 have hv := ok.vl
 refine ⟨hb.2.2.1, hb.2.2.2, ?_⟩
 have h3 := hb.2.2.1
 have h4 := hb.2.2.2
 unfold tv at h3 h4
 split at h3
 ·omega
 ·split at h3
  ·rename_i h5 h6
   rw [if_neg h5, if_pos h6] at h4
   omega
  ·rename_i h5 h6
   rw [if_neg h5, if_neg h6] at h4
   omega
theorem Sv.Ok.WC {S : Sv} {m : Nat} (ok : S.Ok m) : S.T.Inv := by
 obtain ⟨R, hR⟩ := ok.tr
 exact hR.inv
theorem Sv.Ok.gq {S : Sv} {m : Nat} (ok : S.Ok m) : S.T.lits.length ≤ S.vars := by
 obtain ⟨R, hR⟩ := ok.tr
 have := hR.gq
 rw [hR.lits, ax]
 exact this
theorem nu {T : Tr} {i : Nat} (h : i < T.lits.length) : T.Wd (i : Int) = T.lits[i]! := by
 unfold Tr.Wd
 rw [if_pos (by omega), Int.toNat_natCast]
theorem Qt {L L' : aH} {w w' : World} (h : L.ext L' w') (hs : w.heap.size ≤ w'.heap.size) : L.ext L' w := ⟨h.1, h.2.1, fun k hk e => h.2.2 k (aQ hk hs) e⟩
theorem lI (w : World) (L : aH) (S : Sv) (h : aK w L S) (m : Nat) (ok : S.Ok m) (level : Nat) (oD : level < 4611686018427387904) :
  Calls Tryz.prog 77 #[.pointer (some ⟨L.a, 0, none⟩), .int .i64 level] w (me (.tuple #[]) (S.back level) L w) := by
 have HH := aa h
 have kQ := aa ok
 have nT := ok.vl
 have JA := ok.gq
 obtain ⟨c0, -⟩ := h.cells
 have e0 := Ext.cell c0
 have KD := aa (jS w L.tL S.T h.tr)
 have KL := aa (jk w L.tL S.T h.tr)
 by_cases hs : S.T.levels.length ≤ level
 ·have hb : S.back level = S := by unfold Sv.back; rw [if_pos hs]
  rw [hb]
  have l8 : Hid (me (.tuple #[]) S L w (.returned (.tuple #[])) w) := ⟨rfl, L, h, aH.bX _ _, Fr.refl _ _⟩
  have hd : decide ((S.T.levels.length : Int) ≤ (level : Int)) = true := decide_eq_true (by omega)
  clear h ok hb
  go_enter Tryz.func77, Tryz.ntmps77
  go_wp2_with fail
  refine KD.out.mono ?_
  rintro e w1 ⟨rfl, rfl⟩
  go_wp2_with fail
  refine bodyPost_ret (results_none rfl _ _ _) rfl ?_
  exact l8.out
 ·have hd : decide ((S.T.levels.length : Int) ≤ (level : Int)) = false := decide_eq_false (by omega)
  obtain ⟨Q, hQ⟩ : ∃ Q, Sv.dy (level : Int) S.T.lits.reverse S = Q := ⟨_, rfl⟩
  have hb : S.back level = { Q with T := Q.T.cD level, head := min Q.head (Q.T.cD level).lits.length } := by unfold Sv.back; rw [if_neg hs, hQ]
  have hQs := Sv.ic (level : Int) S.T.lits.reverse S m ok
  rw [hQ] at hQs
  obtain ⟨B, hB⟩ : ∃ B, S.back level = B := ⟨_, rfl⟩
  rw [hB] at hb ⊢
  have HB := aa hb
  have HQ := aa hQ
  have HQS := aa hQs
  have HT0 : Hid (S.T.lits.take S.T.lits.length = S.T.lits) := fO
  have Nr := aa (Nat.lt_of_not_le hs)
  clear h ok hb hQ hB hQs e0
  go_enter Tryz.func77, Tryz.ntmps77
  go_wp2_with fail
  refine KD.out.mono ?_
  rintro e w1 ⟨rfl, rfl⟩
  go_wp2_with fail
  refine KL.out.mono ?_
  rintro e w1 ⟨rfl, rfl⟩
  clear KD KL
  go_wp2_with fail
  clear c0
  go_loopg [4] S.T.lits.length (fun g x4 wr => ∃ (S1 : Sv) (L1 : aH), g ≤ S.T.lits.length ∧ x4 = .int .i64 ((g : Int) - 1) ∧ Hid (Sv.dy (level : Int) (S.T.lits.take g).reverse S1 = Q) ∧ Hid (S1.T = S.T ∧ S1.vars = S.vars ∧ S1.head = S.head) ∧ Hid (S1.Ok m) ∧ Hid (aK wr L1 S1) ∧ Hid (L.ext L1 w) ∧ Hid (Fr (L.own w) w wr))
  case atStart => exact ⟨S, L, ao _, by go_num, by rw [HT0.out]; exact HQ.out, ⟨rfl, rfl, rfl⟩, kQ.out, HH.out, aH.bX _ _, Fr.refl _ _⟩
  case round =>
   obtain ⟨S1, L1, hg, rfl, Wr, nY, j7, H1, dV, dv⟩ := hrel
   have kj : L1.a = L.a := dV.out.1
   obtain ⟨c0, c1, -, -, -, c5, -, -, c8, -⟩ := H1.out.cells
   rw [kj] at c0 c1 c5 c8
   have th := aa c0
   have mg := aa c1
   have Su := aa c5
   have HC8 := aa c8
   have Vv := aa kj
   clear kj
   by_cases V2 : gk = 0
   ·subst V2
    have E4 : Hid (S1 = Q) := Wr.out
    have Ct : decide ((0 : Int) ≤ (((0 : Nat) : Int) - 1)) = false := by decide
    clear c0 c1 c5 c8
    
    have KB := tx wr L1.tL S1.T H1.out.tr j7.out.WC (level : Int)
    rw [Int.toNat_natCast, nY.out.1] at KB
    have KB := aa KB
    have c0 := th.out
    go_wp2_with fail
    refine KB.out.mono ?_
    clear KB
    rintro e w2 ⟨rfl, O6, cd⟩
    obtain ⟨L2, g2, R0, RZ⟩ := H1.out.tz O6 (dL.bX _ _) cd
    have N0 : S1.T.cD level = Q.T.cD level := by rw [E4.out]
    rw [nY.out.1.symm.trans (by rw [nY.out.1]) ] at g2
    have G2 : Hid (aK w2 L2 { Q with T := Q.T.cD level }) := by
     have e1 : S.T = Q.T := by rw [← E4.out, nY.out.1]
     rw [← e1, ← E4.out]
     exact g2
    have cL := aa (aH.aM dV.out R0 dv.out.size)
    have cJ := aa (aH.aI dV.out dv.out RZ)
    have Fg : Hid (L2.a = L.a) := cL.out.1
    have vw := G2.out.cells
    rw [Fg.out] at vw
    obtain ⟨d0, -, -, -, -, -, -, -, d8, -⟩ := vw
    have Q4 := aa d0
    have NM := aa d8
    have rz := G2.out.obj.frozen 8
    rw [Fg.out] at rz
    have HFZ := aa rz
    have KL := aa (fun W (hW : Fr [] w2 W) => jk W L2.tL (Q.T.cD level) (G2.out.tr.fr hW (by simp)))
    have LC : (if (Q.T.cD level).lits.length < Q.head then ((Q.T.cD level).lits.length : Int) else (Q.head : Int)) = ((min Q.head (Q.T.cD level).lits.length : Nat) : Int) := by
     rw [Nat.min_def]
     split <;> split <;> omega
    clear c0 O6 cd g2 R0 RZ N0 d0 d8 rz
    go_upto_region 10 with fail
    refine wp_region_noPanic ?_
    refine bj (fun w' : World => Fr [] w2 w') 13 (by kernel_rfl) ((Fr.refl [] w2).drew) (fun dd => ?_)
    apply TB 9 [(0, []), (1, []), (2, []), (3, []), (4, [4, 13]), (5, []), (6, []), (7, []), (8, [8, 13])]; kernel_rfl; rfl; · (repeat (apply ef; rfl; rfl; (· intro w aY; (try (have aY := aY.resolve_left (aF _ _); (have s8 := aY.av NM.out; have s0 := aY.av Q4.out))); go_simp <;> with_reducible rfl); try simp only [Act.put, q5, q6, q7])); exact ee
    exact dd; intro dd
    refine R2 9 (by kernel_rfl) (by rfl) dd fun K hK ap => ?_
    (go_simp; refine (KL.out _ ap).mono ?_; rintro e w5 ⟨rfl, rfl⟩; dsimp only)
    refine hK.out _ _ (.inr ?_) (fun ix => ?_)
    ·exact ap
    clear hK K
    try simp only [Act.put, q5, q6, q7]
    apply TB 3 [(10, []), (11, []), (12, [])]; kernel_rfl; rfl; · (repeat (apply ef; rfl; rfl; (· intro w aY; go_simp <;> with_reducible rfl); try simp only [Act.put, q5, q6, q7])); exact ee
    exact ix; intro ix
    refine R2 13 (by kernel_rfl) (by rfl) ix fun K hK ap => ?_
    (have sb := ap.av NM.out; have fb : World.frozen? _ _ = _ := (World.frozen?_of_block (ap.block L.a (bt NM.out) (by simp))).trans HFZ.out; go_simp)
    refine hK.out _ _ (.inl rfl) (fun kI => ?_)
    clear hK K
    try simp only [Act.put, q5, q6, q7]
    refine az (by kernel_rfl) ?_ _
    refine NoPanic.normal ?_
    have g5 := G2.out.sD (min Q.head (Q.T.cD level).lits.length)
    rw [Fg.out] at g5
    try simp only [LC]
    have h6 := g5.1.keep (Fr.refl [] _).drew
    have f6 := g5.2.drew
    have hF : Fr (L.own w) w _ := aH.aI cL.out cJ.out f6
    have FF : Hid (me (.tuple #[]) B L w (.returned (.tuple #[])) _) := ⟨rfl, L2, by rw [HB.out]; exact h6, cL.out, hF⟩
    go_wp2_with fail
    go_end0
    exact FF.out
   ·obtain ⟨i, rfl⟩ : ∃ i, gk = i + 1 := ⟨gk - 1, by omega⟩
    have sN : i < S.T.lits.length := by omega
    have hei : ((i + 1 : Nat) : Int) - 1 = (i : Int) := by omega
    rw [hei]
    have Ct : decide ((0 : Int) ≤ (i : Int)) = true := decide_eq_true (by omega)
    obtain ⟨x, hx⟩ : ∃ x, S.T.lits[i]! = x := ⟨_, rfl⟩
    have sT := Wr.out
    rw [pk sN, hx] at sT
    have VG := aa sT
    have Cp := kQ.out.mZ sN
    rw [hx] at Cp
    obtain ⟨gP, iP, Le, Ld, VQ⟩ := Cp
    have KA := aa (jq wr L1.tL S1.T H1.out.tr (i : Int))
    rw [nY.out.1, nu sN, hx] at KA
    have KV := aa (im wr L1.tL S1.T H1.out.tr (tv x))
    obtain ⟨lv, TV⟩ : ∃ lv, S1.T.cK (tv x) = lv := ⟨_, rfl⟩
    rw [TV] at KV
    have HLX := aa TV
    have oQ := Dh (x := x) (by omega)
    obtain ⟨v, hv⟩ : ∃ v : Nat, tv x = v := ⟨(tv x).toNat, by omega⟩
    rw [hv] at gP iP KV oQ
    have HV := aa hv
    have ep : IntKind.i64.wrap (-x) = -x := IntWalk.i64_in _ (by omega)
    clear sT hx TV hv Wr
    go_wp2_with fail
    refine KA.out.mono ?_
    rintro e w1 ⟨rfl, rfl⟩
    clear KA
    by_cases hle : lv ≤ (level : Int)
    ·have sS : decide (lv ≤ (level : Int)) = true := decide_eq_true hle
     have E4 : Hid (S1 = Q) := by
      have := VG.out
      rw [Sv.uY (by rw [HLX.out]; exact hle)] at this
      exact this
     go_wp2_with fail
     refine KV.out.mono ?_
     rintro e w1 ⟨rfl, rfl⟩
     clear KV
     clear c0 c1 c5 c8
     have KB := tx wr L1.tL S1.T H1.out.tr j7.out.WC (level : Int)
     rw [Int.toNat_natCast, nY.out.1] at KB
     have KB := aa KB
     have c0 := th.out
     go_wp2_with fail
     refine KB.out.mono ?_
     clear KB
     rintro e w2 ⟨rfl, O6, cd⟩
     obtain ⟨L2, g2, R0, RZ⟩ := H1.out.tz O6 (dL.bX _ _) cd
     have N0 : S1.T.cD level = Q.T.cD level := by rw [E4.out]
     rw [nY.out.1.symm.trans (by rw [nY.out.1]) ] at g2
     have G2 : Hid (aK w2 L2 { Q with T := Q.T.cD level }) := by
      have e1 : S.T = Q.T := by rw [← E4.out, nY.out.1]
      rw [← e1, ← E4.out]
      exact g2
     have cL := aa (aH.aM dV.out R0 dv.out.size)
     have cJ := aa (aH.aI dV.out dv.out RZ)
     have Fg : Hid (L2.a = L.a) := cL.out.1
     have vw := G2.out.cells
     rw [Fg.out] at vw
     obtain ⟨d0, -, -, -, -, -, -, -, d8, -⟩ := vw
     have Q4 := aa d0
     have NM := aa d8
     have rz := G2.out.obj.frozen 8
     rw [Fg.out] at rz
     have HFZ := aa rz
     have KL := aa (fun W (hW : Fr [] w2 W) => jk W L2.tL (Q.T.cD level) (G2.out.tr.fr hW (by simp)))
     have LC : (if (Q.T.cD level).lits.length < Q.head then ((Q.T.cD level).lits.length : Int) else (Q.head : Int)) = ((min Q.head (Q.T.cD level).lits.length : Nat) : Int) := by
      rw [Nat.min_def]
      split <;> split <;> omega
     clear c0 O6 cd g2 R0 RZ N0 d0 d8 rz
     go_upto_region 10 with fail
     refine wp_region_noPanic ?_
     refine bj (fun w' : World => Fr [] w2 w') 13 (by kernel_rfl) ((Fr.refl [] w2).drew) (fun dd => ?_)
     apply TB 9 [(0, []), (1, []), (2, []), (3, []), (4, [4, 13]), (5, []), (6, []), (7, []), (8, [8, 13])]; kernel_rfl; rfl; · (repeat (apply ef; rfl; rfl; (· intro w aY; (try (have aY := aY.resolve_left (aF _ _); (have s8 := aY.av NM.out; have s0 := aY.av Q4.out))); go_simp <;> with_reducible rfl); try simp only [Act.put, q5, q6, q7])); exact ee
     exact dd; intro dd
     refine R2 9 (by kernel_rfl) (by rfl) dd fun K hK ap => ?_
     (go_simp; refine (KL.out _ ap).mono ?_; rintro e w5 ⟨rfl, rfl⟩; dsimp only)
     refine hK.out _ _ (.inr ?_) (fun ix => ?_)
     ·exact ap
     clear hK K
     try simp only [Act.put, q5, q6, q7]
     apply TB 3 [(10, []), (11, []), (12, [])]; kernel_rfl; rfl; · (repeat (apply ef; rfl; rfl; (· intro w aY; go_simp <;> with_reducible rfl); try simp only [Act.put, q5, q6, q7])); exact ee
     exact ix; intro ix
     refine R2 13 (by kernel_rfl) (by rfl) ix fun K hK ap => ?_
     (have sb := ap.av NM.out; have fb : World.frozen? _ _ = _ := (World.frozen?_of_block (ap.block L.a (bt NM.out) (by simp))).trans HFZ.out; go_simp)
     refine hK.out _ _ (.inl rfl) (fun kI => ?_)
     clear hK K
     try simp only [Act.put, q5, q6, q7]
     refine az (by kernel_rfl) ?_ _
     refine NoPanic.normal ?_
     have g5 := G2.out.sD (min Q.head (Q.T.cD level).lits.length)
     rw [Fg.out] at g5
     try simp only [LC]
     have h6 := g5.1.keep (Fr.refl [] _).drew
     have f6 := g5.2.drew
     have hF : Fr (L.own w) w _ := aH.aI cL.out cJ.out f6
     have FF : Hid (me (.tuple #[]) B L w (.returned (.tuple #[])) _) := ⟨rfl, L2, by rw [HB.out]; exact h6, cL.out, hF⟩
     go_wp2_with fail
     go_end0
     exact FF.out
    ·have sS : decide (lv ≤ (level : Int)) = false := decide_eq_false hle
     have wy : Hid (Sv.dy (level : Int) (S.T.lits.take i).reverse (S1.pY x) = Q) := by
      have := VG.out
      rw [Sv.BZ (by rw [HLX.out]; exact hle)] at this
      exact this
     have hvp : v < S1.phase.length := by
      rw [j7.out.ph, nY.out.2.1]
      omega
     obtain ⟨gp, RR, sp, fp, h2, cd⟩ := H1.out.Rh hvp (decide (0 < x))
     have c1' := h2.cells.2.1
     rw [Vv.out] at c1'
     have Y4 := h2.cells.1
     rw [Vv.out] at Y4
     rw [RR] at c5
     have Xt : (v : Int) < (S1.phase.length : Int) := by omega
     go_wp2_with fail
     refine KV.out.mono ?_
     rintro e w1 ⟨rfl, rfl⟩
     clear KV
     go_upto_region 8 with fail
     obtain ⟨W2, RV⟩ : ∃ W, wr.setCell ⟨gp, v, none⟩ (.bool (decide (0 < x))) = W := ⟨_, rfl⟩
     rw [RV] at h2 cd Y4 c1' ⊢
     have V1 : S1.H.at_.length ≤ 262145 := by rw [j7.out.hl, nY.out.2.1]; omega
     have KP := aa (ul W2 L1.hL S1.H h2.hp j7.out.hi V1 (v : Int))
     have H2 := aa h2
     have cJ := aa cd
     clear c0 c1 c5 c8 sp fp RV h2 cd RR sS oQ ep Y4
     go_wp2_with fail
     refine KP.out.mono ?_
     clear KP
     rintro e w3 ⟨b, rfl, hL3, h3, vu, cY⟩
     obtain ⟨L3, g3, ge3, gf3⟩ := H2.out.heap h3 vu cY
     have G3 : Hid (aK w3 L3 (S1.pY x)) := by
      unfold Sv.pY
      rw [HV.out, Int.toNat_natCast]
      exact g3
     have cR : Hid (Fr (L1.own wr) wr w3) := cJ.out.trans gf3 (fun k hk => by
      rw [aH.bI] at hk
      rcases bl k wr.heap.size with hl | hl
      ·exact .inl (aH.bI.2 ⟨hl, hk.2⟩)
      ·exact .inr hl)
     have GE3 := aa (Qt ge3 cJ.out.size)
     clear g3 h3 vu cY ge3 gf3 c1'
     go_wp2_with fail
     go_roundg i
     case measure => omega
     case rel => exact ⟨S1.pY x, L3, by omega, by go_num, wy.out, ⟨nY.out.1, nY.out.2.1, nY.out.2.2⟩, j7.out.pY x, G3.out, aH.aM dV.out GE3.out dv.out.size, aH.aI dV.out dv.out cR.out⟩
theorem G9 (W : World) (n : Nat) (h : n ≤ maxLen) : Ints (W.alloc (.cells (madeCells #[.int .i64 0] n) 3)) (some ⟨W.heap.size, 0, none⟩) n (List.replicate n 0) := by
 have := World.ownsRow_lit (base := 0) (e := 3) (size := 1) W (madeCells #[.int .i64 0] n) n (bV _) h (by rw [size_madeCells]; omega)
 rw [toList_madeCells_one] at this
 unfold Ints
 rw [a7, List.map_replicate]
 exact this
theorem Av : (Tryz.prog.info? 4).map (fun i => (i.zero, i.size, i.bytes)) = some (some (.bool false), 1, 1) := by kernel_rfl
theorem j9 (W : World) (z : Int) (h0 : 0 ≤ z) (h1 : z ≤ 1099511627776) :
  (Instr.makeSlice 110 (.int .i64 z) (.int .i64 z)).run Tryz.prog W = .ok (.slice (some ⟨W.heap.size, 0, none⟩) z.toNat z.toNat) (W.alloc (.cells (madeCells #[.bool false] z.toNat) 4)) := by
 obtain ⟨i0, hi, vK, ow, Co⟩ := info_parts Av
 obtain ⟨n, rfl⟩ := Int.eq_ofNat_of_zero_le h0
 have hr := run_make (P := Tryz.prog) W 110 4 i0 (.bool false) Tryz.underlying110 hi vK .i64 .i64 n n (by omega) (kf _) (by rw [Co]; omega) (by omega)
 simp only [Int.toNat_natCast] at hr ⊢
 rw [ow, Nat.mul_one] at hr
 exact hr
theorem ot (W : World) (n : Nat) (h : n ≤ maxLen) : Bools (W.alloc (.cells (madeCells #[.bool false] n) 4)) (some ⟨W.heap.size, 0, none⟩) n (List.replicate n false) := by
 have := World.ownsRow_lit (base := 0) (e := 4) (size := 1) W (madeCells #[.bool false] n) n (bV _) h (by rw [size_madeCells]; omega)
 rw [toList_madeCells_one] at this
 unfold Bools
 rw [a7, List.map_replicate]
 exact this
theorem aK.nE {w : World} {L : aH} {S : Sv} (h : aK w L S) (i : Nat) (v : Value) (S' : Sv) (he : (m7 L S).setIfInBounds i v = m7 L S')
  (hS : S'.T = S.T ∧ S'.H = S.H ∧ S'.list = S.list ∧ S'.watch = S.watch ∧ S'.phase = S.phase ∧ S'.model = S.model ∧ S'.core = S.core) :
  aK (w.setCell ⟨L.a, i, none⟩ v) L S' ∧ Fr (L.own w) w (w.setCell ⟨L.a, i, none⟩ v) := by
 have hf : Fr [L.a] w (w.setCell ⟨L.a, i, none⟩ v) := (Fr.refl _ w).setCell (.inl (by simp)) _
 obtain ⟨h1, _, h3⟩ := h.top (L' := L) (S' := S') hf (by have := h.obj.cV i v; rw [he] at this; exact this) ⟨rfl, rfl, rfl, rfl, rfl, rfl, rfl, rfl, rfl, rfl, rfl, rfl, rfl, rfl, rfl, rfl, rfl⟩ hS
 exact ⟨h1, h3⟩
theorem aK.model {w w1 : World} {L : aH} {S : Sv} (h : aK w L S) {g n : Nat} {ms : List Bool} (hr : Bools w1 (some ⟨g, 0, none⟩) n ms) (hg : w.heap.size ≤ g) (hf : Fr [] w w1) :
  ∃ L', aK (w1.setCell ⟨L.a, 6, none⟩ (.slice (some ⟨g, 0, none⟩) ms.length n)) L' { S with model := ms } ∧ L.ext L' w ∧ Fr (L.own w) w (w1.setCell ⟨L.a, 6, none⟩ (.slice (some ⟨g, 0, none⟩) ms.length n)) ∧
   L' = { L with mA := some ⟨g, 0, none⟩, mC := n, cv := L.re w (6, 0) } := by
 have cd : Fr [L.a] w (w1.setCell ⟨L.a, 6, none⟩ (.slice (some ⟨g, 0, none⟩) ms.length n)) := (hf.mono (fun k hk => by cases hk)).setCell (.inl (by simp)) _
 have hF : ∀ k, k ∈ [L.a] → k < w.heap.size → L.cv k = (L.id, 0, 0) := fun k hk _ => by simp at hk; subst hk; exact h.t0
 have o := h.off (P := (· = (0, 0))) cd (fun k hk hl => ⟨_, rfl, hF k hk hl⟩)
 have gt := h.tags (6, 0)
 have dN : L.a ≠ g := by have := h.obj.lt; omega
 refine ⟨{ L with mA := some ⟨g, 0, none⟩, mC := n, cv := L.re w (6, 0) }, ⟨?_, o.tr (by decide), o.hp (by decide), h.gy, h.yP, h.yN, o.sG (by decide), o.rws (by decide), o.sE (by decide), ?_, o.rV (by decide), fun n hn => o.nK n hn (by simp), fun n hn => o.pN n hn (by simp),
  gt.t0, gt.t1, gt.t2, gt.t3, gt.t4, gt.t5, fun k hk => ?_, gt.t7, gt.t8, gt.t9⟩, ⟨rfl, rfl, fun k hk e => aH.mE hk e⟩, aH.fE cd (fun k hk hl => by rw [hF k hk hl]), rfl⟩
 ·have := (hf.at_ h.obj (by simp)).cV 6 (.slice (some ⟨g, 0, none⟩) ms.length n)
  simpa [m7] using this
 ·have cY : Fr [L.a] w1 (w1.setCell ⟨L.a, 6, none⟩ (.slice (some ⟨g, 0, none⟩) ms.length n)) := (Fr.refl _ w1).setCell (.inl (by simp)) _
  refine dX hr cY (fun k hk hm => ?_)
  simp [ah] at hk hm
  omega
 ·simp [ah] at hk
  subst hk
  exact aH.Ke hg
theorem aK.Rj {w : World} {L : aH} {S : Sv} (h : aK w L S) {v : Nat} (hv : v < S.model.length) (b : Bool) :
  ∃ gp, L.mA = some ⟨gp, 0, none⟩ ∧ w.cell? ⟨gp, v, none⟩ = some (.bool S.model[v]!) ∧ w.frozen? ⟨gp, v, none⟩ = false ∧ aK (w.setCell ⟨gp, v, none⟩ (.bool b)) L { S with model := S.model.set v b } ∧ Fr (L.own w) w (w.setCell ⟨gp, v, none⟩ (.bool b)) := by
 have r := h.vh
 unfold Bools at r
 obtain ⟨gp, hg, ru⟩ : ∃ gp, L.mA = some ⟨gp, 0, none⟩ ∧ gp < w.heap.size := by
  rcases r.2 with ⟨_, h2⟩ | ⟨g, cap, cur, hv, _, hg, _⟩
  ·omega
  ·simp only [Value.slice.injEq, true_and] at hv
   exact ⟨g, hv.1, At.lt (t := 4) hg⟩
 rw [hg] at r
 have jy : L.cv gp = (L.id, 6, 0) := h.t6 gp (by rw [hg]; simp [ah])
 have hf : Fr [gp] w (w.setCell ⟨gp, v, none⟩ (.bool b)) := (Fr.refl _ w).setCell (.inl (by simp)) _
 have o := h.off (P := (· = (6, 0))) hf (fun k hk hl => ⟨_, rfl, by simp at hk; subst hk; exact jy⟩)
 have ni := (World.ownsRow.stored r v (.bool b)).1
 refine ⟨gp, hg, ?_, World.ownsRow.frozenAt r v, ⟨?_, o.tr (by decide), o.hp (by decide), h.gy, h.yP, h.yN, o.sG (by decide), o.rws (by decide), o.sE (by decide), ?_, o.rV (by decide), fun n hn => o.nK n hn (by simp), fun n hn => o.pN n hn (by simp),
  h.t0, h.t1, h.t2, h.t3, h.t4, h.t5, h.t6, h.t7, h.t8, h.t9⟩, aH.fE hf (fun k hk hl => by simp at hk; subst hk; rw [jy])⟩
 ·rw [World.ownsRow.cellAt r v (by omega)]
  simp only [bh, af hv, dc, ae, aq]
 ·have := o.obj (by decide)
  simp only [m7, ak] at this ⊢
  exact this
 ·unfold Bools
  simp only [ak, List.map_set]
  rw [hg]
  exact ni
namespace Sv
def pop (S : Sv) : Sv := { S with H := S.H.kw }
theorem Ok.pop {S : Sv} {m : Nat} (ok : S.Ok m) (h0 : 0 < S.H.items.length) : S.pop.Ok m := by
 have h := ok.hi.pop h0
 exact ⟨ok.vl, ok.tr, h.1, by show S.H.kw.at_.length = _; rw [h.2.2.2.1]; exact ok.hl, ok.ph, ok.wl, ok.ll, ok.wb, ok.wt, ok.lr, ok.ln, ok.lb, ok.hd, ok.rs⟩
theorem Ae {S : Sv} {f : Nat} (h : S.H.items.length = 0) : cW f S = (S, 0) := by
 cases f with
 | zero => rfl
 | succ f => simp only [cW]; rw [if_pos h]
theorem Af {S : Sv} {f : Nat} (h : S.H.items.length ≠ 0) (hv : S.val (S.H.it 0) ≠ 0) : cW (f + 1) S = cW f S.pop := by
 simp only [cW]
 rw [if_neg h, if_pos (by exact hv)]
 rfl
theorem wQ {S : Sv} {f : Nat} (h : S.H.items.length ≠ 0) (hv : S.val (S.H.it 0) = 0) : cW (f + 1) S = (S.pop, if S.phase[(S.H.it 0).toNat]! = true then S.H.it 0 else -(S.H.it 0)) := by
 simp only [cW]
 rw [if_neg h, if_neg (by exact not_not_intro hv)]
 rfl
theorem Ok.cW {m : Nat} : ∀ (f : Nat) (S : Sv), S.Ok m → (cW f S).1.Ok m ∧ (Sv.cW f S).1.T = S.T ∧ (Sv.cW f S).1.vars = S.vars ∧ (Sv.cW f S).1.list = S.list ∧ (Sv.cW f S).1.head = S.head ∧ -(S.vars : Int) ≤ (Sv.cW f S).2 ∧ (Sv.cW f S).2 ≤ S.vars
 | 0, S, ok => ⟨ok, rfl, rfl, rfl, rfl, by simp only [Sv.cW]; omega, by simp only [Sv.cW]; omega⟩
 | f + 1, S, ok => by
  by_cases h : S.H.items.length = 0
  ·rw [Ae h]
   exact ⟨ok, rfl, rfl, rfl, rfl, by simp only; omega, by simp only; omega⟩
  ·have hp := ok.pop (by omega)
   by_cases hv : S.val (S.H.it 0) = 0
   ·rw [wQ h hv]
    have hr := ok.hi.pc.m9 0 (by omega)
    have hl := ok.hl
    have e : S.H.it 0 = S.H.items[0]! := iO S.H 0
    refine ⟨hp, rfl, rfl, rfl, rfl, ?_⟩
    simp only
    split <;> omega
   ·rw [Af h hv]
    exact Ok.cW f S.pop hp
theorem Ok.pick {S : Sv} {m : Nat} (ok : S.Ok m) : S.pick.1.Ok m ∧ S.pick.1.T = S.T ∧ S.pick.1.vars = S.vars ∧ S.pick.1.list = S.list ∧ S.pick.1.head = S.head ∧ -(S.vars : Int) ≤ S.pick.2 ∧ S.pick.2 ≤ S.vars := Ok.cW _ _ ok
end Sv
theorem CZ (w : World) (L : aH) (S : Sv) (h : aK w L S) (m : Nat) (ok : S.Ok m) :
  Calls Tryz.prog 144 #[.pointer (some ⟨L.a, 0, none⟩)] w (me (.int .i64 S.pick.2) S.pick.1 L w) := by
 obtain ⟨RES, co⟩ : ∃ RES, S.pick = RES := ⟨_, rfl⟩
 have dC : Hid (Sv.cW (S.H.items.length + 1) S = RES) := co
 rw [co]
 have l8 : Hid (∀ (S' : Sv) (r : Int), RES = (S', r) → ∀ W L', aK W L' S' → L.ext L' w → Fr (L.own w) w W → me (.int .i64 RES.2) RES.1 L w (.returned (.int .i64 r)) W) := fun S' r e W L' g1 g2 g3 => by
  subst e
  exact ⟨rfl, L', g1, g2, g3⟩
 have HH := aa h
 have kQ := aa ok
 have nT := ok.vl
 clear co h ok
 go_enter Tryz.func144, Tryz.ntmps144
 go_wp2_with fail
 go_loopg [] (S.H.items.length + 1) (fun g wr => ∃ (S1 : Sv) (L1 : aH), Hid (Sv.cW g S1 = RES) ∧ S1.H.items.length + 1 ≤ g ∧ Hid (S1.T = S.T ∧ S1.vars = S.vars) ∧ Hid (S1.Ok m) ∧ Hid (aK wr L1 S1) ∧ Hid (L.ext L1 w) ∧ Hid (Fr (L.own w) w wr))
 case atStart => exact ⟨S, L, dC.out, ao _, ⟨rfl, rfl⟩, kQ.out, HH.out, aH.bX _ _, Fr.refl _ _⟩
 case round =>
  obtain ⟨S1, L1, oY, hg, nY, j7, H1, dV, dv⟩ := hrel
  have HG := aa hg
  have kj : L1.a = L.a := dV.out.1
  obtain ⟨-, c1, -⟩ := H1.out.cells
  rw [kj] at c1
  have Vv := aa kj
  have vq := j7.out.hi.pc.len
  have V1 := j7.out.hl
  have VS : S1.vars = S.vars := nY.out.2
  clear kj hg
  by_cases h0 : S1.H.items.length = 0
  ·have hn : S1.H.items = [] := a6 h0
   have KP := aa (Be wr L1.hL S1.H H1.out.hp hn)
   have HK : Hid (RES = (S1, 0)) := by
    have := oY.out
    rw [Sv.Ae h0] at this
    exact this.symm
   clear hn
   go_wp2_with fail
   refine KP.out.mono ?_
   rintro e w2 ⟨rfl, rfl⟩
   clear c1
   have FF := aa (l8.out S1 0 HK.out _ L1 H1.out dV.out dv.out)
   go_wp2_with fail
   go_ret
   exact FF.out
  ·obtain ⟨f, rfl⟩ : ∃ f, gk = f + 1 := ⟨gk - 1, by have := HG.out; omega⟩
   obtain ⟨n, hn⟩ : ∃ n, S1.H.items.length = n + 1 := ⟨S1.H.items.length - 1, by omega⟩
   have KP := aa (yG wr L1.hL S1.H H1.out.hp j7.out.hi.pc.m9 n hn (by omega))
   have hr := j7.out.hi.pc.m9 0 (by omega)
   have JJ : S1.H.it 0 = S1.H.items[0]! := iO S1.H 0
   rw [← JJ] at hr
   obtain ⟨v, hv⟩ : ∃ v : Nat, S1.H.it 0 = v := ⟨(S1.H.it 0).toNat, by omega⟩
   rw [hv] at hr KP
   have HP := aa (j7.out.hi.pop (by omega))
   have HV := aa hv
   have HN := aa hn
   have E5 := aa (j7.out.pop (by omega))
   clear JJ hv hn
   go_wp2_with fail
   refine KP.out.mono ?_
   clear KP c1
   rintro e w2 ⟨rfl, XO, cd⟩
   obtain ⟨L2, g2, R0, RZ⟩ := H1.out.heap XO (eW.bX _ _) cd
   have G2 : Hid (aK w2 L2 S1.pop) := g2
   have cL := aa (aH.aM dV.out R0 dv.out.size)
   have cJ := aa (aH.aI dV.out dv.out RZ)
   have Yw : L2.a = L.a := cL.out.1
   obtain ⟨c0, -, -, -, -, c5, -⟩ := G2.out.cells
   rw [Yw] at c0 c5
   have hvp : v < S1.pop.phase.length := by rw [E5.out.ph]; show v < S1.vars + 1; omega
   obtain ⟨gp, RR, sp, fp⟩ := G2.out.SK hvp
   rw [RR] at c5
   obtain ⟨b, hb⟩ : ∃ b, S1.pop.phase[v]! = b := ⟨_, rfl⟩
   rw [hb] at sp
   have HB := aa hb
   have Xt : (v : Int) < (S1.pop.phase.length : Int) := by omega
   obtain ⟨pl, xg⟩ : ∃ pl, S1.pop.phase.length = pl := ⟨_, rfl⟩
   rw [xg] at c5 Xt hvp
   have KV := dt w2 L2.tL S1.pop.T G2.out.tr (v : Int) (by omega) (by omega) E5.out.small
   obtain ⟨y, hy⟩ : ∃ y, S1.pop.T.km (v : Int) = y := ⟨_, rfl⟩
   rw [hy] at KV
   have KV := aa KV
   have HY := aa hy
   have ep : IntKind.i64.wrap (-(v : Int)) = -(v : Int) := IntWalk.i64_in _ (by omega)
   clear hb hy xg g2 R0 RZ cd XO Yw RR fp
   by_cases jJ : y = 0
   ·have hd : decide (y ≠ 0) = false := by simp [jJ]
    have sS : (y != 0) = false := by simp [jJ]
    have HK : Hid (RES = (S1.pop, if b = true then (v : Int) else -(v : Int))) := by
     have := oY.out
     rw [Sv.wQ h0 (by rw [HV.out]; exact HY.out.trans jJ), HV.out, Int.toNat_natCast] at this
     rw [← HB.out]
     exact this.symm
    subst jJ
    cases b with
    | true =>
     have FF := aa (l8.out S1.pop (v : Int) HK.out _ L2 G2.out cL.out cJ.out)
     go_wp2_with fail
     refine KV.out.mono ?_
     rintro e w3 ⟨rfl, rfl⟩
     clear KV
     go_wp2_with fail
     go_ret
     exact FF.out
    | false =>
     have FF := aa (l8.out S1.pop (-(v : Int)) HK.out _ L2 G2.out cL.out cJ.out)
     go_wp2_with fail
     refine KV.out.mono ?_
     rintro e w3 ⟨rfl, rfl⟩
     clear KV
     go_wp2_with fail
     go_ret
     exact FF.out
   ·have sS : (y != 0) = true := by simp [jJ]
    have HK : Hid (Sv.cW f S1.pop = RES) := by
     have := oY.out
     rw [Sv.Af h0 (by rw [HV.out]; exact fun h => jJ (HY.out.symm.trans h))] at this
     exact this
    go_wp2_with fail
    refine KV.out.mono ?_
    rintro e w3 ⟨rfl, rfl⟩
    clear KV
    go_wp2_with fail
    go_roundg f
    case measure => omega
    case rel => exact ⟨S1.pop, L2, HK.out, by have := HG.out; have := HP.out.2.2.1; have e : S1.pop.H.items.length = S1.H.kw.items.length := rfl; omega, ⟨nY.out.1, nY.out.2⟩, E5.out, G2.out, cL.out, cJ.out⟩
theorem Sv.Ok.keep {S : Sv} {m : Nat} (ok : S.Ok m) : S.keep.Ok m :=
 ⟨ok.vl, ok.tr, ok.hi, ok.hl, ok.ph, ok.wl, ok.ll, ok.wb, ok.wt, ok.lr, ok.ln, ok.lb, ok.hd, ok.rs⟩
theorem Ds (w : World) (L : aH) (S : Sv) (h : aK w L S) (m : Nat) (ok : S.Ok m) :
  Calls Tryz.prog 145 #[.pointer (some ⟨L.a, 0, none⟩)] w (me (.tuple #[]) S.keep L w) := by
 have HH := aa h
 have kQ := aa ok
 have nT := ok.vl
 obtain ⟨-, -, c2, -, -, -, d6, -⟩ := h.cells
 obtain ⟨n, hn⟩ : ∃ n, ((S.vars : Int) + 1).toNat = n := ⟨_, rfl⟩
 have jZ : n = S.vars + 1 := by omega
 have PS := fun W => j9 W ((S.vars : Int) + 1) (by omega) (by omega)
 simp only [hn] at PS
 have ep : IntKind.i64.wrap ((S.vars : Int) + 1) = (S.vars : Int) + 1 := IntWalk.i64_in _ (by omega)
 have HN := aa jZ
 have fZ := (h.obj.alloc (.cells (madeCells #[.bool false] n) 4)).frozen 6
 have DU := (aP w (.cells (madeCells #[.bool false] n) 4)).av d6
 obtain ⟨L1, g1, ge1, gf1, gl1⟩ := h.model (ot w n (by unfold maxLen; omega)) (ao _) ((Fr.refl [] w).alloc _)
 rw [a7] at g1 gf1
 obtain ⟨W1, ik⟩ : ∃ W, (w.alloc (.cells (madeCells #[.bool false] n) 4)).setCell ⟨L.a, 6, none⟩ (.slice (some ⟨w.heap.size, 0, none⟩) n n) = W := ⟨_, rfl⟩
 have UW := aa ik
 rw [ik] at g1 gf1
 have G1 := aa g1
 have GE1 := aa ge1
 have GF1 := aa gf1
 have kj : L1.a = L.a := ge1.1
 have hc6 := g1.cells.2.2.2.2.2.2.1
 rw [gl1] at hc6
 simp only [a7] at hc6
 have Jm := aa hc6
 clear g1 ge1 gf1 gl1 ik hn jZ h ok kj hc6 d6
 go_enter Tryz.func145, Tryz.ntmps145
 go_upto_region 1 with fail
 rw [UW.out]
 clear PS ep fZ c2 DU
 have c6 := Jm.out
 go_wp2_with fail
 clear c6
 go_loopg [17] n (fun g GH wr => ∃ (i : Nat) (L2 : aH) (ms : List Bool), i + g = n ∧ GH = .int .i64 i ∧ Hid (ms.length = n) ∧ Hid (∀ j : Nat, j < i → ms[j]! = decide (0 < S.val (j : Int))) ∧ Hid (aK wr L2 { S with model := ms }) ∧ Hid (L.ext L2 w) ∧ Hid (Fr (L.own w) w wr))
 case atStart => exact ⟨0, L1, List.replicate n false, by omega, rfl, a7, fun j hj => absurd hj (aG _), G1.out, GE1.out, GF1.out⟩
 case round =>
  obtain ⟨i, L2, ms, hi, rfl, Jh, Sl, H2, cL, cJ⟩ := hrel
  have HI := aa hi
  have oU : i ≤ n := by omega
  have kj : L2.a = L.a := cL.out.1
  clear hi
  by_cases bM : i < n
  ·obtain ⟨gp, RR, sp, fp, h3, cY⟩ := H2.out.Rj (v := i) (by show i < ms.length; rw [Jh.out]; exact bM) (decide (0 < S.val (i : Int)))
   obtain ⟨c0, -, -, -, -, -, c6, -⟩ := H2.out.cells
   rw [kj] at c0 c6
   simp only [Jh.out] at c6
   rw [RR] at c6
   have th := aa c0
   have ag2 := aa c6
   have HSP := aa sp
   have HFP := aa fp
   have H3 := aa h3
   have cR := aa cY
   have hd : decide ((i : Int) < (n : Int)) = true := decide_eq_true (by omega)
   have FV : n ≤ 262144 := by have := HN.out; omega
   have pI : (i : Int) < (n : Int) := by omega
   obtain ⟨y, hy⟩ : ∃ y, S.T.km (i : Int) = y := ⟨_, rfl⟩
   have KV := aa (fun W (hW : Fr [] wr W) => dt W L2.tL S.T (H2.out.tr.fr hW (by simp)) (i : Int) (by omega) (by omega) kQ.out.small)
   simp only [hy] at KV
   have HY : Hid (S.val (i : Int) = y) := hy
   rw [HY.out] at H3 cR
   clear RR sp fp h3 cY c0 c6 kj hy
   go_upto_region 4 with fail
   refine wp_region_noPanic ?_
   refine bj (fun w' : World => Fr [] wr w') 13 (by kernel_rfl) ((Fr.refl [] wr).drew) (fun dd => ?_)
   apply TB 10 [(0, []), (1, []), (2, []), (3, [3, 13]), (4, []), (5, []), (6, []), (7, []), (8, [8, 13]), (9, [])]; kernel_rfl; rfl; · (repeat (apply ef; rfl; rfl; (· intro w aY; (try (have aY := aY.resolve_left (aF _ _); (have s0 := aY.av th.out; have s6 := aY.av ag2.out))); go_simp <;> with_reducible rfl); try simp only [Act.put, q5, q6, q7])); exact ee
   exact dd; intro dd
   refine R2 10 (by kernel_rfl) (by rfl) dd fun K hK ap => ?_
   (go_simp; refine (KV.out _ ap).mono ?_; rintro e w5 ⟨rfl, rfl⟩; dsimp only)
   refine hK.out _ _ (.inr ?_) (fun eP => ?_)
   ·exact ap
   clear hK K
   try simp only [Act.put, q5, q6, q7]
   apply TB 2 [(11, []), (12, [])]; kernel_rfl; rfl; · (repeat (apply ef; rfl; rfl; (· intro w aY; go_simp <;> with_reducible rfl); try simp only [Act.put, q5, q6, q7])); exact ee
   exact eP; intro eP
   refine R2 13 (by kernel_rfl) (by rfl) eP fun K hK ap => ?_
   (have sb := ap.av HSP.out; have fb : World.frozen? _ _ = _ := (World.frozen?_of_block (ap.block gp (bt HSP.out) (by simp))).trans HFP.out; go_simp)
   refine hK.out _ _ (.inl rfl) (fun kI => ?_)
   clear hK K
   try simp only [Act.put, q5, q6, q7]
   refine az (by kernel_rfl) ?_ _
   refine NoPanic.normal ?_
   have h5 := H3.out.keep (Fr.refl [] _).drew
   have f5 := cR.out.drew
   have agn : Hid (∀ j : Nat, j < i + 1 → (ms.set i (decide (0 < y)))[j]! = decide (0 < S.val (j : Int))) := fun j hj => by
    rw [du]
    by_cases e : i = j
    ·subst e
     rw [if_pos ⟨rfl, by rw [Jh.out]; exact bM⟩, HY.out]
    ·rw [if_neg (fun x => e x.1)]
     exact Sl.out j (by omega)
   obtain ⟨W5, Qm⟩ : ∃ W, ((wr.setCell ⟨gp, i, none⟩ (.bool (decide (0 < y)))).drew) = W := ⟨_, rfl⟩
   rw [Qm] at h5 f5
   have H5 := aa h5
   have F5 := aa f5
   try rw [Qm]
   clear h5 f5 Qm
   go_wp2_with fail
   go_roundg (n - (i + 1))
   case measure => have := HI.out; omega
   case rel => exact ⟨i + 1, L2, ms.set i (decide (0 < y)), by omega, by go_num, (by rw [ak]; exact Jh.out), agn.out, H5.out, cL.out, aH.aI cL.out cJ.out F5.out⟩
  ·obtain rfl : i = n := by omega
   have hd : decide ((i : Int) < (i : Int)) = false := by simp
   have f14 := H2.out.obj.frozen 14
   rw [kj] at f14
   obtain ⟨-, -, -, -, -, -, -, -, -, -, -, -, -, -, s14⟩ := H2.out.cells
   rw [kj] at s14
   obtain ⟨h3, cY⟩ := H2.out.nE 14 (.bool true) ({ S with model := ms, has := true } : Sv) rfl ⟨rfl, rfl, rfl, rfl, rfl, rfl, rfl⟩
   rw [kj] at h3 cY
   have hK : ({ S with model := ms, has := true } : Sv) = S.keep := by
    unfold Sv.keep
    congr 1
    apply List.ext_getElem
    ·rw [Jh.out, ax, cS, HN.out]
    ·intro j h1 h2
     have := Sl.out j (by rw [Jh.out] at h1; exact h1)
     simp only [List.getElem_map, List.getElem_range]
     rw [← this]
     simp [ae, af h1]
   rw [hK] at h3
   have FF : Hid (me (.tuple #[]) S.keep L w (.returned (.tuple #[])) _) := ⟨rfl, L2, h3, cL.out, aH.aI cL.out cJ.out cY⟩
   clear h3 cY hK
   go_wp2_with fail
   go_end0
   exact FF.out
theorem lN {w : World} {ops : Array Oper} {o : Oper} {a : Act} {K : Act → World → Prop} {Q : Exit → Act → World → Prop} {E : Prop} (ui : o.guard = none) (s x : Operand) (t : TypeId)
  (ho : o.op = .call { callee := .builtin .append, args := #[s, x], argTypes := #[t, t] }) (e : TypeId) (z : Value) (size bytes : Nat) (ht : Tryz.prog.underlying t = some (.slice e)) (hi : (Tryz.prog.info? e).map (fun i => (i.zero, i.size, i.bytes)) = some (some z, size, bytes)) (zp : z.cells.size = size) (pG : 0 < size)
  (A : Option Addr) (c n : Nat) (hs : a.eval s = .slice A n c) (xs : List Value) (dj : w.ownsRow 0 e size (.slice A n c) n xs) (ad : Addr) (c' : Nat) (hx : a.eval x = .slice (some ad) 1 c') (news : List Value) (hl : news.length = size)
  (kF : ∀ j u, news[j]? = some u → w.cell? (ad.add j) = some u) (h1 : ∀ u ∈ news, u.oneCell' = true) (JL : n + 1 ≤ maxLen) (iQ : (n + 1) * bytes ≤ 140737488355328)
  (h : ∀ g cap w', w'.ownsRow 0 e size (.slice (some ⟨g, 0, none⟩) (n + 1) cap) (n + 1) (xs ++ news) → Fr (ah A) w w' → (g ∈ ah A ∨ g = w.heap.size) → K (a.put o.dst (.slice (some ⟨g, 0, none⟩) (n + 1) cap)) w') :
  if Region.wanted o (yielded ops a.tmps) = true then Oper.wp Tryz.prog o a w K Q else E := by
 have hw : Region.wanted o (yielded ops a.tmps) = true := by simp [Region.wanted, ui]
 rw [if_pos hw]
 obtain ⟨A', cap, w', hr, h2, h3, h4, h5, h6, h7⟩ := gK w t o.type e z size bytes ht hi zp pG A c n xs dj ad 1 c' news (by omega) kF h1 JL iQ
 cases A' with
 | none => exact absurd (h6 rfl).1 (by decide)
 | some a' =>
  obtain ⟨g, rfl⟩ := h7 a' rfl
  unfold Oper.wp execOp
  simp only [ho, resolve, invoke, builtin, Sem.run_bind, Sem.run_pure, Result.andThen_ok, List.map_toArray, dW, fX, hs, hx, hr]
  exact h g cap w' h2 h3 (h4 g (by simp [ah]))
theorem aK.gh {w w1 : World} {L : aH} {S : Sv} (h : aK w L S) {A' : Option Addr} {c' : Nat} {F : List Nat} {x : Cw} (hi : qc w1 A' c' (L.cs ++ [x])) (hf : Fr F w w1) (hF : ∀ k, k ∈ F → k < w.heap.size → L.cv k = (L.id, 3, 0))
  (hA : ∀ k, k ∈ ah A' → (k < w.heap.size ∧ L.cv k = (L.id, 3, 0)) ∨ w.heap.size ≤ k) (hx : Ints w x.A x.c x.lits) (Rr : ∀ k, k ∈ ah x.A → L.cv k = (L.id, 8, L.cs.length)) :
  ∃ L', aK (w1.setCell ⟨L.a, 3, none⟩ (.slice A' (L.cs.length + 1) c')) L' { S with list := S.list ++ [x.rc] } ∧ L.ext L' w ∧ Fr (L.own w) w (w1.setCell ⟨L.a, 3, none⟩ (.slice A' (L.cs.length + 1) c')) ∧ L' = { L with cA := A', cC := c', cs := L.cs ++ [x], cv := L.re w (3, 0) } := by
 have cd : Fr (L.a :: F) w (w1.setCell ⟨L.a, 3, none⟩ (.slice A' (L.cs.length + 1) c')) := (hf.mono (fun k hk => .inl (by simp [hk]))).setCell (.inl (by simp)) _
 have zw : ∀ k, k ∈ L.a :: F → k < w.heap.size → ∃ t, (t = (3, 0) ∨ t = (0, 0)) ∧ L.cv k = (L.id, t) := by
  intro k hk hl
  rcases ay.1 hk with rfl | hk
  ·exact ⟨_, .inr rfl, h.t0⟩
  ·exact ⟨_, .inl rfl, hF k hk hl⟩
 have o := h.off (P := fun t => t = (3, 0) ∨ t = (0, 0)) cd zw
 have o1 := h.off (P := (· = (3, 0))) hf (fun k hk hl => ⟨_, rfl, hF k hk hl⟩)
 have g := h.tags (3, 0)
 have dN : L.a ∉ ah A' := fun hk => by
  rcases hA _ hk with ⟨_, h2⟩ | h2
  ·rw [h.t0] at h2; simp at h2
  ·have := h.obj.lt; omega
 have nI : ∀ j : Nat, (L.cs ++ [x])[j]! = if j = L.cs.length then x else L.cs[j]! := fun j => by
  simp only [ae, List.getElem?_append]
  split
  ·rw [if_neg (by omega)]
  ·rename_i hj
   split
   ·rename_i e; subst e; simp
   ·rw [List.getElem?_eq_none (by simp; omega), List.getElem?_eq_none (by omega)]
 have hxw : Ints (w1.setCell ⟨L.a, 3, none⟩ (.slice A' (L.cs.length + 1) c')) x.A x.c x.lits := hx.fr cd (fun k hk hm => by
  obtain ⟨t, ht, hl⟩ := zw k hm (hx.lt k hk)
  rw [Rr k hk] at hl
  simp only [Prod.mk.injEq, true_and] at hl
  rcases ht with rfl | rfl <;> simp at hl)
 refine ⟨{ L with cA := A', cC := c', cs := L.cs ++ [x], cv := L.re w (3, 0) }, ⟨?_, o.tr (by simp), o.hp (by simp), h.gy, ?_, h.yN, ?_, o.rws (by simp), o.sE (by simp), o.vh (by simp), o.rV (by simp), ?_, fun c hc => o.pN c hc (by simp),
  g.t0, g.t1, g.t2, fun k hk => aH.lj (hA k hk), g.t4, g.t5, g.t6, g.t7, ?_, g.t9⟩, ⟨rfl, rfl, fun k hk e => aH.mE hk e⟩, aH.fE cd (fun k hk hl => by obtain ⟨t, _, e⟩ := zw k hk hl; rw [e]), rfl⟩
 ·have := (o1.obj (by simp)).cV 3 (.slice A' (L.cs.length + 1) c')
  simpa [m7] using this
 ·simp only [bP, dW, fX, h.yP]
 ·unfold qc at hi ⊢
  have cY : Fr [L.a] w1 (w1.setCell ⟨L.a, 3, none⟩ (.slice A' (L.cs.length + 1) c')) := (Fr.refl _ w1).setCell (.inl (by simp)) _
  exact dX hi cY (fun k hk hm => dN (by simp at hm; subst hm; exact hk))
 ·intro j hj
  simp only [ai, bu] at hj
  simp only
  rw [nI]
  split
  ·exact hxw
  ·exact o.nK j (by omega) (by simp)
 ·intro j hj k hk
  simp only [ai, bu] at hj
  simp only at hk
  rw [nI] at hk
  split at hk
  ·rename_i e
   subst e
   show L.re w (3, 0) k = _
   rw [aH.ge (hx.lt k hk)]
   exact Rr k hk
  ·exact g.t8 j (by omega) k hk
namespace Sv
def gh (S : Sv) (ls : List Int) (b : Bool) : Sv := { S with list := S.list ++ [⟨ls, b, S.used⟩] }
theorem sH (S : Sv) (ls : List Int) (b : Bool) (n : Nat) : (S.gh ls b).rc n = if n = S.list.length then ⟨ls, b, S.used⟩ else S.rc n := by
 simp only [rc, gh, ae, List.getElem?_append]
 split
 ·rw [if_neg (by omega)]
 ·rename_i hj
  split
  ·rename_i e; subst e; simp
  ·rw [List.getElem?_eq_none (by simp; omega), List.getElem?_eq_none (by omega)]
structure Fits (S : Sv) (ls : List Int) : Prop where
 two : 2 ≤ ls.length
 top : ls.length ≤ 1048576
 lit : ∀ x ∈ ls, x ≠ 0 ∧ -(S.vars : Int) ≤ x ∧ x ≤ S.vars
theorem Ok.gh {S : Sv} {m : Nat} (ok : S.Ok m) {ls : List Int} (hl : S.Fits ls) (b : Bool) (hr : S.list.length < 2199023255552) : (S.gh ls b).Ok (m + 2) := by
 have hlen : (S.gh ls b).list.length = S.list.length + 1 := by simp [Sv.gh]
 refine ⟨ok.vl, ok.tr, ok.hi, ok.hl, ok.ph, ok.wl, by rw [hlen]; omega, fun c n hn => ?_, ?_, fun n x hx => ?_, fun n => ?_, fun n => ?_, ok.hd, fun v => ?_⟩
 ·have := ok.wb c n hn
  omega
 ·rw [hlen]
  have := ok.wt
  show (S.watch.map List.length).sum + (m + 2) ≤ _
  omega
 ·rw [sH] at hx
  split at hx
  ·exact hl.lit x hx
  ·exact ok.lr n x hx
 ·rw [sH]
  split
  ·have := hl.two
   show ls.length ≠ 1
   omega
  ·exact ok.ln n
 ·rw [sH]
  split
  ·exact hl.top
  ·exact ok.lb n
 ·rw [hlen]
  have := ok.rs v
  show 0 ≤ S.T.eD v ∧ S.T.eD v ≤ _
  omega
theorem Ok.QF {S : Sv} {m : Nat} (ok : S.Ok m) {ls : List Int} (hl : S.Fits ls) (b : Bool) (hr : S.list.length < 2199023255552) : ((S.gh ls b).fP (aJ ls[0]!) S.list.length).Ok (m + 1) := by
 have h := ok.gh hl b hr
 have h2 := hl.two
 have hw : (S.gh ls b).watch.length = 2 * S.vars + 2 := ok.wl
 have hlen : (S.gh ls b).list.length = S.list.length + 1 := by simp [Sv.gh]
 have b0 := hl.lit _ (get_mem (l := ls) (i := 0) (by omega))
 exact Ok.fP (S := S.gh ls b) (m := m + 1) h (c := aJ ls[0]!) (n := S.list.length) (by rw [hw]; exact fG b0.2.1 b0.2.2) (by omega)
theorem Ok.attach {S : Sv} {m : Nat} (ok : S.Ok m) {ls : List Int} (hl : S.Fits ls) (b : Bool) (hr : S.list.length < 2199023255552) : (S.attach ls b).Ok m := by
 have h := ok.gh hl b hr
 have h2 := hl.two
 have hw : (S.gh ls b).watch.length = 2 * S.vars + 2 := ok.wl
 have hlen : (S.gh ls b).list.length = S.list.length + 1 := by simp [Sv.gh]
 have b0 := hl.lit _ (get_mem (l := ls) (i := 0) (by omega))
 have b1 := hl.lit _ (get_mem (l := ls) (i := 1) (by omega))
 have k1 := Ok.fP (S := S.gh ls b) (m := m + 1) h (c := aJ ls[0]!) (n := S.list.length) (by rw [hw]; exact fG b0.2.1 b0.2.2) (by omega)
 exact Ok.fP k1 (c := aJ ls[1]!) (n := S.list.length) (by show aJ ls[1]! < ((S.gh ls b).watch.set _ _).length; rw [ak, hw]; exact fG b1.2.1 b1.2.2) (by show _ < (S.gh ls b).list.length; omega)
theorem ed (S : Sv) (ls : List Int) (b : Bool) : (S.attach ls b).T = S.T ∧ (S.attach ls b).vars = S.vars ∧ (S.attach ls b).list.length = S.list.length + 1 ∧ (S.attach ls b).head = S.head ∧ (S.attach ls b).used = S.used ∧ (S.attach ls b).H = S.H := by simp [attach, fP, bS]
end Sv
theorem OY : (Tryz.prog.info? 168).map (fun i => (i.zero, i.size, i.bytes)) = some (some (.agg #[.slice none 0 0, .bool false, .int .i64 0]), 3, 40) := by kernel_rfl
theorem zQ {w : World} {g : Nat} {t : TypeId} {a b c : Value} (h : At w g t #[a, b, c]) : ∀ j u, [a, b, c][j]? = some u → w.cell? ((Addr.mk g 0 none).add j) = some u := fun j u hu => by
 rw [dM, cZ, h.cell]
 simpa using hu
theorem IG (cs : List Cw) (x : Cw) : ew cs ++ [.slice x.A x.lits.length x.c, .bool x.jI, .int .i64 x.act] = ew (cs ++ [x]) := by rw [II]; rfl
theorem Rf {α β γ : Type} {C : α → β → γ → Prop} {P : α → β → γ → Prop} {G : Prop} (m : (∀ x y z, C x y z → P x y z) → G) (t : ∀ x y z, C x y z → P x y z) : G := m t
def AtP (n : Nat) (S' : Sv) (A : Option Addr) (c : Nat) (ls : List Int) (L : aH) (w : World) (e : Ending) (w' : World) : Prop :=
 e = .returned (.int .i64 (n : Nat)) ∧ ∃ L', aK w' L' S' ∧ L'.a = L.a ∧ L'.id = L.id ∧ (∀ k, k < w.heap.size → (L'.cv k).1 = L.id → (L.cv k).1 = L.id ∨ k ∈ ah A) ∧ Fr (ah A ++ L.own w) w w' ∧ Ints w' A c ls ∧ L'.tL = L.tL
theorem p9 (w : World) (L : aH) (S : Sv) (h : aK w L S) (m : Nat) (ok : S.Ok m) (A : Option Addr) (c : Nat) (ls : List Int) (b : Bool) (hi : Ints w A c ls) (uj : S.Fits ls) (hA : ∀ k, k ∈ ah A → (L.cv k).1 ≠ L.id) (hr : S.list.length < 2199023255552) (hu : S.used ≤ 2199023255552) :
  Calls Tryz.prog 130 #[.pointer (some ⟨L.a, 0, none⟩), .slice A ls.length c, .bool b] w (AtP S.list.length (S.attach ls b) A c ls L w) := by
 obtain ⟨ga, np, P5⟩ := hi.pos (i := 0) (by have := uj.two; omega)
 subst np
 have FX := h.lU
 have Rs := h.pE.trans ok.wl
 have xj : ∀ k, L.has k → k ∉ ah (some (⟨ga, 0, none⟩ : Addr)) := fun k hk hm => hA k hm (h.ij hk)
 have h0 := h.FE (fun k => if k ∈ ah (some (⟨ga, 0, none⟩ : Addr)) then (L.id, 8, L.cs.length) else L.cv k) (fun k hk => if_neg (xj k hk))
 obtain ⟨L0, N3⟩ : ∃ L0, ({ L with cv := fun k => if k ∈ ah (some (⟨ga, 0, none⟩ : Addr)) then (L.id, 8, L.cs.length) else L.cv k } : aH) = L0 := ⟨_, rfl⟩
 rw [N3] at h0
 have YS : L0.a = L.a := by rw [← N3]
 have afc : L0.cs = L.cs := by rw [← N3]
 have YR : L0.ws = L.ws := by rw [← N3]
 have UD : L0.id = L.id := by rw [← N3]
 have X2 : L0.cv ga = (L0.id, 8, L0.cs.length) := by rw [← N3]; simp [ah]
 have xm : Hid (∀ W L', aK W L' (S.attach ls b) → L0.ext L' w → Fr (L0.own w) w W → Ints W (some ⟨ga, 0, none⟩) c ls → L'.tL = L0.tL → AtP S.list.length (S.attach ls b) (some ⟨ga, 0, none⟩) c ls L w (.returned (.int .i64 (S.list.length : Nat))) W) := fun W L' g1 g2 g3 g4 g5 => by
  refine ⟨rfl, L', g1, g2.1.trans YS, g2.2.1.trans UD, fun k hk e => ?_, ?_, g4, by rw [g5, ← N3]⟩
  ·have e2 := g2.2.2 k hk (e.trans UD.symm)
   rw [← N3] at e2
   simp only at e2
   by_cases hm : k ∈ ah (some (⟨ga, 0, none⟩ : Addr))
   ·exact .inr hm
   ·rw [if_neg hm] at e2
    exact .inl e2
  ·refine g3.mono (fun k hk => ?_)
   rw [aH.bI] at hk
   left
   by_cases hm : k ∈ ah (some (⟨ga, 0, none⟩ : Addr))
   ·exact aW _ hm
   ·refine List.mem_append_right _ (aH.bI.2 ⟨hk.1, ?_⟩)
    have e2 := hk.2
    rw [← N3] at e2
    simp only [if_neg hm] at e2
    exact e2
 have hlC : L0.cs.length = S.list.length := h0.lU
 have Xr : L0.ws.length = 2 * S.vars + 2 := by rw [YR]; exact Rs
 have RE := hi.cell (i := 0) (by have := uj.two; omega)
 have RD := hi.cell (i := 1) (by have := uj.two; omega)
 obtain ⟨-, -, -, c3, c4, -, -, -, -, c9, -⟩ := h0.cells
 have f3 := h0.obj.frozen 3
 rw [YS] at c3 c4 c9 f3
 have Ci := aa c3
 have Jn := aa c4
 have HC9 := aa c9
 have cR := aa f3
 have Fd := aa uj
 have nJ : qc w L0.cA L0.cC L0.cs := h0.sG
 have n8 : Hid (L.a ∉ ah L0.cA) := fun hm => by
  have e1 := h0.t3 _ hm
  rw [← YS, h0.t0] at e1
  simp at e1
 have XZ : ∀ k, k ∈ ah L0.cA → k < w.heap.size := di nJ
 have RG : ∀ k, k ∈ ah L0.cA → L0.cv k = (L0.id, 3, 0) := h0.t3
 have Zz := aa XZ
 have Nl := aa RG
 have H0 := aa h0
 have HI := aa hi
 have zC := aa X2
 have ZW := aa YS
 have kQ := aa (ok.gh uj b hr)
 have Nn := aa (ok.QF uj b hr)
 have HLC := aa hlC
 have ang := aa Xr
 have HR0 := aa RE
 have oY := aa RD
 have adZ : L0.cs.length < 2199023255552 := by omega
 obtain ⟨n, hn⟩ : ∃ n, L0.cs.length = n := ⟨_, rfl⟩
 have hnS : S.list.length = n := by omega
 rw [hnS] at xm ⊢
 rw [hn] at c3 adZ
 have HN := aa hn
 unfold qc at nJ
 rw [hn] at nJ
 have Zo := aa nJ
 have oS : 2 ≤ ls.length := uj.two
 have HNS := aa hnS
 have bM : ls.length ≤ 1048576 := uj.top
 have HVL := aa ok.vl
 clear f3 c4 c9 nJ XZ RG h0 hi X2 YS h ok uj hA xj N3 afc YR UD FX Rs hlC Xr RE RD hn hnS hr
 go_enter Tryz.func130, Tryz.ntmps130
 go_wp2_with fail
 clear c3
 go_upto_region 2 with fail
 refine wp_region_noPanic ?_
 refine bj (fun w' : World => Fr (ah L0.cA) w w') 16 (by kernel_rfl) ((Fr.refl _ w).drew) (fun dd => ?_)
 apply TB 12 [(0, []), (1, []), (2, []), (3, []), (4, [4, 16]), (5, []), (6, []), (7, []), (8, []), (9, []), (10, [10, 16]), (11, [])]; kernel_rfl; rfl; · (repeat (apply ef; rfl; rfl; (· intro w aY; (try (have aY := aY.resolve_left (aF _ _); (have s3 := aY.aZ n8.out Ci.out; have s9 := aY.aZ n8.out HC9.out; rw [HN.out] at s3))); go_simp <;> with_reducible rfl); try simp only [Act.put, q5, q6, q7])); exact ee
 exact dd; intro dd
 refine R2 12 (by kernel_rfl) (by rfl) dd fun K hK ap => ?_
 go_simp
 refine hK.out _ _ (.inr ?_) (fun iu => ?_)
 ·first | exact ap.ag cY | exact ap.alloc _ | exact ap
 clear hK K
 try simp only [Act.put, q5, q6, q7]
 refine R2 13 (by kernel_rfl) (by rfl) iu fun K hK ap => ?_
 (refine lN rfl _ _ 109 rfl 168 (.agg #[.slice none 0 0, .bool false, .int .i64 0]) 3 40 Tryz.underlying109 OY rfl (by decide) L0.cA L0.cC n rfl (ew L0.cs) ?Ik _ 1 rfl [.slice (some ⟨ga, 0, none⟩) ls.length c, .bool b, .int .i64 S.used] rfl ?DZ (by simp [Value.oneCell']) (by unfold maxLen; omega) (by omega) ?_; (case Ik => exact dX Zo.out ((Fr.refl [] w).alloc _).drew (fun k hk hm => by cases hm)); (case DZ => exact zQ (At.new _ _ _)); intro g3 BN w3 hi3 cY yC)
 refine hK.out _ _ (.inr ?_) (fun kI => ?_)
 ·first | exact ap.ag cY | exact ap.alloc _ | exact ap
 clear hK K
 try simp only [Act.put, q5, q6, q7]
 apply TB 2 [(14, []), (15, [])]; kernel_rfl; rfl; · (repeat (apply ef; rfl; rfl; (· intro w aY; go_simp <;> with_reducible rfl); try simp only [Act.put, q5, q6, q7])); exact ee
 exact kI; intro kI
 refine R2 16 (by kernel_rfl) (by rfl) kI fun K hK ap => ?_
 (have sb := ap.aZ n8.out Ci.out; have fb : World.frozen? _ _ = _ := (World.frozen?_of_block (ap.block L.a (bt Ci.out) n8.out)).trans cR.out; go_simp)
 refine hK.out _ _ (.inl rfl) (fun fK => ?_)
 clear hK K
 try simp only [Act.put, q5, q6, q7]
 refine az (by kernel_rfl) ?_ _
 refine NoPanic.normal ?_
 have yB : qc w3 (some ⟨g3, 0, none⟩) BN (L0.cs ++ [⟨some ⟨ga, 0, none⟩, c, ls, b, S.used⟩]) := by
  unfold qc
  rw [← IG, ai, bu, HN.out]
  exact hi3
 obtain ⟨L1, h1, sQ, cE, vx⟩ := H0.out.gh (x := ⟨some ⟨ga, 0, none⟩, c, ls, b, S.used⟩) yB ap (fun k hk _ => Nl.out k hk) (fun k hk => by
  simp [ah] at hk
  subst hk
  rcases yC with h5 | h5
  ·exact .inl ⟨Zz.out _ h5, Nl.out _ h5⟩
  ·right
   rw [h5]
   simp) HI.out (fun k hk => by simp [ah] at hk; subst hk; exact zC.out)
 rw [ZW.out, HN.out] at h1 cE
 obtain ⟨W1, ik⟩ : ∃ W, w3.setCell ⟨L.a, 3, none⟩ (.slice (some ⟨g3, 0, none⟩) (n + 1) BN) = W := ⟨_, rfl⟩
 rw [ik] at h1 cE ⊢
 have H1 : Hid (aK W1 L1 (S.gh ls b)) := h1
 have yI : L1.cs = L0.cs ++ [⟨some ⟨ga, 0, none⟩, c, ls, b, S.used⟩] := by rw [vx]
 have VA := aa yI
 have afS : Hid (L1.tL = L0.tL) := (by rw [vx] : L1.tL = L0.tL)
 have JP : Hid (L1.cs[n]! = ⟨some ⟨ga, 0, none⟩, c, ls, b, S.used⟩) := by
  show _ = _
  rw [yI, ← HN.out]
  simp
 have NK : Hid (L1.a = L.a) := (sQ.1.trans ZW.out : L1.a = L.a)
 have agz : Hid (Ints W1 (some ⟨ga, 0, none⟩) c ls) := by
  have := h1.nK n (by rw [yI, ai, HN.out]; simp)
  rw [JP.out] at this
  exact this
 have agt : Hid (L1.cv ga = (L1.id, 8, n)) := h1.t8 n (by rw [yI, ai, HN.out]; simp) ga (by rw [JP.out]; simp [ah])
 have dV := aa sQ
 have dv := aa cE
 clear ik h1 cE sQ vx yI ap hi3 yB cY yC Zo Ci Jn HC9 cR n8 Zz Nl
 go_wp2_with fail
 obtain ⟨y0, jJ⟩ : ∃ y, ls[0]! = y := ⟨_, rfl⟩
 have Xm := Fd.out.lit _ (get_mem (l := ls) (i := 0) (by omega))
 rw [jJ] at Xm
 obtain ⟨-, adl, adg⟩ := Xm
 have Bi : aJ y0 < L1.ws.length := by
  rw [H1.out.pE, kQ.out.wl]
  exact fG (v := S.vars) adl adg
 obtain ⟨CA, Qe⟩ : ∃ c, aJ y0 = c := ⟨_, rfl⟩
 have alr := HVL.out
 have UT := aa (fun W' => lF W' y0 (by omega) (by omega))
 have agY := aa Qe
 simp only [Qe] at UT
 rw [Qe] at Bi
 obtain ⟨UC, P4, sw0, fw0⟩ := H1.out.SD Bi
 have Pa := H1.out.pN CA Bi
 have PY := kQ.out.room CA
 have Hn := H1.out.ql Bi
 unfold Sv.eX at Hn
 rw [Hn] at PY
 have D9 : ∀ j, j ∈ ah (L1.ws[CA]!).A → L1.cv j = (L1.id, 9, CA) := H1.out.t9 CA Bi
 obtain ⟨⟨Oj, c90, Js⟩, Xp⟩ : ∃ x, L1.ws[CA]! = x := ⟨_, rfl⟩
 rw [Xp] at sw0 Pa PY Hn D9
 simp only at sw0 Pa PY Hn D9
 obtain ⟨-, -, -, -, s40, -⟩ := H1.out.cells
 rw [P4, NK.out] at s40
 have Nq : Hid (L.a ∉ ah Oj) := fun hm => by
  have e1 := D9 _ hm
  rw [← NK.out, H1.out.t0] at e1
  simp at e1
 have Np : Hid (ga ∉ ah Oj) := fun hm => by
  have e1 := D9 _ hm
  rw [agt.out] at e1
  simp at e1
 have vd : Hid (UC ∉ ah Oj) := fun hm => by
  have e1 := D9 _ hm
  rw [H1.out.t4 UC (by rw [P4]; simp [ah])] at e1
  simp at e1
 have s10 : W1.cell? ⟨ga, 0, none⟩ = some (.int .i64 y0) := by rw [agz.out.cell (i := 0) (by omega), jJ]
 have Ng := aa s40
 have Nh := aa s10
 have u7 := aa sw0
 have GA := aa fw0
 have u9 := aa Pa
 have Vh := aa D9
 have afJ := aa Hn
 have agE := aa P4
 have ZY := aa Bi
 have aiK : CA < L1.ws.length := Bi
 have aiI : (CA : Int) < (L1.ws.length : Int) := by omega
 have alL : (0 : Int) < (ls.length : Int) := by omega
 have aig : 0 < ls.length := by omega
 have Nt : Hid (Js.length < 17592186044416) := (by omega : Js.length < 17592186044416)
 have Sq : Hid (Fr (ah Oj) W1 W1) := Fr.refl _ _
 have HY0 := aa jJ
 clear P4 Bi Pa PY Hn D9 Xp s40 s10 sw0 fw0 Qe jJ
 go_upto_region 3 with fail
 apply Rf (C := fun (gA cA : Nat) (wA : World) => Ints wA (some ⟨gA, 0, none⟩) cA (bv Js ++ [(n : Int)]) ∧ Fr (ah Oj) W1 wA ∧ (gA ∈ ah Oj ∨ W1.heap.size ≤ gA))
 ·intro MX
  refine wp_region_noPanic ?_
  refine bj (fun w' : World => Fr (ah Oj) W1 w') 22 (by kernel_rfl) (Sq.out.drew) (fun dd => ?_)
  apply TB 15 [(0, []), (1, []), (2, []), (3, [3, 22]), (4, []), (5, []), (6, [6, 22]), (8, []), (9, []), (10, []), (11, [11, 22]), (12, []), (13, []), (14, [14, 22]), (18, [])]; kernel_rfl; rfl; · (repeat (apply ef; rfl; rfl; (· intro w aY; (try (have aY := aY.resolve_left (aF _ _); (have s4 := aY.aZ Nq.out Ng.out; have s1 := aY.aZ Np.out Nh.out; have sw := aY.aZ vd.out u7.out))); go_simp <;> with_reducible rfl); try simp only [Act.put, q5, q6, q7])); exact ee
  exact dd; intro dd
  have ap := dd.resolve_left (by decide)
  refine bp (rs := [7, 19]) (by kernel_rfl) (by simp) ?_
  refine aU.cons (o := ?acD) ?Pu ?DI ?_
  case Pu => rfl
  case DI =>
   intro K hK
   (go_simp; refine (UT.out _).mono ?_; rintro e w5 ⟨rfl, rfl⟩; dsimp only)
   refine hK.out _ _ (.inr ?_) (fun kH => ?_)
   ·first | exact ap.ag qH | exact ap.alloc _ | exact ap
   clear hK K
   try simp only [Act.put, q5, q6, q7]
   have ap := kH.resolve_left (by decide)
   refine bp (rs := [15, 19]) (by kernel_rfl) (by simp) ?_
   refine aU.cons (o := ?acC) ?Pt ?DH ?_
   case Pt => rfl
   case DH =>
    intro K hK
    (go_simp; refine (UT.out _).mono ?_; rintro e w5 ⟨rfl, rfl⟩; dsimp only)
    refine hK.out _ _ (.inr ?_) (fun fK => ?_)
    ·first | exact ap.ag qH | exact ap.alloc _ | exact ap
    clear hK K
    try simp only [Act.put, q5, q6, q7]
    apply TB 2 [(16, []), (17, [17, 22])]; kernel_rfl; rfl; · (repeat (apply ef; rfl; rfl; (· intro w aY; (try (have aY := aY.resolve_left (aF _ _); (have s4 := aY.aZ Nq.out Ng.out; have s1 := aY.aZ Np.out Nh.out; have sw := aY.aZ vd.out u7.out))); go_simp <;> with_reducible rfl); try simp only [Act.put, q5, q6, q7])); exact ee
    exact fK; intro fK
    refine R2 19 (by kernel_rfl) (by rfl) fK fun K hK ap => ?_
    go_simp
    refine hK.out _ _ (.inr ?_) (fun Bm => ?_)
    ·first | exact ap.ag qH | exact ap.alloc _ | exact ap
    clear hK K
    try simp only [Act.put, q5, q6, q7]
    refine R2 20 (by kernel_rfl) (by rfl) Bm fun K hK ap => ?_
    (refine bK rfl _ _ rfl Oj c90 (bv Js) _ rfl (aR Js).symm ?Ii _ 1 n rfl ?Et (by rw [aR]; exact Nt.out) ?_; (case Ii => first | exact u9.out.drew.alloc _ | exact u9.out.alloc _ | exact u9.out); (case Et => simp); intro YQ Y0 WA AZ qH Bb XC)
    refine hK.out _ _ (.inr ?_) (fun fq => ?_)
    ·first | exact ap.ag qH | exact ap.alloc _ | exact ap
    clear hK K
    try simp only [Act.put, q5, q6, q7]
    apply TB 1 [(21, [])]; kernel_rfl; rfl; · (repeat (apply ef; rfl; rfl; (· intro w aY; go_simp <;> with_reducible rfl); try simp only [Act.put, q5, q6, q7])); exact ee
    exact fq; intro fq
    refine R2 22 (by kernel_rfl) (by rfl) fq fun K hK ap => ?_
    (have sb := ap.aZ vd.out u7.out; have fb : World.frozen? _ _ = _ := (World.frozen?_of_block (ap.block UC (bt u7.out) vd.out)).trans GA.out; go_simp)
    refine hK.out _ _ (.inl rfl) (fun vS => ?_)
    clear hK K
    try simp only [Act.put, q5, q6, q7]
    refine az (by kernel_rfl) ?_ _
    refine NoPanic.normal ?_
    exact MX _ _ _ ⟨AZ, ap, Bb.imp id (fun h => by rw [h]; first | exact ao _ | simp)⟩
   refine aU.cons (o := ?acz) ?Pr ?Tm aU.nil
   case Pr => rfl
   intro K hK
   go_simp
   refine hK.out _ _ (.inr ?_) (fun fK => ?_)
   ·first | exact ap.ag qH | exact ap.alloc _ | exact ap
   clear hK K
   try simp only [Act.put, q5, q6, q7]
   refine R2 15 (by kernel_rfl) (by rfl) fK fun K hK ap => ?_
   (go_simp; refine (UT.out _).mono ?_; rintro e w5 ⟨rfl, rfl⟩; dsimp only)
   refine hK.out _ _ (.inr ?_) (fun iS => ?_)
   ·first | exact ap.ag qH | exact ap.alloc _ | exact ap
   clear hK K
   try simp only [Act.put, q5, q6, q7]
   apply TB 2 [(16, []), (17, [17, 22])]; kernel_rfl; rfl; · (repeat (apply ef; rfl; rfl; (· intro w aY; (try (have aY := aY.resolve_left (aF _ _); (have s4 := aY.aZ Nq.out Ng.out; have s1 := aY.aZ Np.out Nh.out; have sw := aY.aZ vd.out u7.out))); go_simp <;> with_reducible rfl); try simp only [Act.put, q5, q6, q7])); exact ee
   exact iS; intro iS
   refine R2 20 (by kernel_rfl) (by rfl) iS fun K hK ap => ?_
   (refine bK rfl _ _ rfl Oj c90 (bv Js) _ rfl (aR Js).symm ?If _ 1 n rfl ?Ep (by rw [aR]; exact Nt.out) ?_; (case If => first | exact u9.out.drew.alloc _ | exact u9.out.alloc _ | exact u9.out); (case Ep => simp); intro YQ Y0 WA AZ qH Bb XC)
   refine hK.out _ _ (.inr ?_) (fun fq => ?_)
   ·first | exact ap.ag qH | exact ap.alloc _ | exact ap
   clear hK K
   try simp only [Act.put, q5, q6, q7]
   apply TB 1 [(21, [])]; kernel_rfl; rfl; · (repeat (apply ef; rfl; rfl; (· intro w aY; go_simp <;> with_reducible rfl); try simp only [Act.put, q5, q6, q7])); exact ee
   exact fq; intro fq
   refine R2 22 (by kernel_rfl) (by rfl) fq fun K hK ap => ?_
   (have sb := ap.aZ vd.out u7.out; have fb : World.frozen? _ _ = _ := (World.frozen?_of_block (ap.block UC (bt u7.out) vd.out)).trans GA.out; go_simp)
   refine hK.out _ _ (.inl rfl) (fun vS => ?_)
   clear hK K
   try simp only [Act.put, q5, q6, q7]
   refine az (by kernel_rfl) ?_ _
   refine NoPanic.normal ?_
   exact MX _ _ _ ⟨AZ, ap, Bb.imp id (fun h => by rw [h]; first | exact ao _ | simp)⟩
  refine aU.cons (o := ?acw) ?Pp ?Tl aU.nil
  case Pp => rfl
  intro K hK
  go_simp
  refine hK.out _ _ (.inr ?_) (fun kH => ?_)
  ·first | exact ap.ag qH | exact ap.alloc _ | exact ap
  clear hK K
  try simp only [Act.put, q5, q6, q7]
  refine R2 7 (by kernel_rfl) (by rfl) kH fun K hK ap => ?_
  (go_simp; refine (UT.out _).mono ?_; rintro e w5 ⟨rfl, rfl⟩; dsimp only)
  refine hK.out _ _ (.inr ?_) (fun fK => ?_)
  ·first | exact ap.ag qH | exact ap.alloc _ | exact ap
  clear hK K
  try simp only [Act.put, q5, q6, q7]
  refine R2 15 (by kernel_rfl) (by rfl) fK fun K hK ap => ?_
  (go_simp; refine (UT.out _).mono ?_; rintro e w5 ⟨rfl, rfl⟩; dsimp only)
  refine hK.out _ _ (.inr ?_) (fun iS => ?_)
  ·first | exact ap.ag qH | exact ap.alloc _ | exact ap
  clear hK K
  try simp only [Act.put, q5, q6, q7]
  apply TB 2 [(16, []), (17, [17, 22])]; kernel_rfl; rfl; · (repeat (apply ef; rfl; rfl; (· intro w aY; (try (have aY := aY.resolve_left (aF _ _); (have s4 := aY.aZ Nq.out Ng.out; have s1 := aY.aZ Np.out Nh.out; have sw := aY.aZ vd.out u7.out))); go_simp <;> with_reducible rfl); try simp only [Act.put, q5, q6, q7])); exact ee
  exact iS; intro iS
  refine R2 20 (by kernel_rfl) (by rfl) iS fun K hK ap => ?_
  (refine bK rfl _ _ rfl Oj c90 (bv Js) _ rfl (aR Js).symm ?Ic _ 1 n rfl ?Em (by rw [aR]; exact Nt.out) ?_; (case Ic => first | exact u9.out.drew.alloc _ | exact u9.out.alloc _ | exact u9.out); (case Em => simp); intro YQ Y0 WA AZ qH Bb XC)
  refine hK.out _ _ (.inr ?_) (fun fq => ?_)
  ·first | exact ap.ag qH | exact ap.alloc _ | exact ap
  clear hK K
  try simp only [Act.put, q5, q6, q7]
  apply TB 1 [(21, [])]; kernel_rfl; rfl; · (repeat (apply ef; rfl; rfl; (· intro w aY; go_simp <;> with_reducible rfl); try simp only [Act.put, q5, q6, q7])); exact ee
  exact fq; intro fq
  refine R2 22 (by kernel_rfl) (by rfl) fq fun K hK ap => ?_
  (have sb := ap.aZ vd.out u7.out; have fb : World.frozen? _ _ = _ := (World.frozen?_of_block (ap.block UC (bt u7.out) vd.out)).trans GA.out; go_simp)
  refine hK.out _ _ (.inl rfl) (fun vS => ?_)
  clear hK K
  try simp only [Act.put, q5, q6, q7]
  refine az (by kernel_rfl) ?_ _
  refine NoPanic.normal ?_
  exact MX _ _ _ ⟨AZ, ap, Bb.imp id (fun h => by rw [h]; first | exact ao _ | simp)⟩
 ·intro YQ Y0 WA ⟨AZ, ap, Bb⟩
  have Yb : Ints WA (some ⟨YQ, 0, none⟩) Y0 (bv (Js ++ [n])) := by rw [← jn]; exact AZ
  obtain ⟨gv0, Ug, _, _, L2, UA, Un, P7, Uu⟩ := H1.out.bS ZY.out Yb ap (fun j hj _ => Vh.out j hj) (fun j hj => by
   simp [ah] at hj
   subst hj
   exact Bb.imp (fun h5 => ⟨(u9.out.lt _ h5), Vh.out _ h5⟩) id)
  obtain rfl : UC = gv0 := by rw [agE.out] at Ug; simpa using Ug
  simp only [ai, bu] at UA P7
  obtain ⟨W2, RV⟩ : ∃ W, WA.setCell ⟨UC, CA, none⟩ (.slice (some ⟨YQ, 0, none⟩) (Js.length + 1) Y0) = W := ⟨_, rfl⟩
  rw [RV] at UA P7 ⊢
  have Wa : (S.gh ls b).bS CA (Js ++ [n]) = (S.gh ls b).fP (aJ ls[0]!) S.list.length := by
   unfold Sv.fP Sv.eX
   rw [HY0.out, agY.out, afJ.out, HNS.out]
  rw [Wa] at UA
  have Iy : L2.cs = L1.cs := by rw [Uu]
  have afR : Hid (L2.tL = L0.tL) := (by rw [Uu] : L2.tL = L1.tL).trans afS.out
  have agZ : Hid (L2.cs = L0.cs ++ [⟨some ⟨ga, 0, none⟩, c, ls, b, S.used⟩]) := Iy.trans VA.out
  have ZV : Hid (L2.a = L.a) := (Un.1.trans NK.out : L2.a = L.a)
  have agy : Hid (Ints W2 (some ⟨ga, 0, none⟩) c ls) := by
   have := UA.nK n (by rw [Iy, VA.out, ai, HN.out]; simp)
   rw [Iy, JP.out] at this
   exact this
  have ags : Hid (L2.cv ga = (L2.id, 8, n)) := UA.t8 n (by rw [Iy, VA.out, ai, HN.out]; simp) ga (by rw [Iy, JP.out]; simp [ah])
  have cL := aa (aH.aM dV.out Un dv.out.size)
  have cJ := aa (aH.aI dV.out dv.out P7)
  have H2 := aa UA
  clear RV UA P7 Un Uu Iy ap AZ Yb Bb Ug
  clear Sq Ng Nh u7 GA u9 Vh Nq Np vd
  go_wp2_with fail
  clear UT
  obtain ⟨y1, gx⟩ : ∃ y, ls[1]! = y := ⟨_, rfl⟩
  have O1 := Fd.out.lit _ (get_mem (l := ls) (i := 1) (by omega))
  rw [gx] at O1
  obtain ⟨-, adk, adf⟩ := O1
  have Bh : aJ y1 < L2.ws.length := by
   rw [H2.out.pE, Nn.out.wl]
   exact fG (v := S.vars) adk adf
  obtain ⟨IR, Qd⟩ : ∃ c, aJ y1 = c := ⟨_, rfl⟩
  have alq := HVL.out
  have Wf := aa (fun W' => lF W' y1 (by omega) (by omega))
  have agX := aa Qd
  simp only [Qd] at Wf
  rw [Qd] at Bh
  obtain ⟨Wb, P3, sw1, fw1⟩ := H2.out.SD Bh
  have O9 := H2.out.pN IR Bh
  have PX := Nn.out.room IR
  have Hm := H2.out.ql Bh
  unfold Sv.eX at Hm
  rw [Hm] at PX
  have D8 : ∀ j, j ∈ ah (L2.ws[IR]!).A → L2.cv j = (L2.id, 9, IR) := H2.out.t9 IR Bh
  obtain ⟨⟨Oi, c91, K4⟩, Xo⟩ : ∃ x, L2.ws[IR]! = x := ⟨_, rfl⟩
  rw [Xo] at sw1 O9 PX Hm D8
  simp only at sw1 O9 PX Hm D8
  obtain ⟨-, -, -, -, s41, -⟩ := H2.out.cells
  rw [P3, ZV.out] at s41
  have QV : Hid (L.a ∉ ah Oi) := fun hm => by
   have e1 := D8 _ hm
   rw [← ZV.out, H2.out.t0] at e1
   simp at e1
  have QU : Hid (ga ∉ ah Oi) := fun hm => by
   have e1 := D8 _ hm
   rw [ags.out] at e1
   simp at e1
  have ww : Hid (Wb ∉ ah Oi) := fun hm => by
   have e1 := D8 _ hm
   rw [H2.out.t4 Wb (by rw [P3]; simp [ah])] at e1
   simp at e1
  have s11 : W2.cell? ⟨ga, 1, none⟩ = some (.int .i64 y1) := by rw [agy.out.cell (i := 1) (by omega), gx]
  have QL := aa s41
  have QM := aa s11
  have wh := aa sw1
  have NA := aa fw1
  have wo := aa O9
  have Zx := aa D8
  have afI := aa Hm
  have agD := aa P3
  have ZX := aa Bh
  have aiJ : IR < L2.ws.length := Bh
  have aiH : (IR : Int) < (L2.ws.length : Int) := by omega
  have alK : (1 : Int) < (ls.length : Int) := by omega
  have aif : 1 < ls.length := by omega
  have Ns : Hid (K4.length < 17592186044416) := (by omega : K4.length < 17592186044416)
  have ZQ : Hid (Fr (ah Oi) W2 W2) := Fr.refl _ _
  have HY1 := aa gx
  clear P3 Bh O9 PX Hm D8 Xo s41 s11 sw1 fw1 Qd gx
  go_upto_region 4 with fail
  apply Rf (C := fun (gA cA : Nat) (wA : World) => Ints wA (some ⟨gA, 0, none⟩) cA (bv K4 ++ [(n : Int)]) ∧ Fr (ah Oi) W2 wA ∧ (gA ∈ ah Oi ∨ W2.heap.size ≤ gA))
  ·intro MW
   refine wp_region_noPanic ?_
   refine bj (fun w' : World => Fr (ah Oi) W2 w') 22 (by kernel_rfl) (ZQ.out.drew) (fun dd => ?_)
   apply TB 15 [(0, []), (1, []), (2, []), (3, [3, 22]), (4, []), (5, []), (6, [6, 22]), (8, []), (9, []), (10, []), (11, [11, 22]), (12, []), (13, []), (14, [14, 22]), (18, [])]; kernel_rfl; rfl; · (repeat (apply ef; rfl; rfl; (· intro w aY; (try (have aY := aY.resolve_left (aF _ _); (have s4 := aY.aZ QV.out QL.out; have s1 := aY.aZ QU.out QM.out; have sw := aY.aZ ww.out wh.out))); go_simp <;> with_reducible rfl); try simp only [Act.put, q5, q6, q7])); exact ee
   exact dd; intro dd
   have ap := dd.resolve_left (by decide)
   refine bp (rs := [7, 19]) (by kernel_rfl) (by simp) ?_
   refine aU.cons (o := ?acu) ?Po ?DE ?_
   case Po => rfl
   case DE =>
    intro K hK
    (go_simp; refine (Wf.out _).mono ?_; rintro e w5 ⟨rfl, rfl⟩; dsimp only)
    refine hK.out _ _ (.inr ?_) (fun kH => ?_)
    ·first | exact ap.ag qG | exact ap.alloc _ | exact ap
    clear hK K
    try simp only [Act.put, q5, q6, q7]
    have ap := kH.resolve_left (by decide)
    refine bp (rs := [15, 19]) (by kernel_rfl) (by simp) ?_
    refine aU.cons (o := ?acs) ?Pn ?DC ?_
    case Pn => rfl
    case DC =>
     intro K hK
     (go_simp; refine (Wf.out _).mono ?_; rintro e w5 ⟨rfl, rfl⟩; dsimp only)
     refine hK.out _ _ (.inr ?_) (fun fK => ?_)
     ·first | exact ap.ag qG | exact ap.alloc _ | exact ap
     clear hK K
     try simp only [Act.put, q5, q6, q7]
     apply TB 2 [(16, []), (17, [17, 22])]; kernel_rfl; rfl; · (repeat (apply ef; rfl; rfl; (· intro w aY; (try (have aY := aY.resolve_left (aF _ _); (have s4 := aY.aZ QV.out QL.out; have s1 := aY.aZ QU.out QM.out; have sw := aY.aZ ww.out wh.out))); go_simp <;> with_reducible rfl); try simp only [Act.put, q5, q6, q7])); exact ee
     exact fK; intro fK
     refine R2 19 (by kernel_rfl) (by rfl) fK fun K hK ap => ?_
     go_simp
     refine hK.out _ _ (.inr ?_) (fun Bm => ?_)
     ·first | exact ap.ag qG | exact ap.alloc _ | exact ap
     clear hK K
     try simp only [Act.put, q5, q6, q7]
     refine R2 20 (by kernel_rfl) (by rfl) Bm fun K hK ap => ?_
     (refine bK rfl _ _ rfl Oi c91 (bv K4) _ rfl (aR K4).symm ?Ib _ 1 n rfl ?El (by rw [aR]; exact Ns.out) ?_; (case Ib => first | exact wo.out.drew.alloc _ | exact wo.out.alloc _ | exact wo.out); (case El => simp); intro gA1 cA1 wA1 AY qG Ba XB)
     refine hK.out _ _ (.inr ?_) (fun fq => ?_)
     ·first | exact ap.ag qG | exact ap.alloc _ | exact ap
     clear hK K
     try simp only [Act.put, q5, q6, q7]
     apply TB 1 [(21, [])]; kernel_rfl; rfl; · (repeat (apply ef; rfl; rfl; (· intro w aY; go_simp <;> with_reducible rfl); try simp only [Act.put, q5, q6, q7])); exact ee
     exact fq; intro fq
     refine R2 22 (by kernel_rfl) (by rfl) fq fun K hK ap => ?_
     (have sb := ap.aZ ww.out wh.out; have fb : World.frozen? _ _ = _ := (World.frozen?_of_block (ap.block Wb (bt wh.out) ww.out)).trans NA.out; go_simp)
     refine hK.out _ _ (.inl rfl) (fun vS => ?_)
     clear hK K
     try simp only [Act.put, q5, q6, q7]
     refine az (by kernel_rfl) ?_ _
     refine NoPanic.normal ?_
     exact MW _ _ _ ⟨AY, ap, Ba.imp id (fun h => by rw [h]; first | exact ao _ | simp)⟩
    refine aU.cons (o := ?acr) ?Pk ?Tk aU.nil
    case Pk => rfl
    intro K hK
    go_simp
    refine hK.out _ _ (.inr ?_) (fun fK => ?_)
    ·first | exact ap.ag qG | exact ap.alloc _ | exact ap
    clear hK K
    try simp only [Act.put, q5, q6, q7]
    refine R2 15 (by kernel_rfl) (by rfl) fK fun K hK ap => ?_
    (go_simp; refine (Wf.out _).mono ?_; rintro e w5 ⟨rfl, rfl⟩; dsimp only)
    refine hK.out _ _ (.inr ?_) (fun iS => ?_)
    ·first | exact ap.ag qG | exact ap.alloc _ | exact ap
    clear hK K
    try simp only [Act.put, q5, q6, q7]
    apply TB 2 [(16, []), (17, [17, 22])]; kernel_rfl; rfl; · (repeat (apply ef; rfl; rfl; (· intro w aY; (try (have aY := aY.resolve_left (aF _ _); (have s4 := aY.aZ QV.out QL.out; have s1 := aY.aZ QU.out QM.out; have sw := aY.aZ ww.out wh.out))); go_simp <;> with_reducible rfl); try simp only [Act.put, q5, q6, q7])); exact ee
    exact iS; intro iS
    refine R2 20 (by kernel_rfl) (by rfl) iS fun K hK ap => ?_
    (refine bK rfl _ _ rfl Oi c91 (bv K4) _ rfl (aR K4).symm ?Ia _ 1 n rfl ?Ek (by rw [aR]; exact Ns.out) ?_; (case Ia => first | exact wo.out.drew.alloc _ | exact wo.out.alloc _ | exact wo.out); (case Ek => simp); intro gA1 cA1 wA1 AY qG Ba XB)
    refine hK.out _ _ (.inr ?_) (fun fq => ?_)
    ·first | exact ap.ag qG | exact ap.alloc _ | exact ap
    clear hK K
    try simp only [Act.put, q5, q6, q7]
    apply TB 1 [(21, [])]; kernel_rfl; rfl; · (repeat (apply ef; rfl; rfl; (· intro w aY; go_simp <;> with_reducible rfl); try simp only [Act.put, q5, q6, q7])); exact ee
    exact fq; intro fq
    refine R2 22 (by kernel_rfl) (by rfl) fq fun K hK ap => ?_
    (have sb := ap.aZ ww.out wh.out; have fb : World.frozen? _ _ = _ := (World.frozen?_of_block (ap.block Wb (bt wh.out) ww.out)).trans NA.out; go_simp)
    refine hK.out _ _ (.inl rfl) (fun vS => ?_)
    clear hK K
    try simp only [Act.put, q5, q6, q7]
    refine az (by kernel_rfl) ?_ _
    refine NoPanic.normal ?_
    exact MW _ _ _ ⟨AY, ap, Ba.imp id (fun h => by rw [h]; first | exact ao _ | simp)⟩
   refine aU.cons (o := ?acp) ?Pj ?Tj aU.nil
   case Pj => rfl
   intro K hK
   go_simp
   refine hK.out _ _ (.inr ?_) (fun kH => ?_)
   ·first | exact ap.ag qG | exact ap.alloc _ | exact ap
   clear hK K
   try simp only [Act.put, q5, q6, q7]
   refine R2 7 (by kernel_rfl) (by rfl) kH fun K hK ap => ?_
   (go_simp; refine (Wf.out _).mono ?_; rintro e w5 ⟨rfl, rfl⟩; dsimp only)
   refine hK.out _ _ (.inr ?_) (fun fK => ?_)
   ·first | exact ap.ag qG | exact ap.alloc _ | exact ap
   clear hK K
   try simp only [Act.put, q5, q6, q7]
   refine R2 15 (by kernel_rfl) (by rfl) fK fun K hK ap => ?_
   (go_simp; refine (Wf.out _).mono ?_; rintro e w5 ⟨rfl, rfl⟩; dsimp only)
   refine hK.out _ _ (.inr ?_) (fun iS => ?_)
   ·first | exact ap.ag qG | exact ap.alloc _ | exact ap
   clear hK K
   try simp only [Act.put, q5, q6, q7]
   apply TB 2 [(16, []), (17, [17, 22])]; kernel_rfl; rfl; · (repeat (apply ef; rfl; rfl; (· intro w aY; (try (have aY := aY.resolve_left (aF _ _); (have s4 := aY.aZ QV.out QL.out; have s1 := aY.aZ QU.out QM.out; have sw := aY.aZ ww.out wh.out))); go_simp <;> with_reducible rfl); try simp only [Act.put, q5, q6, q7])); exact ee
   exact iS; intro iS
   refine R2 20 (by kernel_rfl) (by rfl) iS fun K hK ap => ?_
   (refine bK rfl _ _ rfl Oi c91 (bv K4) _ rfl (aR K4).symm ?Hz _ 1 n rfl ?Ej (by rw [aR]; exact Ns.out) ?_; (case Hz => first | exact wo.out.drew.alloc _ | exact wo.out.alloc _ | exact wo.out); (case Ej => simp); intro gA1 cA1 wA1 AY qG Ba XB)
   refine hK.out _ _ (.inr ?_) (fun fq => ?_)
   ·first | exact ap.ag qG | exact ap.alloc _ | exact ap
   clear hK K
   try simp only [Act.put, q5, q6, q7]
   apply TB 1 [(21, [])]; kernel_rfl; rfl; · (repeat (apply ef; rfl; rfl; (· intro w aY; go_simp <;> with_reducible rfl); try simp only [Act.put, q5, q6, q7])); exact ee
   exact fq; intro fq
   refine R2 22 (by kernel_rfl) (by rfl) fq fun K hK ap => ?_
   (have sb := ap.aZ ww.out wh.out; have fb : World.frozen? _ _ = _ := (World.frozen?_of_block (ap.block Wb (bt wh.out) ww.out)).trans NA.out; go_simp)
   refine hK.out _ _ (.inl rfl) (fun vS => ?_)
   clear hK K
   try simp only [Act.put, q5, q6, q7]
   refine az (by kernel_rfl) ?_ _
   refine NoPanic.normal ?_
   exact MW _ _ _ ⟨AY, ap, Ba.imp id (fun h => by rw [h]; first | exact ao _ | simp)⟩
  ·intro gA1 cA1 wA1 ⟨AY, ap, Ba⟩
   have Ya : Ints wA1 (some ⟨gA1, 0, none⟩) cA1 (bv (K4 ++ [n])) := by rw [← jn]; exact AY
   obtain ⟨gv1, Uf, _, _, L3, YP, Yy, Ul, Ut⟩ := H2.out.bS ZX.out Ya ap (fun j hj _ => Zx.out j hj) (fun j hj => by
    simp [ah] at hj
    subst hj
    exact Ba.imp (fun h5 => ⟨(wo.out.lt _ h5), Zx.out _ h5⟩) id)
   obtain rfl : Wb = gv1 := by rw [agD.out] at Uf; simpa using Uf
   simp only [ai, bu] at YP Ul
   have hS3 : ((S.gh ls b).fP (aJ ls[0]!) S.list.length).bS IR (K4 ++ [n]) = S.attach ls b := by
    show _ = ((S.gh ls b).fP (aJ ls[0]!) S.list.length).fP (aJ ls[1]!) S.list.length
    have hw := afI.out
    revert hw
    generalize (S.gh ls b).fP (aJ ls[0]!) S.list.length = T
    intro hw
    unfold Sv.fP Sv.eX
    rw [HY1.out, agX.out, hw, HNS.out]
   rw [hS3] at YP
   have Up : L3.cs = L0.cs ++ [⟨some ⟨ga, 0, none⟩, c, ls, b, S.used⟩] := by rw [Ut]; exact agZ.out
   have hI3 := YP.nK n (by rw [Up, ai, HN.out]; simp)
   rw [Up, show (L0.cs ++ [(⟨some ⟨ga, 0, none⟩, c, ls, b, S.used⟩ : Cw)])[n]! = ⟨some ⟨ga, 0, none⟩, c, ls, b, S.used⟩ from by rw [← HN.out]; simp] at hI3
   have l8 := aa (xm.out _ L3 YP (aH.aM cL.out Yy cJ.out.size) (aH.aI cL.out cJ.out Ul) hI3 ((by rw [Ut] : L3.tL = L2.tL).trans afR.out))
   clear Up hI3
   clear YP Ul Yy Ut hS3 ap AY Ya Ba Uf xm
   go_wp2_with fail
   go_ret
   exact l8.out
structure T3 where
 a : Int
 b : Int
 c : Int
instance : Inhabited T3 := ⟨⟨0, 0, 0⟩⟩
structure Nm where
 k : ByteArray
 i : Int
 t : ByteArray
instance : Inhabited Nm := ⟨⟨⟨#[]⟩, 0, ⟨#[]⟩⟩⟩
structure Pc where
 mx : Int
 ins : List Int
 aX : List T3
 outs : List Int
 aO : List Int
 aN : List Int
 au : List T3
 bO : List Nm
structure Hd where
 iA : Option Addr
 iC : Nat
 lA : Option Addr
 lC : Nat
 oA : Option Addr
 oC : Nat
 bA : Option Addr
 bC : Nat
 vA : Option Addr
 vC : Nat
 gA : Option Addr
 gC : Nat
 nA : Option Addr
 nC : Nat
def gH (H : Hd) (C : Pc) : Array Value :=
 #[.int .i64 C.mx, .slice H.iA C.ins.length H.iC, .slice H.lA C.aX.length H.lC, .slice H.oA C.outs.length H.oC, .slice H.bA C.aO.length H.bC, .slice H.vA C.aN.length H.vC, .slice H.gA C.au.length H.gC, .slice H.nA C.bO.length H.nC]
def dn (H : Hd) (C : Pc) : Value := .agg (gH H C)
def R9 (w : World) (A : Option Addr) (l : List T3) : Prop := 0 < l.length → ∃ b o, A = some ⟨b, o, none⟩ ∧
 ∀ j : Nat, j < l.length → w.cell? ⟨b, o + j * 3, none⟩ = some (.int .i64 (l[j]!).a) ∧ w.cell? ⟨b, o + j * 3 + 1, none⟩ = some (.int .i64 (l[j]!).b) ∧ w.cell? ⟨b, o + j * 3 + 2, none⟩ = some (.int .i64 (l[j]!).c)
def UM (w : World) (A : Option Addr) (l : List Nm) : Prop := 0 < l.length → ∃ b o, A = some ⟨b, o, none⟩ ∧
 ∀ j : Nat, j < l.length → w.cell? ⟨b, o + j * 3, none⟩ = some (.string (l[j]!).k) ∧ w.cell? ⟨b, o + j * 3 + 1, none⟩ = some (.int .i64 (l[j]!).i) ∧ w.cell? ⟨b, o + j * 3 + 2, none⟩ = some (.string (l[j]!).t)
theorem R9.keep {w w' : World} {A : Option Addr} {l : List T3} (h : R9 w A l) (hf : Fr [] w w') : R9 w' A l := by
 intro h0
 obtain ⟨b, o, hA, hx⟩ := h h0
 exact ⟨b, o, hA, fun j hj => ⟨hf.av (hx j hj).1, hf.av (hx j hj).2.1, hf.av (hx j hj).2.2⟩⟩
theorem UM.keep {w w' : World} {A : Option Addr} {l : List Nm} (h : UM w A l) (hf : Fr [] w w') : UM w' A l := by
 intro h0
 obtain ⟨b, o, hA, hx⟩ := h h0
 exact ⟨b, o, hA, fun j hj => ⟨hf.av (hx j hj).1, hf.av (hx j hj).2.1, hf.av (hx j hj).2.2⟩⟩
def dB (x : Int) : Prop := -9223372036854775808 ≤ x ∧ x ≤ 9223372036854775807
def Ra (l : List Int) : Prop := ∀ j : Nat, j < l.length → dB l[j]!
def Rt (l : List T3) : Prop := ∀ j : Nat, j < l.length → dB (l[j]!).a ∧ dB (l[j]!).b ∧ dB (l[j]!).c
def Rm (l : List Nm) : Prop := ∀ j : Nat, j < l.length → (l[j]!).k.size ≤ maxLen ∧ dB (l[j]!).i ∧ (l[j]!).t.size ≤ maxLen
structure iE (w : World) (H : Hd) (C : Pc) : Prop where
 i : Rd w H.iA C.ins
 l : R9 w H.lA C.aX
 o : Rd w H.oA C.outs
 b : Rd w H.bA C.aO
 v : Rd w H.vA C.aN
 g : R9 w H.gA C.au
 n : UM w H.nA C.bO
 iL : C.ins.length ≤ 17592186044416
 lL : C.aX.length ≤ 5864062014635
 oL : C.outs.length ≤ 17592186044416
 bL : C.aO.length ≤ 17592186044416
 vL : C.aN.length ≤ 17592186044416
 gL : C.au.length ≤ 5864062014635
 nL : C.bO.length ≤ 3518437208781
 mr : dB C.mx
 ir : Ra C.ins
 lr : Rt C.aX
 or_ : Ra C.outs
 br : Ra C.aO
 vr : Ra C.aN
 gr : Rt C.au
 nr : Rm C.bO
theorem iE.keep {w w' : World} {H : Hd} {C : Pc} (h : iE w H C) (hf : Fr [] w w') : iE w' H C :=
 ⟨h.i.keep hf, h.l.keep hf, h.o.keep hf, h.b.keep hf, h.v.keep hf, h.g.keep hf, h.n.keep hf, h.iL, h.lL, h.oL, h.bL, h.vL, h.gL, h.nL, h.mr, h.ir, h.lr, h.or_, h.br, h.vr, h.gr, h.nr⟩
theorem MP (w : World) (H : Hd) (C : Pc) : At (w.alloc (.cells (gH H C) 27)) w.heap.size 27 (gH H C) := At.new w _ _
theorem dO (w : World) (o : Obj) : Fr [] w (w.alloc o) := (Fr.refl [] w).alloc o
structure Cx (w wr : World) (H : Hd) (C : Pc) : Prop where
 fr : Fr [] w wr
 bx : At wr w.heap.size 27 (gH H C)
theorem Cx.start (w : World) (H : Hd) (C : Pc) : Cx w (w.alloc (.cells (gH H C) 27)) H C := ⟨dO _ _, MP _ _ _⟩
theorem Cx.keep {w wr w' : World} {H : Hd} {C : Pc} (h : Cx w wr H C) (hf : Fr [] wr w') : Cx w w' H C := ⟨h.fr.ag hf, h.bx.keep hf⟩
theorem At.MM {w : World} {g : Nat} {t : TypeId} {H : Hd} {C : Pc} (h : At w g t (gH H C)) :
  w.cell? ⟨g, 0, none⟩ = some (.int .i64 C.mx) ∧ w.cell? ⟨g, 1, none⟩ = some (.slice H.iA C.ins.length H.iC) ∧ w.cell? ⟨g, 2, none⟩ = some (.slice H.lA C.aX.length H.lC) ∧ w.cell? ⟨g, 3, none⟩ = some (.slice H.oA C.outs.length H.oC) ∧
  w.cell? ⟨g, 4, none⟩ = some (.slice H.bA C.aO.length H.bC) ∧ w.cell? ⟨g, 5, none⟩ = some (.slice H.vA C.aN.length H.vC) ∧ w.cell? ⟨g, 6, none⟩ = some (.slice H.gA C.au.length H.gC) ∧ w.cell? ⟨g, 7, none⟩ = some (.slice H.nA C.bO.length H.nC) := by
 refine ⟨?_, ?_, ?_, ?_, ?_, ?_, ?_, ?_⟩ <;> (rw [h.cell]; rfl)
theorem Cx.cells {w wr : World} {H : Hd} {C : Pc} (h : Cx w wr H C) :
  wr.cell? ⟨w.heap.size, 0, none⟩ = some (.int .i64 C.mx) ∧ wr.cell? ⟨w.heap.size, 1, none⟩ = some (.slice H.iA C.ins.length H.iC) ∧ wr.cell? ⟨w.heap.size, 2, none⟩ = some (.slice H.lA C.aX.length H.lC) ∧ wr.cell? ⟨w.heap.size, 3, none⟩ = some (.slice H.oA C.outs.length H.oC) ∧
  wr.cell? ⟨w.heap.size, 4, none⟩ = some (.slice H.bA C.aO.length H.bC) ∧ wr.cell? ⟨w.heap.size, 5, none⟩ = some (.slice H.vA C.aN.length H.vC) ∧ wr.cell? ⟨w.heap.size, 6, none⟩ = some (.slice H.gA C.au.length H.gC) ∧ wr.cell? ⟨w.heap.size, 7, none⟩ = some (.slice H.nA C.bO.length H.nC) := h.bx.MM
theorem Cx.ext {w wr : World} {H : Hd} {C : Pc} (h : Cx w wr H C) :
  (∀ u : Ext wr, u.v.cell? ⟨w.heap.size, 0, none⟩ = some (.int .i64 C.mx)) ∧ (∀ u : Ext wr, u.v.cell? ⟨w.heap.size, 1, none⟩ = some (.slice H.iA C.ins.length H.iC)) ∧ (∀ u : Ext wr, u.v.cell? ⟨w.heap.size, 2, none⟩ = some (.slice H.lA C.aX.length H.lC)) ∧ (∀ u : Ext wr, u.v.cell? ⟨w.heap.size, 3, none⟩ = some (.slice H.oA C.outs.length H.oC)) ∧
  (∀ u : Ext wr, u.v.cell? ⟨w.heap.size, 4, none⟩ = some (.slice H.bA C.aO.length H.bC)) ∧ (∀ u : Ext wr, u.v.cell? ⟨w.heap.size, 5, none⟩ = some (.slice H.vA C.aN.length H.vC)) ∧ (∀ u : Ext wr, u.v.cell? ⟨w.heap.size, 6, none⟩ = some (.slice H.gA C.au.length H.gC)) ∧ (∀ u : Ext wr, u.v.cell? ⟨w.heap.size, 7, none⟩ = some (.slice H.nA C.bO.length H.nC)) := by
 obtain ⟨c0, c1, c2, c3, c4, c5, c6, c7⟩ := h.cells
 exact ⟨Ext.cell c0, Ext.cell c1, Ext.cell c2, Ext.cell c3, Ext.cell c4, Ext.cell c5, Ext.cell c6, Ext.cell c7⟩
theorem Rd.one {w : World} {A : Option Addr} {l : List Int} (h : Rd w A l) (hr : Ra l) {j : Nat} (hj : j < l.length) : ∃ b o x, A = some ⟨b, o, none⟩ ∧ Hid (l[j]! = x) ∧ w.cell? ⟨b, o + j, none⟩ = some (.int .i64 x) ∧ -9223372036854775808 ≤ x ∧ x ≤ 9223372036854775807 := by
 obtain ⟨b, o, hA, hx⟩ := h (by omega)
 exact ⟨b, o, _, hA, rfl, hx j hj, hr j hj⟩
theorem R9.one {w : World} {A : Option Addr} {l : List T3} (h : R9 w A l) (hr : Rt l) {j : Nat} (hj : j < l.length) : ∃ b o x y z, A = some ⟨b, o, none⟩ ∧ Hid (l[j]! = ⟨x, y, z⟩) ∧
  w.cell? ⟨b, o + j * 3, none⟩ = some (.int .i64 x) ∧ w.cell? ⟨b, o + j * 3 + 1, none⟩ = some (.int .i64 y) ∧ w.cell? ⟨b, o + j * 3 + 2, none⟩ = some (.int .i64 z) ∧
  (-9223372036854775808 ≤ x ∧ x ≤ 9223372036854775807) ∧ (-9223372036854775808 ≤ y ∧ y ≤ 9223372036854775807) ∧ (-9223372036854775808 ≤ z ∧ z ≤ 9223372036854775807) := by
 obtain ⟨b, o, hA, hx⟩ := h (by omega)
 obtain ⟨h1, h2, h3⟩ := hx j hj
 exact ⟨b, o, _, _, _, hA, rfl, h1, h2, h3, hr j hj⟩
theorem UM.one {w : World} {A : Option Addr} {l : List Nm} (h : UM w A l) (hr : Rm l) {j : Nat} (hj : j < l.length) : ∃ b o x y z, A = some ⟨b, o, none⟩ ∧ Hid (l[j]! = ⟨x, y, z⟩) ∧
  w.cell? ⟨b, o + j * 3, none⟩ = some (.string x) ∧ w.cell? ⟨b, o + j * 3 + 1, none⟩ = some (.int .i64 y) ∧ w.cell? ⟨b, o + j * 3 + 2, none⟩ = some (.string z) ∧
  x.size ≤ maxLen ∧ (-9223372036854775808 ≤ y ∧ y ≤ 9223372036854775807) ∧ z.size ≤ maxLen := by
 obtain ⟨b, o, hA, hx⟩ := h (by omega)
 obtain ⟨h1, h2, h3⟩ := hx j hj
 exact ⟨b, o, _, _, _, hA, rfl, h1, h2, h3, hr j hj⟩
def hit (v x : Int) : Bool := decide (0 ≤ x) && decide (x / 2 = v)
def ou (C : Pc) (v : Int) : Bool := decide (v = 0) || C.ins.any (hit v) || C.aX.any (fun x => hit v x.a) || C.au.any (fun x => hit v x.a)
theorem Gn {α : Type} [Inhabited α] (l : List α) (p : α → Bool) : (l.any p = true ↔ ∃ j : Nat, j < l.length ∧ p l[j]! = true) := by
 rw [List.any_eq_true]
 constructor
 ·rintro ⟨x, hx, h⟩
  obtain ⟨j, hj, e⟩ := List.mem_iff_getElem.1 hx
  exact ⟨j, hj, by simp [hj, e, h]⟩
 ·rintro ⟨j, hj, h⟩
  simp only [ae, af hj, aq] at h
  exact ⟨l[j], List.getElem_mem hj, h⟩
theorem QG {α : Type} [Inhabited α] (l : List α) (p : α → Bool) (h : ∀ j : Nat, j < l.length → p l[j]! = false) : l.any p = false := by
 rw [Bool.eq_false_iff]
 intro hh
 obtain ⟨j, hj, h1⟩ := (Gn l p).1 hh
 rw [h j hj] at h1; cases h1
theorem sY {α : Type} [Inhabited α] (l : List α) (p : α → Bool) (k : Nat) (hk : k < l.length) (h : p l[k]! = true) : l.any p = true := (Gn l p).2 ⟨k, hk, h⟩
def ev {α : Type} [Inhabited α] (l : List α) (p : α → Bool) (k : Nat) : Prop := ∀ j : Nat, j < k → p l[j]! = false
theorem ev.zero {α : Type} [Inhabited α] (l : List α) (p : α → Bool) : ev l p 0 := fun j hj => absurd hj (aG _)
theorem ev.step {α : Type} [Inhabited α] {l : List α} {p : α → Bool} {k : Nat} (h : ev l p k) (hk : p l[k]! = false) : ev l p (k + 1) := fun j hj => by
 by_cases e : j = k
 ·subst e; exact hk
 ·exact h j (by omega)
theorem ev.all {α : Type} [Inhabited α] {l : List α} {p : α → Bool} {k : Nat} (h : ev l p k) (hk : ¬ k < l.length) : l.any p = false := QG l p fun j hj => h j (by omega)
def fS (C : Pc) (l : Int) : Bool := decide (0 ≤ l) && ou C (l / 2)
def sz (C : Pc) (l : List Int) : Bool := l.all (fS C) && decide ((l.length : Int) ≤ 64)
def lQ (C : Pc) (k : ByteArray) : Int :=
 if (k.toList == [105]) = true then C.ins.length else if (k.toList == [108]) = true then C.aX.length else if (k.toList == [111]) = true then C.outs.length else if (k.toList == [98]) = true then C.aO.length else if (k.toList == [99]) = true then C.aN.length else -1
def rk (k : ByteArray) : Int := if (k.toList == [105]) = true then 0 else if (k.toList == [108]) = true then 1 else if (k.toList == [111]) = true then 2 else if (k.toList == [98]) = true then 3 else if (k.toList == [99]) = true then 4 else -1
theorem xZ (a b : List UInt8) : (a == b) = true ∨ (a == b) = false := by cases (a == b) <;> simp
def fe (c : UInt8) : Bool := decide ((c.toNat : Int) < 33) || decide (126 < (c.toNat : Int))
def CQ (t : ByteArray) : Bool := t.data.toList.any fe
def LW (C : Pc) (x : Nm) : Bool := decide (0 ≤ x.i) && decide (x.i < lQ C x.k) && !x.t.toList.isEmpty && decide ((x.t.size : Int) ≤ 32)
def qV (C : Pc) (x : Nm) : Bool := LW C x && !CQ x.t
def sI (y x : Nm) : Bool := decide (rk x.k < rk y.k) || (y.k.toList == x.k.toList) && decide (x.i ≤ y.i)
def Gs (C : Pc) (k : Nat) : Prop := ∀ j : Nat, j < k → qV C C.bO[j]! = true ∧ (0 < j → sI C.bO[j - 1]! C.bO[j]! = false)
def ym (C : Pc) : Bool := (List.range C.bO.length).all fun j => qV C C.bO[j]! && (j == 0 || !sI C.bO[j - 1]! C.bO[j]!)
theorem G7 (C : Pc) : ym C = true ↔ Gs C C.bO.length := by
 unfold ym Gs
 rw [List.all_eq_true]
 constructor
 ·intro h j hj
  have := h j (gG.2 hj)
  simp only [aD, Bool.or_eq_true, beq_iff_eq, Bool.not_eq_true'] at this
  exact ⟨this.1, fun h0 => this.2.resolve_left (by omega)⟩
 ·intro h j hj
  obtain ⟨h1, h2⟩ := h j (gG.1 hj)
  simp only [aD, Bool.or_eq_true, beq_iff_eq, Bool.not_eq_true']
  refine ⟨h1, ?_⟩
  by_cases e : j = 0
  ·exact .inl e
  ·exact .inr (h2 (by omega))
def tG (x : T3) : Bool := decide (x.c = 0) || decide (x.c = 1) || decide (x.c = x.a)
def K0 (C : Pc) (x : T3) : Bool := tG x && fS C x.b
def EO (C : Pc) (p : Option Int) (x : T3) : Bool := (match p with | none => true | some q => decide (q < x.a)) && decide (x.b < x.a) && decide (x.c < x.a) && fS C x.b && fS C x.c
def WK (l : List T3) (j : Nat) : Option Int := if j = 0 then none else some (l[j - 1]!).a
def cm (C : Pc) : List Int := C.ins ++ C.aX.map (fun x => x.a) ++ C.au.map (fun x => x.a)
def jL (C : Pc) (l : List Int) (i : Nat) : Bool := decide (2 ≤ l[i]!) && decide (l[i]! % 2 = 0) && decide (l[i]! ≤ 2 * C.mx) && !decide (l[i]! ∈ l.take i)
structure Valid (C : Pc) : Prop where
 m0 : 0 ≤ C.mx
 m1 : C.mx ≤ 2048
 i : C.ins.length ≤ 64
 l : C.aX.length ≤ 64
 n : ym C = true
 aX : ∀ j : Nat, j < C.aX.length → K0 C C.aX[j]! = true
 au : ∀ j : Nat, j < C.au.length → EO C (WK C.au j) C.au[j]! = true
 own : ∀ j : Nat, j < (cm C).length → jL C (cm C) j = true
 o : sz C C.outs = true
 b : sz C C.aO = true
 v : sz C C.aN = true
def NS (C : Pc) (w : World) (e : Ending) (w' : World) : Prop := ((e = .returned (.int .i64 0) ∧ Valid C) ∨ (e = .returned (.int .i64 9) ∧ ¬ Valid C)) ∧ Fr [] w w'
theorem UE {C : Pc} {w w' : World} (h : ¬ Valid C) (hf : Fr [] w w') : NS C w (.returned (.int .i64 9)) w' := ⟨.inr ⟨rfl, h⟩, hf⟩
theorem QC {C : Pc} {w w' : World} (h : Valid C) (hf : Fr [] w w') : NS C w (.returned (.int .i64 0)) w' := ⟨.inl ⟨rfl, h⟩, hf⟩
def xy (C : Pc) (l : List Int) (k : Nat) : Prop := ∀ j : Nat, j < k → jL C l j = true
theorem xy.step {C : Pc} {l : List Int} {k : Nat} (h : xy C l k) (h1 : jL C l k = true) : xy C l (k + 1) := fun j hj => by
 by_cases e : j = k
 ·subst e; exact h1
 ·exact h j (by omega)
theorem xD (n : Int) (h₀ : 0 ≤ n) (h₁ : n < 2 ^ 63) : IntKind.i64.wrap n = n := by rw [IntKind.wrap_i64]; omega
theorem IU {l : Int} (h : 0 ≤ l) (h2 : l ≤ 9223372036854775807) : bits BinOp.and IntKind.i64 l 1 = l % 2 := by
 have := bits_mask .i64 63 (by decide) xD 1 (by decide) l h (by omega)
 simpa using this
theorem ii (w : World) (l : Int) (h : 0 ≤ l) (h2 : l ≤ 9223372036854775807) :
  Calls Tryz.prog 83 #[.int .i64 l] w fun e w' => e = .returned (.int .i64 (l / 2)) ∧ w = w' := by
 go_enter Tryz.func83, Tryz.ntmps83
 go_wp2_with fail
 go_ret
 exact ⟨rfl, rfl⟩
theorem tU (w : World) (l : Int) (h : l < 0) :
  Calls Tryz.prog 83 #[.int .i64 l] w fun e w' => e = .returned (.int .i64 0) ∧ w = w' := by
 go_enter Tryz.func83, Tryz.ntmps83
 go_wp2_with fail
 go_ret
 exact ⟨rfl, rfl⟩
theorem pD (w : World) (l : Int) (h : 0 ≤ l) (h2 : l ≤ 9223372036854775807) :
  Calls Tryz.prog 116 #[.int .i64 l] w fun e w' => e = .returned (.bool (l % 2 == 1)) ∧ w = w' := by
 have HB := aa (IU h h2)
 go_enter Tryz.func116, Tryz.ntmps116
 go_wp2_with fail
 go_ret
 exact ⟨by rw [← HB.out]; rfl, rfl⟩
def Q8 (w : World) (g : Nat) (cb : Array Value) (p : Int → Bool) (xs : List Int) : Prop := ∀ W, Fr [] w W → ∀ x, x ∈ xs → dB x →
 Calls Tryz.prog g (#[.int .i64 x] ++ cb) W fun e w' => e = .returned (.bool (p x)) ∧ Fr [] W w'
theorem bw {α : Type} [Inhabited α] {l : List α} {k : Nat} (h : k < l.length) : l[k]! ∈ l := by
 rw [ae, af h]
 exact List.getElem_mem h
def JO (b : Bool) (w : World) (e : Ending) (w' : World) : Prop := ∃ n : Int, e = .returned (.int .i64 n) ∧ -1 ≤ n ∧ n ≤ 9223372036854775807 ∧ decide (0 ≤ n) = b ∧ Fr [] w w'
theorem Du (w : World) (A : Option Addr) (c : Nat) (xs : List Int) (g : Nat) (cb : Array Value) (p : Int → Bool) (eg : ∀ args w, (callFunc g args).run Tryz.prog w = .ok (.enter g args) w) (h : Rd w A xs) (hr : Ra xs) (hl : xs.length ≤ 17592186044416) (hp : Q8 w g cb p xs) :
  Calls Tryz.prog 90 #[.slice A xs.length c, .func (.func g) #[] cb] w (JO (xs.any p) w) := by
 have HH := aa h
 have HR := aa hr
 have HP := aa hp
 have rI : Hid (∀ (n : Nat) W, n ≤ 17592186044416 → xs.any p = true → Fr [] w W → JO (xs.any p) w (.returned (.int .i64 (n : Int))) W) := fun n W h1 h2 h3 => ⟨n, rfl, by omega, by omega, by rw [h2]; exact decide_eq_true (by omega), h3⟩
 have NO : Hid (∀ W, xs.any p = false → Fr [] w W → JO (xs.any p) w (.returned (.int .i64 (-1))) W) := fun W h2 h3 => ⟨-1, rfl, by omega, by omega, by rw [h2]; rfl, h3⟩
 clear h hr hp
 go_enter Tryz.func90, Tryz.ntmps90
 go_wp2_with fail
 go_loopg [8] xs.length (fun g i wr => ∃ k : Nat, k + g = xs.length ∧ i = .int .i64 k ∧ Fr [] w wr ∧ ev xs p k)
 case atStart => exact ⟨0, by omega, rfl, Fr.refl _ _, ev.zero _ _⟩
 case round =>
  obtain ⟨k, hk, rfl, hx, hn⟩ := hrel
  have HK := aa hk
  have HX := aa hx
  have HN := aa hn
  have j4 : k ≤ xs.length := by omega
  clear hk hx hn
  by_cases bM : k < xs.length
  ·obtain ⟨b, o, x, hA, he, cx, gP, iP⟩ := (HH.out.keep HX.out).one HR.out bM
   subst hA
   obtain ⟨q, HQ⟩ : ∃ q, Hid (p x = q) := ⟨_, rfl⟩
   have HC := aa (HP.out wr HX.out x (by rw [← he.out]; exact bw bM) ⟨gP, iP⟩)
   go_wp2_with fail
   refine HC.out.mono ?_
   rw [HQ.out]
   rintro e w2 ⟨rfl, hf⟩
   have HF := aa (HX.out.ag hf)
   clear hf
   cases q with
   | true =>
    go_wp2_with fail
    go_ret
    exact rI.out k _ (by omega) (sY _ _ k bM (by rw [he.out]; exact HQ.out)) HF.out
   | false =>
    go_wp2_with fail
    go_roundg (gk - 1)
    case measure => have := HK.out; omega
    case rel => exact ⟨k + 1, by have := HK.out; omega, by go_num, HF.out, HN.out.step (by rw [he.out]; exact HQ.out)⟩
  ·have HT := aa (HN.out.all bM)
   clear HN HK
   go_wp2_with fail
   go_ret
   exact NO.out _ HT.out HX.out
theorem fT (w : World) (A : Option Addr) (c : Nat) (xs : List Int) (g : Nat) (cb : Array Value) (p : Int → Bool) (eg : ∀ args w, (callFunc g args).run Tryz.prog w = .ok (.enter g args) w) (h : Rd w A xs) (hr : Ra xs) (hl : xs.length ≤ 17592186044416) (hp : Q8 w g cb p xs) :
  Calls Tryz.prog 53 #[.slice A xs.length c, .func (.func g) #[] cb] w fun e w' => e = .returned (.bool (xs.any p)) ∧ Fr [] w w' := by
 have HC := aa (Du w A c xs g cb p eg h hr hl hp)
 clear h hr hp
 go_enter Tryz.func53, Tryz.ntmps53
 go_wp2_with fail
 refine HC.out.mono ?_
 rintro e w2 ⟨n, rfl, h1, h2, h3, hf⟩
 have H3 := aa h3
 have HF := aa hf
 clear h3 hf
 go_wp2_with fail
 go_ret
 exact ⟨by rw [← H3.out]; rfl, HF.out⟩
theorem ab4 {v : Int} (h : dB v) : (Lit.int IntKind.i64 v).wf = true := by
 unfold dB at h
 simp [Lit.wf, IntKind.min, IntKind.max, IntKind.signed, IntKind.bits]
 omega
theorem OW {v : Int} (h : dB v) : keyOf Tryz.prog 3 (.int .i64 v) = some (.int .i64 v) := Maps.keyOf_int_mk Tryz.underlying3 (ab4 h)
theorem Wu (w : World) : (zeroValue 9).run Tryz.prog w = .ok (.string ⟨#[]⟩) w := by kernel_rfl
theorem IL {P : Program} {e : TypeId} (he : P.underlying e = some .string) {v : Value} {z : DataW Unit × List MemPlace} (h : plainElem P e v = some z) : ∃ s : ByteArray, v = .string s ∧ z = (.lit (.string s.data.toList), []) := by
 unfold plainElem at h
 rw [he] at h
 cases v <;> simp at h
 obtain ⟨_, rfl⟩ := h
 exact ⟨_, rfl, rfl⟩
def Met (w : World) (b n : Nat) (f : Int → List UInt8) : Prop := ∃ D : DataW Unit, w.ownsMap Tryz.prog 3 (plainElem Tryz.prog 9) b n D ∧ ∀ v, dB v → D.atKey (.int .i64 v) (.lit (.string [])) = .lit (.string (f v))
theorem Met.lt {w : World} {b n : Nat} {f : Int → List UInt8} (h : Met w b n f) : b < w.heap.size := by
 obtain ⟨D, h1, _⟩ := h
 exact h1.lt
theorem Met.fr {w w' : World} {S : List Nat} {b n : Nat} {f : Int → List UInt8} (h : Met w b n f) (hf : Fr S w w') (hn : b ∉ S) : Met w' b n f := by
 have bM := h.lt
 obtain ⟨D, ⟨es, clock, hb, F, hs, hD⟩, h2⟩ := h
 exact ⟨D, ⟨es, clock, (hf.block b bM hn).trans hb, F, hs, hD⟩, h2⟩
theorem Met.keep {w w' : World} {b n : Nat} {f : Int → List UInt8} (h : Met w b n f) (hf : Fr [] w w') : Met w' b n f := h.fr hf (by simp)
theorem Met.new (w : World) : Met (w.alloc (.map #[] 0)) w.heap.size 0 (fun _ => []) :=
 ⟨.map [], World.ownsMap_made w _ _ _, fun v _ => rfl⟩
theorem KJ {P : Program} {k e t : TypeId} (K : Maps.Keyed P k) (ht : P.underlying t = some (.map k e)) (he : P.underlying e = some .string) {w : World} (hz : (zeroValue e).run P w = .ok (.string ⟨#[]⟩) w) {b n : Nat} {D : DataW Unit}
  (h1 : w.ownsMap P k (plainElem P e) b n D) {key : Value} {kl : Lit} (T7 : keyOf P k key = some kl) {s : List UInt8} (h2 : D.atKey kl (.lit (.string [])) = .lit (.string s)) :
  (Instr.lookup t (.map (some b)) key false).run P w = .ok (.string ⟨s.toArray⟩) w := by
 obtain ⟨x, ps, hr, hx⟩ := h1.lookup K ht hz (plainElem_string he (by simp [maxLen, ByteArray.size])) T7
 obtain ⟨y, rfl, hz⟩ := IL he hx
 have h4 := (Prod.mk.inj hz).1
 refine hr.trans ?_
 have h5 : (DataW.lit (H := Unit) (.string y.data.toList)) = .lit (.string s) := by rw [← h4]; exact h2
 injection h5 with h5
 injection h5 with h5
 rw [← h5]
theorem Met.look {w : World} {b n : Nat} {f : Int → List UInt8} (h : Met w b n f) {v : Int} (hv : dB v) :
  (Instr.lookup 117 (.map (some b)) (.int .i64 v) false).run Tryz.prog w = .ok (.string ⟨(f v).toArray⟩) w := by
 obtain ⟨D, h1, h2⟩ := h
 exact KJ (Maps.int_keyed Tryz.underlying3) Tryz.underlying117 Tryz.underlying9 (Wu w) h1 (OW hv) (h2 v hv)
theorem qu {D : DataW Unit} (hD : Maps.IsMap D) {v x : Int} {d : DataW Unit} {f : Int → List UInt8} {s : List UInt8} (hd : d = .lit (.string s)) (h : dB x → D.atKey (.int .i64 x) (.lit (.string [])) = .lit (.string (f x))) (hx : dB x) :
  (D.put (.int .i64 v) d).atKey (.int .i64 x) (.lit (.string [])) = .lit (.string (if x = v then s else f x)) := by
 by_cases e : x = v
 ·subst e
  rw [if_pos rfl, Maps.atKey_put_same hD (by simp [WideAt.IsKeyLit]), hd]
 ·rw [if_neg e, Maps.atKey_put_other (by simpa using e), h hx]
theorem CM (w : World) {ops : Array Oper} {rest : List Oper} {o : Oper} {a : Act} {Q : Exit → Act → World → Prop} (hg : o.guard = none) (m x y : Operand) (Jy : o.op = Op.mapUpdate 117 m x y)
  (b n : Nat) (f : Int → List UInt8) (hm : a.eval m = .map (some b)) (h : Met w b n f) (hn : n < maxLen) (v : Int) (hx : a.eval x = .int .i64 v) (hv : dB v) (s : ByteArray) (hy : a.eval y = .string s) (hs : s.size ≤ maxLen)
  (hK : ∀ w', Met w' b (n + 1) (fun x => if x = v then s.data.toList else f x) → Fr [b] w w' → wpList Tryz.prog ops Q rest (a.put o.dst undef) w') :
  wpList Tryz.prog ops Q (o :: rest) a w := by
 obtain ⟨D, h1, h2⟩ := h
 refine wpList_mapUpdate_own w hg m x y 117 Jy 3 9 (Maps.int_keyed Tryz.underlying3) Tryz.underlying117 _ b n D hm h1 hn _ _ (.int .i64 v) hx hy (OW hv) (.lit (.string s.data.toList)) []
  (plainElem_string Tryz.underlying9 hs) ?_
 intro w' g1 g2
 exact hK w' ⟨_, g1, fun x hx => qu h1.isMap rfl (fun hr => h2 x hr) hx⟩ ((Fr.refl _ w).grown g2 (fun k hk => by cases hk; exact .inl (by simp)))
end Go.Proofs.YtpjbaobgnhjgoaaGreat
