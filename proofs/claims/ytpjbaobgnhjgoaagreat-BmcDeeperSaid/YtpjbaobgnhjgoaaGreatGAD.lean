/- Parts of a proof. -/
import Derived.Test.YtpjbaobgnhjgoaaGreatGAC
set_option linter.unusedVariables false
set_option linter.unusedSimpArgs false
namespace Go.Proofs.YtpjbaobgnhjgoaaGreat
open Go.RowKit
theorem aK.swap {w : World} {L : aH} {S : Sv} (h : aK w L S) {n i j : Nat} (hn : n < L.cs.length) (hi : i < (L.cs[n]!).lits.length) (hj : j < (L.cs[n]!).lits.length) {g : Nat} (hg : (L.cs[n]!).A = some ⟨g, 0, none⟩) :
  ∃ L', aK ((w.setCell ⟨g, i, none⟩ (.int .i64 ((L.cs[n]!).lits[j]!))).setCell ⟨g, j, none⟩ (.int .i64 ((L.cs[n]!).lits[i]!))).drew L' (S.dH n (cj (L.cs[n]!).lits i j)) ∧ L.ext L' w ∧
   Fr (L.own w) w ((w.setCell ⟨g, i, none⟩ (.int .i64 ((L.cs[n]!).lits[j]!))).setCell ⟨g, j, none⟩ (.int .i64 ((L.cs[n]!).lits[i]!))).drew ∧ L'.cs = L.cs.set n { L.cs[n]! with lits := cj (L.cs[n]!).lits i j } ∧ L'.tL = L.tL := by
 have hr := h.nK n hn
 have TD := hr
 rw [hg] at TD
 have hI := ((TD.cV i ((L.cs[n]!).lits[j]!)).cV j ((L.cs[n]!).lits[i]!)).drew
 have hf : Fr [g] w ((w.setCell ⟨g, i, none⟩ (.int .i64 ((L.cs[n]!).lits[j]!))).setCell ⟨g, j, none⟩ (.int .i64 ((L.cs[n]!).lits[i]!))).drew := (((Fr.refl [g] w).setCell (.inl (by simp)) _).setCell (.inl (by simp)) _).drew
 obtain ⟨L', h1, h2, h3, h4, h5, h6, h7⟩ := h.Rk hn (ls := cj (L.cs[n]!).lits i j) (F := [g]) (by rw [hg]; exact hI) (eO _ _ _) hf (fun k hk _ => by
  simp at hk
  subst hk
  exact h.t8 n hn k (by rw [hg]; simp [ah]))
 exact ⟨L', h1, h2, h3, h4, h7⟩
set_option maxRecDepth 100000 in
set_option maxHeartbeats 8000000 in
theorem zH (w : World) (L : aH) (S : Sv) (h : aK w L S) (m : Nat) (ok : S.Ok (m + 1)) (n : Nat) (hn : n < S.list.length) (off : Int) :
  Calls Tryz.prog 137 #[.pointer (some ⟨L.a, 0, none⟩), .int .i64 n, .int .i64 off] w (me (.tuple #[.bool (S.cF n off).2.1, .bool (S.cF n off).2.2]) (S.cF n off).1 L w) := by
 have qf : n < L.cs.length := by rw [h.lU]; exact hn
 have fm := h.nS qf
 obtain ⟨gc, gY, x0, -, -⟩ := h.nR qf
 have fJ := h.nK n qf
 have JA := ok.ln n
 have ug := ok.lb n
 have iq := fun k hk => ok.lit (n := n) (k := k) hk
 rw [fm] at JA ug iq
 simp only [Cw.rc] at JA ug iq
 have qN := aa (fun i j g h1 h2 h3 => h.swap (i := i) (j := j) (g := g) qf h1 h2 h3)
 obtain ⟨⟨A, c, l, b, ac⟩, hx⟩ : ∃ x, L.cs[n]! = x := ⟨_, rfl⟩
 rw [hx] at fm x0 fJ JA ug iq qN
 simp only [Cw.rc] at fm x0 fJ JA ug iq qN
 have jM := aa fJ
 have HH := aa h
 have kQ := aa ok
 have HVL := ok.vl
 have vq := ok.ll
 obtain ⟨c0, -, -, c3, -⟩ := h.cells
 rw [gY] at c3
 have th := aa c0
 have Sh := aa (show (S.rc n).lits = l by rw [fm])
 obtain ⟨VF, hVF⟩ : ∃ VF, S.cF n off = VF := ⟨_, rfl⟩
 have Sc := aa hVF
 rw [hVF]
 have l8 : Hid (∀ (S' : Sv) (r1 r2 : Bool), VF = (S', r1, r2) → ∀ W L', aK W L' S' → L.ext L' w → Fr (L.own w) w W → me (.tuple #[.bool VF.2.1, .bool VF.2.2]) VF.1 L w (.returned (.tuple #[.bool r1, .bool r2])) W) := fun S' r1 r2 e W L' g1 g2 g3 => by
  subst e
  exact ⟨rfl, L', g1, g2, g3⟩
 have QQ := aa hn
 have FX := h.lU
 have aij : Hid (L.cs.length = S.list.length) := FX
 clear hVF fm fJ h hx
 by_cases JD : l.length = 0
 ·have U3 : Hid (VF = (S, false, true)) := (by rw [← Sc.out]; unfold Sv.cF; rw [if_pos (by rw [Sh.out]; exact JD)] : VF = (S, false, true))
  have F0 := aa (fun W hW => l8.out S false true U3.out W L (HH.out.keep hW) (aH.bX _ _) (hW.mono (fun k hk => by cases hk)))
  have hd : ((l.length : Int) == 0) = true := by simp [JD]
  clear Sc U3 l8 qN
  go_enter Tryz.func137, Tryz.ntmps137
  go_wp2_with fail
  go_ret2
  exact F0.out _ (Fr.refl _ _)
 ·have oS : 2 ≤ l.length := by omega
  have X7 : 0 < l.length := by omega
  have alP : 1 < l.length := by omega
  have hd : ((l.length : Int) == 0) = false := by rw [beq_eq_false_iff_ne]; omega
  have Jc : Hid (VF = (S.ch n off).eY n) := (by rw [← Sc.out]; unfold Sv.cF; rw [if_neg (by rw [Sh.out]; exact JD)] : VF = (S.ch n off).eY n)
  obtain ⟨gb, hA, ru⟩ := jM.out.pos (i := 0) (by omega)
  subst hA
  have CA := jM.out.cell (i := 0) (by omega)
  have IR := jM.out.cell (i := 1) (by omega)
  have fr0 := jM.out.frozen 0
  have fr1 := jM.out.frozen 1
  have Fa := aa iq
  clear iq Sc
  by_cases sd : l[0]! = off
  ·have HT : Hid (S.ch n off = S.dH n (cj l 0 1)) := (by unfold Sv.ch; rw [Sh.out, if_pos sd] : S.ch n off = S.dH n (cj l 0 1))
   have hto := kQ.out.ch n off
   have hts := Sv.mq S n off
   rw [HT.out] at hto hts Jc
   have XI : ((S.dH n (cj l 0 1)).rc n).lits = cj l 0 1 := by rw [Sv.jU, if_pos ⟨rfl, QQ.out⟩]
   have Ay : (cj l 0 1)[0]! = l[1]! := by rw [ko (by omega) (by omega) (by omega)]; simp
   obtain ⟨y0, jJ⟩ : ∃ y, l[0]! = y := ⟨_, rfl⟩
   obtain ⟨y1, gx⟩ : ∃ y, l[1]! = y := ⟨_, rfl⟩
   have Hj := Fa.out 1 (by omega)
   obtain ⟨L1, g1, g2, g3, g4, g5⟩ := qN.out 0 1 gb (by omega) (by omega) rfl
   have Qq := ((jM.out.cV 0 l[1]!).cV 1 l[0]!).drew.cell (i := 0) (by simp; omega)
   rw [gx] at Ay Hj
   rw [jJ, gx] at g1 g3 Qq
   rw [jJ] at CA sd
   rw [gx] at IR
   have Qq : ((w.setCell ⟨gb, 0, none⟩ (.int .i64 y1)).setCell ⟨gb, 1, none⟩ (.int .i64 y0)).drew.cell? ⟨gb, 0, none⟩ = some (.int .i64 y1) := by
    rw [Qq]
    simp only [ae]
    rw [List.getElem?_set_ne (by omega), List.getElem?_set_self (by omega)]
    rfl
   have hb : (y0 == off) = true := by simp [sd]
   have G1 := aa g1
   have G2 := aa g2
   have G3 := aa g3
   have CJ := aa Qq
   have Nd := aa hto
   have U4 := aa hts
   have Va := aa XI
   have JQ := aa Ay
   clear g1 g2 g3 g4 g5 Qq hto hts XI Ay sd jJ gx HT
   go_enter Tryz.func137, Tryz.ntmps137
   go_upto_region 5 with fail
   go_region
   go_upto_region 6 with fail
   obtain ⟨W1, ik⟩ : ∃ W, ((w.setCell ⟨gb, 0, none⟩ (.int .i64 y1)).setCell ⟨gb, 1, none⟩ (.int .i64 y0)).drew = W := ⟨_, rfl⟩
   rw [ik] at G1 G3 CJ ⊢
   obtain ⟨S1, Cz⟩ : ∃ S1, S.dH n (cj l 0 1) = S1 := ⟨_, rfl⟩
   rw [Cz] at G1 Jc Nd U4 Va
   rw [← Va.out] at JQ
   clear ik Cz Va c0 c3 x0 CA IR fr0 fr1 qN jM hb hd HH
   have hT := U4.out.1
   have jZ : n < S1.list.length := by rw [U4.out.2.2.1]; exact QQ.out
   have rM := aa jZ
   have c0 := G1.out.cells.1
   rw [G2.out.1] at c0
   have NQ := aa c0
   have Nf := aa Nd.out.small
   have EZ := aa (fun u : Ext W1 => dt u.v L1.tL S1.T (G1.out.tr.fr u.fr (by simp)) y1 (by omega) (by omega) Nf.out)
   obtain ⟨v, hv⟩ : ∃ v, S1.T.km y1 = v := ⟨_, rfl⟩
   have EX := aa hv
   simp only [hv] at EZ
   have e0 := Ext.cell c0
   have ey := Ext.cell CJ.out
   clear hv hT jZ
   by_cases hp : 0 < v
   ·have hd : decide (0 < v) = true := decide_eq_true hp
    have vU : Hid (VF = (S1, true, true)) := (by
     rw [Jc.out]
     unfold Sv.eY
     simp only [JQ.out]
     rw [if_pos (by unfold Sv.val; rw [EX.out]; omega)] : VF = (S1, true, true))
    refine al (by kernel_rfl) (by kernel_rfl) ?_
    repeat (go_big_quiet_step (exact aV (EZ.out _)))
    refine wpQuiet_nil ?_
    rintro w2 ⟨u2, bJ⟩
    have aT : Hid (Fr [] W1 w2) := bJ ▸ u2.fr
    clear bJ u2
    have FF := aa (l8.out _ true true vU.out w2 L1 (G1.out.keep aT.out) G2.out (G3.out.ag (aT.out.mono (fun k hk => by cases hk))))
    clear e0 ey c0
    go_wp2_with fail
    go_ret2
    exact FF.out
   ·have hd : decide (0 < v) = false := decide_eq_false hp
    refine al (by kernel_rfl) (by kernel_rfl) ?_
    repeat (go_big_quiet_step (exact aV (EZ.out _)))
    refine wpQuiet_nil ?_
    rintro w2 ⟨u2, bJ⟩
    have aT : Hid (Fr [] W1 w2) := bJ ▸ u2.fr
    clear bJ u2
    clear e0 ey c0
    have VK := aa (G1.out.keep aT.out)
    have ve := qW w2 L1 S1 VK.out (m + 1) Nd.out n rM.out
    rw [G2.out.1] at ve
    have ve := aa ve
    go_wp2_with fail
    refine ve.out.mono ?_
    clear ve
    rintro e w3 hc3
    rcases hc3 with ⟨rfl, hq, cY⟩ | ⟨rfl, hq, L2, h2, iW, cd⟩
    ·have CF := aa hq
     have cR := aa (aT.out.ag cY)
     have VJ := aa (VK.out.keep cY)
     clear hq cY VK
     have c0 := cR.out.av NQ.out
     have cy := cR.out.av CJ.out
     have e0 := Ext.cell c0
     have ey := Ext.cell cy
     have EY := aa (fun u : Ext w3 => dt u.v L1.tL S1.T (VJ.out.tr.fr u.fr (by simp)) y1 (by omega) (by omega) Nf.out)
     simp only [EX.out] at EY
     by_cases XS : v < 0
     ·have sS : decide (v < 0) = true := decide_eq_true XS
      have vU : Hid (VF = (S1, true, false)) := (by
       rw [Jc.out]
       unfold Sv.eY
       simp only [JQ.out]
       rw [if_neg (by unfold Sv.val; rw [EX.out]; omega), if_neg (by rw [CF.out]; simp), if_pos (by unfold Sv.val; rw [EX.out]; omega)] : VF = (S1, true, false))
      go_upto_region 10 with fail
      refine al (by kernel_rfl) (by kernel_rfl) ?_
      repeat (go_big_quiet_step (exact aV (EY.out _)))
      refine wpQuiet_nil ?_
      rintro w4 ⟨u2, bJ⟩
      have bZ : Hid (Fr [] w3 w4) := bJ ▸ u2.fr
      clear bJ u2
      have gS := aa (cR.out.ag bZ.out)
      have FF := aa (l8.out _ true false vU.out w4 L1 (VJ.out.keep bZ.out) G2.out (G3.out.ag (gS.out.mono (fun k hk => by cases hk))))
      clear e0 ey c0 cy
      go_wp2_with fail
      go_ret2
      exact FF.out
     ·have sS : decide (v < 0) = false := decide_eq_false XS
      go_upto_region 10 with fail
      refine al (by kernel_rfl) (by kernel_rfl) ?_
      repeat (go_big_quiet_step (exact aV (EY.out _)))
      refine wpQuiet_nil ?_
      rintro w4 ⟨u2, bJ⟩
      have bZ : Hid (Fr [] w3 w4) := bJ ▸ u2.fr
      clear bJ u2
      have gS := aa (cR.out.ag bZ.out)
      have G4 := aa (VJ.out.keep bZ.out)
      have Jn := aa (gS.out.av NQ.out)
      have ZJ := aa (gS.out.av CJ.out)
      have nX : Hid (S1.T.lits.length < 17592186044416) := by
       obtain ⟨R, hR⟩ := Nd.out.tr
       have h1 := hR.gq
       have h2 : S1.T.lits.length = R.length := by rw [hR.lits, ax]
       have h3 := Nd.out.vl
       show _ < _
       omega
      have Vc := aa (fun W (hW : Fr [] w4 W) => qp W L1.tL S1.T (G4.out.tr.fr hW (by simp)) y1 ((n : Int) + 1) (by omega) (by omega) nX.out)
      have yy : n < 2199023255552 := by have := QQ.out; omega
      have ep : IntKind.i64.wrap ((n : Int) + 1) = (n : Int) + 1 := IntWalk.i64_in _ (by omega)
      clear e0 ey c0 cy
      go_upto_region 12 with fail
      refine wp_region_noPanic ?_
      refine bj (fun w' : World => Fr [] w4 w') 9 (by kernel_rfl) ((Fr.refl [] w4).drew) (fun dd => ?_)
      apply TB 9 [(0, []), (1, []), (2, []), (3, [3, 9]), (4, []), (5, []), (6, [6, 9]), (7, []), (8, [])]; kernel_rfl; rfl; · (repeat (apply ef; rfl; rfl; (· intro w aY; (try (have aY := aY.resolve_left (aF _ _); (have s0 := aY.av Jn.out; have s1 := aY.av ZJ.out))); go_simp <;> with_reducible rfl); try simp only [Act.put, q5, q6, q7])); exact ee
      exact dd; intro dd
      refine R2 9 (by kernel_rfl) (by rfl) dd fun K hK ap => ?_
      (go_simp; refine (Vc.out _ ap).mono ?_; rintro e w5 ⟨rfl, tL2, O6, Tg, Tf⟩; dsimp only)
      refine hK.out _ _ (.inl rfl) (fun ix => ?_)
      clear hK K
      try simp only [Act.put, q5, q6, q7]
      refine az (by kernel_rfl) ?_ _
      refine NoPanic.normal ?_
      have g4 := G4.out.keep ap
      obtain ⟨L5, h5, sP, dK⟩ := g4.tz O6 Tg Tf
      have vU : Hid (VF = (S1.put y1 (n + 1), true, true)) := (by
       rw [Jc.out]
       unfold Sv.eY
       simp only [JQ.out]
       rw [if_neg (by unfold Sv.val; rw [EX.out]; omega), if_neg (by rw [CF.out]; simp), if_neg (by unfold Sv.val; rw [EX.out]; omega)] : VF = (S1.put y1 (n + 1), true, true))
      have hz : w.heap.size ≤ w4.heap.size := aE G3.out.size gS.out.size
      have hE : L.ext L5 w := by
       refine ⟨sP.1.trans G2.out.1, sP.2.1.trans G2.out.2.1, fun k hk e => G2.out.2.2 k hk ?_⟩
       have := sP.2.2 k (aQ hk (aE hz ap.size)) (e.trans G2.out.2.1.symm)
       exact this.trans G2.out.2.1
      have hF : Fr (L.own w) w w5 := aH.aI G2.out G3.out (((gS.out.ag ap).mono (fun k hk => by cases hk)).trans dK (fun k hk => by
       rw [aH.bI] at hk
       rcases bl k W1.heap.size with hl | hl
       ·exact .inl (aH.bI.2 ⟨hl, hk.2⟩)
       ·exact .inr hl))
      have FF := aa (l8.out _ true true vU.out w5 L5 h5 hE hF)
      go_wp2_with fail
      go_ret2
      exact FF.out
    ·have vU : Hid (VF = ((S1.cP n).1, false, true)) := (by
      rw [Jc.out]
      unfold Sv.eY
      simp only [JQ.out]
      rw [if_neg (by unfold Sv.val; rw [EX.out]; omega), if_pos hq] : VF = ((S1.cP n).1, false, true))
     have hz : w.heap.size ≤ w2.heap.size := aE G3.out.size aT.out.size
     have hE : L.ext L2 w := by
      refine ⟨iW.1.trans G2.out.1, iW.2.1.trans G2.out.2.1, fun k hk e => G2.out.2.2 k hk ?_⟩
      have := iW.2.2 k (aQ hk hz) (e.trans G2.out.2.1.symm)
      exact this.trans G2.out.2.1
     have hF : Fr (L.own w) w w3 := aH.aI G2.out G3.out ((aT.out.mono (fun k hk => by cases hk)).trans cd (fun k hk => by
      rw [aH.bI] at hk
      rcases bl k W1.heap.size with hl | hl
      ·exact .inl (aH.bI.2 ⟨hl, hk.2⟩)
      ·exact .inr hl))
     have FF := aa (l8.out _ false true vU.out w3 L2 h2 hE hF)
     clear hq h2 iW cd
     go_wp2_with fail
     go_ret2
     exact FF.out
  ·have HT : Hid (S.ch n off = S) := (by unfold Sv.ch; rw [Sh.out, if_neg sd] : S.ch n off = S)
   rw [HT.out] at Jc
   obtain ⟨y1, gx⟩ : ∃ y, l[0]! = y := ⟨_, rfl⟩
   have Hj := Fa.out 0 (by omega)
   rw [gx] at Hj CA sd
   have hb : (y1 == off) = false := by simp [sd]
   have CJ := aa CA
   have JQ : Hid ((S.rc n).lits[0]! = y1) := (by rw [Sh.out]; exact gx : (S.rc n).lits[0]! = y1)
   have G1 := HH
   have G2 := aa (aH.bX L w)
   have G3 : Hid (Fr (L.own w) w w) := Fr.refl _ _
   have Nd := kQ
   have U4 : Hid (S.T = S.T ∧ S.vars = S.vars ∧ S.list.length = S.list.length ∧ S.head = S.head ∧ S.H = S.H ∧ S.watch = S.watch) := ⟨rfl, rfl, rfl, rfl, rfl, rfl⟩
   obtain ⟨L1, vx⟩ : ∃ L1, L1 = L := ⟨_, rfl⟩
   have G1 : Hid (aK w L1 S) := by rw [vx]; exact HH.out
   have G2 : Hid (L.ext L1 w) := by rw [vx]; exact aH.bX L w
   obtain ⟨W1, ik⟩ : ∃ W1, W1 = w := ⟨_, rfl⟩
   obtain ⟨S1, Cz⟩ : ∃ S1, S1 = S := ⟨_, rfl⟩
   clear sd gx HT qN jM Fa
   go_enter Tryz.func137, Tryz.ntmps137
   go_upto_region 6 with fail
   rw [← Cz] at Nd
   have U4 : Hid (S1.T = S.T ∧ S1.vars = S.vars ∧ S1.list.length = S.list.length ∧ S1.head = S.head ∧ S1.H = S.H ∧ S1.watch = S.watch) := by rw [Cz]; exact ⟨rfl, rfl, rfl, rfl, rfl, rfl⟩
   have G1 : Hid (aK W1 L1 S1) := by rw [ik, Cz]; exact G1.out
   have G3 : Hid (Fr (L.own w) w W1) := by rw [ik]; exact G3.out
   have CJ : Hid (W1.cell? ⟨gb, 0, none⟩ = some (.int .i64 y1)) := by rw [ik]; exact CJ.out
   have JQ : Hid ((S1.rc n).lits[0]! = y1) := by rw [Cz]; exact JQ.out
   have Jc : Hid (VF = S1.eY n) := by rw [Cz]; exact Jc.out
   rw [show Code.wp _ _ _ _ w = Code.wp _ _ _ _ W1 from by rw [ik]]
   clear ik Cz vx c0 c3 x0 CA IR fr0 fr1 hb hd HH
   have hT := U4.out.1
   have jZ : n < S1.list.length := by rw [U4.out.2.2.1]; exact QQ.out
   have rM := aa jZ
   have c0 := G1.out.cells.1
   rw [G2.out.1] at c0
   have NQ := aa c0
   have Nf := aa Nd.out.small
   have EZ := aa (fun u : Ext W1 => dt u.v L1.tL S1.T (G1.out.tr.fr u.fr (by simp)) y1 (by omega) (by omega) Nf.out)
   obtain ⟨v, hv⟩ : ∃ v, S1.T.km y1 = v := ⟨_, rfl⟩
   have EX := aa hv
   simp only [hv] at EZ
   have e0 := Ext.cell c0
   have ey := Ext.cell CJ.out
   clear hv hT jZ
   by_cases hp : 0 < v
   ·have hd : decide (0 < v) = true := decide_eq_true hp
    have vU : Hid (VF = (S1, true, true)) := (by
     rw [Jc.out]
     unfold Sv.eY
     simp only [JQ.out]
     rw [if_pos (by unfold Sv.val; rw [EX.out]; omega)] : VF = (S1, true, true))
    refine al (by kernel_rfl) (by kernel_rfl) ?_
    repeat (go_big_quiet_step (exact aV (EZ.out _)))
    refine wpQuiet_nil ?_
    rintro w2 ⟨u2, bJ⟩
    have aT : Hid (Fr [] W1 w2) := bJ ▸ u2.fr
    clear bJ u2
    have FF := aa (l8.out _ true true vU.out w2 L1 (G1.out.keep aT.out) G2.out (G3.out.ag (aT.out.mono (fun k hk => by cases hk))))
    clear e0 ey c0
    go_wp2_with fail
    go_ret2
    exact FF.out
   ·have hd : decide (0 < v) = false := decide_eq_false hp
    refine al (by kernel_rfl) (by kernel_rfl) ?_
    repeat (go_big_quiet_step (exact aV (EZ.out _)))
    refine wpQuiet_nil ?_
    rintro w2 ⟨u2, bJ⟩
    have aT : Hid (Fr [] W1 w2) := bJ ▸ u2.fr
    clear bJ u2
    clear e0 ey c0
    have VK := aa (G1.out.keep aT.out)
    have ve := qW w2 L1 S1 VK.out (m + 1) Nd.out n rM.out
    rw [G2.out.1] at ve
    have ve := aa ve
    go_wp2_with fail
    refine ve.out.mono ?_
    clear ve
    rintro e w3 hc3
    rcases hc3 with ⟨rfl, hq, cY⟩ | ⟨rfl, hq, L2, h2, iW, cd⟩
    ·have CF := aa hq
     have cR := aa (aT.out.ag cY)
     have VJ := aa (VK.out.keep cY)
     clear hq cY VK
     have c0 := cR.out.av NQ.out
     have cy := cR.out.av CJ.out
     have e0 := Ext.cell c0
     have ey := Ext.cell cy
     have EY := aa (fun u : Ext w3 => dt u.v L1.tL S1.T (VJ.out.tr.fr u.fr (by simp)) y1 (by omega) (by omega) Nf.out)
     simp only [EX.out] at EY
     by_cases XS : v < 0
     ·have sS : decide (v < 0) = true := decide_eq_true XS
      have vU : Hid (VF = (S1, true, false)) := (by
       rw [Jc.out]
       unfold Sv.eY
       simp only [JQ.out]
       rw [if_neg (by unfold Sv.val; rw [EX.out]; omega), if_neg (by rw [CF.out]; simp), if_pos (by unfold Sv.val; rw [EX.out]; omega)] : VF = (S1, true, false))
      go_upto_region 10 with fail
      refine al (by kernel_rfl) (by kernel_rfl) ?_
      repeat (go_big_quiet_step (exact aV (EY.out _)))
      refine wpQuiet_nil ?_
      rintro w4 ⟨u2, bJ⟩
      have bZ : Hid (Fr [] w3 w4) := bJ ▸ u2.fr
      clear bJ u2
      have gS := aa (cR.out.ag bZ.out)
      have FF := aa (l8.out _ true false vU.out w4 L1 (VJ.out.keep bZ.out) G2.out (G3.out.ag (gS.out.mono (fun k hk => by cases hk))))
      clear e0 ey c0 cy
      go_wp2_with fail
      go_ret2
      exact FF.out
     ·have sS : decide (v < 0) = false := decide_eq_false XS
      go_upto_region 10 with fail
      refine al (by kernel_rfl) (by kernel_rfl) ?_
      repeat (go_big_quiet_step (exact aV (EY.out _)))
      refine wpQuiet_nil ?_
      rintro w4 ⟨u2, bJ⟩
      have bZ : Hid (Fr [] w3 w4) := bJ ▸ u2.fr
      clear bJ u2
      have gS := aa (cR.out.ag bZ.out)
      have G4 := aa (VJ.out.keep bZ.out)
      have Jn := aa (gS.out.av NQ.out)
      have ZJ := aa (gS.out.av CJ.out)
      have nX : Hid (S1.T.lits.length < 17592186044416) := by
       obtain ⟨R, hR⟩ := Nd.out.tr
       have h1 := hR.gq
       have h2 : S1.T.lits.length = R.length := by rw [hR.lits, ax]
       have h3 := Nd.out.vl
       show _ < _
       omega
      have Vc := aa (fun W (hW : Fr [] w4 W) => qp W L1.tL S1.T (G4.out.tr.fr hW (by simp)) y1 ((n : Int) + 1) (by omega) (by omega) nX.out)
      have yy : n < 2199023255552 := by have := QQ.out; omega
      have ep : IntKind.i64.wrap ((n : Int) + 1) = (n : Int) + 1 := IntWalk.i64_in _ (by omega)
      clear e0 ey c0 cy
      go_upto_region 12 with fail
      refine wp_region_noPanic ?_
      refine bj (fun w' : World => Fr [] w4 w') 9 (by kernel_rfl) ((Fr.refl [] w4).drew) (fun dd => ?_)
      apply TB 9 [(0, []), (1, []), (2, []), (3, [3, 9]), (4, []), (5, []), (6, [6, 9]), (7, []), (8, [])]; kernel_rfl; rfl; · (repeat (apply ef; rfl; rfl; (· intro w aY; (try (have aY := aY.resolve_left (aF _ _); (have s0 := aY.av Jn.out; have s1 := aY.av ZJ.out))); go_simp <;> with_reducible rfl); try simp only [Act.put, q5, q6, q7])); exact ee
      exact dd; intro dd
      refine R2 9 (by kernel_rfl) (by rfl) dd fun K hK ap => ?_
      (go_simp; refine (Vc.out _ ap).mono ?_; rintro e w5 ⟨rfl, tL2, O6, Tg, Tf⟩; dsimp only)
      refine hK.out _ _ (.inl rfl) (fun ix => ?_)
      clear hK K
      try simp only [Act.put, q5, q6, q7]
      refine az (by kernel_rfl) ?_ _
      refine NoPanic.normal ?_
      have g4 := G4.out.keep ap
      obtain ⟨L5, h5, sP, dK⟩ := g4.tz O6 Tg Tf
      have vU : Hid (VF = (S1.put y1 (n + 1), true, true)) := (by
       rw [Jc.out]
       unfold Sv.eY
       simp only [JQ.out]
       rw [if_neg (by unfold Sv.val; rw [EX.out]; omega), if_neg (by rw [CF.out]; simp), if_neg (by unfold Sv.val; rw [EX.out]; omega)] : VF = (S1.put y1 (n + 1), true, true))
      have hz : w.heap.size ≤ w4.heap.size := aE G3.out.size gS.out.size
      have hE : L.ext L5 w := by
       refine ⟨sP.1.trans G2.out.1, sP.2.1.trans G2.out.2.1, fun k hk e => G2.out.2.2 k hk ?_⟩
       have := sP.2.2 k (aQ hk (aE hz ap.size)) (e.trans G2.out.2.1.symm)
       exact this.trans G2.out.2.1
      have hF : Fr (L.own w) w w5 := aH.aI G2.out G3.out (((gS.out.ag ap).mono (fun k hk => by cases hk)).trans dK (fun k hk => by
       rw [aH.bI] at hk
       rcases bl k W1.heap.size with hl | hl
       ·exact .inl (aH.bI.2 ⟨hl, hk.2⟩)
       ·exact .inr hl))
      have FF := aa (l8.out _ true true vU.out w5 L5 h5 hE hF)
      go_wp2_with fail
      go_ret2
      exact FF.out
    ·have vU : Hid (VF = ((S1.cP n).1, false, true)) := (by
      rw [Jc.out]
      unfold Sv.eY
      simp only [JQ.out]
      rw [if_neg (by unfold Sv.val; rw [EX.out]; omega), if_pos hq] : VF = ((S1.cP n).1, false, true))
     have hz : w.heap.size ≤ w2.heap.size := aE G3.out.size aT.out.size
     have hE : L.ext L2 w := by
      refine ⟨iW.1.trans G2.out.1, iW.2.1.trans G2.out.2.1, fun k hk e => G2.out.2.2 k hk ?_⟩
      have := iW.2.2 k (aQ hk hz) (e.trans G2.out.2.1.symm)
      exact this.trans G2.out.2.1
     have hF : Fr (L.own w) w w3 := aH.aI G2.out G3.out ((aT.out.mono (fun k hk => by cases hk)).trans cd (fun k hk => by
      rw [aH.bI] at hk
      rcases bl k W1.heap.size with hl | hl
      ·exact .inl (aH.bI.2 ⟨hl, hk.2⟩)
      ·exact .inr hl))
     have FF := aa (l8.out _ false true vU.out w3 L2 h2 hE hF)
     clear hq h2 iW cd
     go_wp2_with fail
     go_ret2
     exact FF.out
theorem nQ (w : World) (ty : TypeId) (g c : Nat) (zs : List Int) (dj : Ints w (some ⟨g, 0, none⟩) c zs) (j : Nat) (ad : Addr) (c' : Nat) (ys : List Int) (hr : ∀ k : Nat, k < ys.length → w.cell? (ad.add k) = some (.int .i64 ys[k]!)) (hj : j + ys.length ≤ zs.length) :
  ∃ w', (Builtin.append_ #[22, 22] ty #[.slice (some ⟨g, 0, none⟩) j c, .slice (some ad) ys.length c']).run Tryz.prog w = .ok (.slice (some ⟨g, 0, none⟩) (j + ys.length) c) w' ∧
   Ints w' (some ⟨g, 0, none⟩) c (zs.take j ++ ys ++ zs.drop (j + ys.length)) ∧ Fr [g] w w' := by
 obtain ⟨i0, hi, vK, ow, Co⟩ := info_parts ng
 rcases dj.2 with ⟨h1, _⟩ | ⟨g', cap, cur, hv, hb, hg, hn, hm, hs, ht⟩
 ·simp at h1
 ·simp only [Value.slice.injEq, Option.some.injEq, Addr.mk.injEq, true_and, and_true] at hv
  obtain ⟨rfl, rfl⟩ := hv
  have pG : cur.size = c := by simpa using hs
  have qf : zs.length ≤ c := by simpa using hn
  have lV := run_append_room (P := Tryz.prog) w 22 ty 3 i0 Tryz.underlying22 hi g j c cur hg ad ys.length c' (ys.map (Value.int .i64)) (by rw [ow]; simp) (fun k u hu => by
   simp only [bh, Option.map_eq_some_iff] at hu
   obtain ⟨y, hy, rfl⟩ := hu
   have hk := (List.getElem?_eq_some_iff.1 hy).1
   have := hr k hk
   rw [ae, hy] at this
   exact this) (by simp [Value.oneCell']) (by omega) (by rw [ow]; simp; omega)
  have xf : (cur.toList.take j ++ ys.map (Value.int .i64) ++ cur.toList.drop (j + ys.length)).toArray.size = c := by
   simp only [List.size_toArray, ai, bk, List.length_drop, ax, Array.length_toList]
   omega
  rw [ow] at lV
  simp only [Nat.mul_one, ax] at lV
  refine ⟨_, lV, ⟨by simp, .inr ⟨g, c, _, ?_, hb, setRow_heap w g cur _ 3 _ hg, ?_, hm, ?_, ?_⟩⟩, ⟨rfl, rfl, rfl, by simp, fun k _ hk => setRow_other w g k _ (fun e => hk (by simp [e]))⟩⟩
  ·rfl
  ·simp only [ai, bk, List.length_drop]
   omega
  ·rw [Nat.mul_one]; exact xf
  ·simp only [Nat.mul_one] at ht ⊢
   have hlen : (zs.take j ++ ys ++ zs.drop (j + ys.length)).length = zs.length := by
    simp only [ai, bk, List.length_drop]
    omega
   rw [hlen, bP, bP, List.map_take, List.map_drop, ← ht]
   have e1 : (cur.toList.take zs.length).take j = cur.toList.take j := by rw [List.take_take, iH (by omega)]
   rw [e1]
   have e2 : (cur.toList.take zs.length).drop (j + ys.length) = (cur.toList.drop (j + ys.length)).take (zs.length - (j + ys.length)) := by rw [List.drop_take]
   rw [e2]
   have P1 : (cur.toList.take j).length = j := by rw [bk, Array.length_toList]; omega
   have hL : (cur.toList.take j ++ ys.map (Value.int .i64)).length = j + ys.length := by rw [ai, P1, ax]
   have hT : (cur.toList.take j ++ ys.map (Value.int .i64)).take zs.length = cur.toList.take j ++ ys.map (Value.int .i64) := dh (by rw [hL]; exact hj)
   rw [List.take_append, hL, hT]
theorem jP (w : World) {ops : Array Oper} {rest : List Oper} {o : Oper} {a : Act} {Q : Exit → Act → World → Prop} (ui : o.guard = none) (s x : Operand)
  (ho : o.op = .call { callee := .builtin .append, args := #[s, x], argTypes := #[22, 22] }) (g c j : Nat) (zs : List Int) (hs : a.eval s = .slice (some ⟨g, 0, none⟩) j c) (dj : Ints w (some ⟨g, 0, none⟩) c zs)
  (ad : Addr) (c' : Nat) (y : Int) (hx : a.eval x = .slice (some ad) 1 c') (hy : w.cell? ad = some (.int .i64 y)) (hj : j < zs.length)
  (h : ∀ w', Ints w' (some ⟨g, 0, none⟩) c (zs.take j ++ [y] ++ zs.drop (j + 1)) → Fr [g] w w' → wpList Tryz.prog ops Q rest (a.put o.dst (.slice (some ⟨g, 0, none⟩) (j + 1) c)) w') :
  wpList Tryz.prog ops Q (o :: rest) a w := by
 refine wpList_plain ui fun K hK => ?_
 obtain ⟨w', hr, h2, h3⟩ := nQ w o.type g c zs dj j ad c' [y] (fun k hk => by
  simp at hk
  subst hk
  rw [show ad.add 0 = ad from if_pos rfl]
  exact hy) (by simp; omega)
 unfold Oper.wp execOp
 simp only [bu] at hr h2
 simp only [ho, resolve, invoke, builtin, Sem.run_bind, Sem.run_pure, Result.andThen_ok, List.map_toArray, dW, fX, hs, hx, hr]
 exact hK _ _ (h w' h2 h3)
theorem mv {w : World} {ops : Array Oper} {o : Oper} {a : Act} {K : Act → World → Prop} {Q : Exit → Act → World → Prop} {E : Prop} (ui : o.guard = none) (s x : Operand)
  (ho : o.op = .call { callee := .builtin .append, args := #[s, x], argTypes := #[22, 22] }) (g c j : Nat) (zs : List Int) (hs : a.eval s = .slice (some ⟨g, 0, none⟩) j c) (dj : Ints w (some ⟨g, 0, none⟩) c zs)
  (ad : Addr) (m c' : Nat) (ys : List Int) (hm : ys.length = m) (hx : a.eval x = .slice (some ad) m c') (hr : ∀ k : Nat, k < ys.length → w.cell? (ad.add k) = some (.int .i64 ys[k]!)) (hj : j + ys.length ≤ zs.length)
  (h : ∀ w', Ints w' (some ⟨g, 0, none⟩) c (zs.take j ++ ys ++ zs.drop (j + ys.length)) → Fr [g] w w' → K (a.put o.dst (.slice (some ⟨g, 0, none⟩) (j + m) c)) w') :
  if Region.wanted o (yielded ops a.tmps) = true then Oper.wp Tryz.prog o a w K Q else E := by
 have hw : Region.wanted o (yielded ops a.tmps) = true := by simp [Region.wanted, ui]
 rw [if_pos hw]
 subst hm
 obtain ⟨w', lV, h2, h3⟩ := nQ w o.type g c zs dj j ad c' ys hr hj
 unfold Oper.wp execOp
 simp only [ho, resolve, invoke, builtin, Sem.run_bind, Sem.run_pure, Result.andThen_ok, List.map_toArray, dW, fX, hs, hx, lV]
 exact h w' h2 h3
theorem kp {w : World} {ops : Array Oper} {o : Oper} {a : Act} {K : Act → World → Prop} {Q : Exit → Act → World → Prop} {E : Prop} (ui : o.guard = none) (s x : Operand)
  (ho : o.op = .call { callee := .builtin .append, args := #[s, x], argTypes := #[22, 22] }) (A : Option Addr) (c : Nat) (xs : List Int) (n : Nat) (hs : a.eval s = .slice A n c) (hn : n = xs.length) (dj : Ints w A c xs)
  (B : Option Addr) (m c' : Nat) (ys : List Int) (hm : ys.length = m) (hx : a.eval x = .slice B m c') (hr : Ints w B c' ys) (hlen : xs.length + ys.length ≤ 17592186044416)
  (h : ∀ A' cap w', Ints w' A' cap (xs ++ ys) → Fr (ah A) w w' → (∀ k, k ∈ ah A' → k ∈ ah A ∨ k = w.heap.size) → w.heap.size ≤ w'.heap.size → K (a.put o.dst (.slice A' (n + m) cap)) w') :
  if Region.wanted o (yielded ops a.tmps) = true then Oper.wp Tryz.prog o a w K Q else E := by
 have hw : Region.wanted o (yielded ops a.tmps) = true := by simp [Region.wanted, ui]
 rw [if_pos hw]
 subst hn hm
 rcases hr.form with ⟨rfl, rfl, rfl⟩ | ⟨g, rfl, hg, _, _⟩
 ·obtain ⟨i0, hi, vK, ow, Co⟩ := info_parts ng
  have hc : xs.length ≤ c := by
   rcases dj.form with ⟨_, _, rfl⟩ | ⟨_, _, _, h1, _⟩
   ·simp
   ·exact h1
  have lV : (Builtin.append_ #[22, 22] o.type #[.slice A xs.length c, .slice none 0 0]).run Tryz.prog w = .ok (.slice A xs.length c) w := by
   cases A <;> simp [Builtin.append_, run_underlying Tryz.underlying22, sizeOf, typeInfo, hi, Builtin.lenOf, hc, Builtin.firstCells, loadCells, storeCells]
  unfold Oper.wp execOp
  simp only [List.length_nil] at hx
  simp only [ho, resolve, invoke, builtin, Sem.run_bind, Sem.run_pure, Result.andThen_ok, List.map_toArray, dW, fX, hs, hx, lV]
  have := h A c w (by rw [dJ]; exact dj) (Fr.refl _ _) (fun k hk => .inl hk) (ao _)
  rw [List.length_nil, Nat.add_zero] at this
  exact this
 ·have nW := fun j (hj : j < ys.length) => hr.cell hj
  obtain ⟨A', cap, w', lV, h2, h3, h4, h5, h6, h7⟩ := gK w 22 o.type 3 (.int .i64 0) 1 8 Tryz.underlying22 ng rfl (by decide) A c xs.length (xs.map (Value.int .i64)) dj ⟨g, 0, none⟩ ys.length c' (ys.map (Value.int .i64)) (by simp) (fun j u hu => by
   simp only [bh, Option.map_eq_some_iff] at hu
   obtain ⟨y, hy, rfl⟩ := hu
   have hj := (List.getElem?_eq_some_iff.1 hy).1
   have := nW j hj
   rw [ae, hy] at this
   rw [dM, cZ]
   exact this) (by simp [Value.oneCell']) (by unfold maxLen; omega) (by omega)
  unfold Oper.wp execOp
  simp only [ho, resolve, invoke, builtin, Sem.run_bind, Sem.run_pure, Result.andThen_ok, List.map_toArray, dW, fX, hs, hx, lV]
  refine h A' cap w' ?_ h3 h4 h5
  unfold Ints
  rw [ai, bP]
  exact h2
def aH.has (L : aH) (k : Nat) : Prop := k = L.a ∨ k ∈ L.tL.fp ∨ k ∈ L.hL.fp ∨ k ∈ ah L.cA ∨ k ∈ ah L.wA ∨ k ∈ ah L.pA ∨ k ∈ ah L.mA ∨ k ∈ ah L.oA ∨ (∃ n : Nat, n < L.cs.length ∧ k ∈ ah (L.cs[n]!).A) ∨ (∃ c : Nat, c < L.ws.length ∧ k ∈ ah (L.ws[c]!).A)
theorem aK.ij {w : World} {L : aH} {S : Sv} (h : aK w L S) {k : Nat} (hk : L.has k) : (L.cv k).1 = L.id := by
 rcases hk with rfl | hk | hk | hk | hk | hk | hk | hk | ⟨n, hn, hk⟩ | ⟨c, hc, hk⟩
 ·rw [h.t0]
 ·rw [h.t1 k hk]
 ·rw [h.t2 k hk]
 ·rw [h.t3 k hk]
 ·rw [h.t4 k hk]
 ·rw [h.t5 k hk]
 ·rw [h.t6 k hk]
 ·rw [h.t7 k hk]
 ·rw [h.t8 n hn k hk]
 ·rw [h.t9 c hc k hk]
theorem aK.FE {w : World} {L : aH} {S : Sv} (h : aK w L S) (Xe : Nat → Nat × Nat × Nat) (hh : ∀ k, L.has k → Xe k = L.cv k) : aK w { L with cv := Xe } S := by
 refine ⟨h.obj, h.tr, h.hp, h.gy, h.yP, h.yN, h.sG, h.rws, h.sE, h.vh, h.rV, h.nK, h.pN, ?_, fun k hk => ?_, fun k hk => ?_, fun k hk => ?_, fun k hk => ?_, fun k hk => ?_, fun k hk => ?_, fun k hk => ?_, fun n hn k hk => ?_, fun n hn k hk => ?_⟩
 ·exact (hh _ (.inl rfl)).trans h.t0
 ·exact (hh _ (.inr (.inl hk))).trans (h.t1 k hk)
 ·exact (hh _ (.inr (.inr (.inl hk)))).trans (h.t2 k hk)
 ·exact (hh _ (.inr (.inr (.inr (.inl hk))))).trans (h.t3 k hk)
 ·exact (hh _ (.inr (.inr (.inr (.inr (.inl hk)))))).trans (h.t4 k hk)
 ·exact (hh _ (.inr (.inr (.inr (.inr (.inr (.inl hk))))))).trans (h.t5 k hk)
 ·exact (hh _ (.inr (.inr (.inr (.inr (.inr (.inr (.inl hk)))))))).trans (h.t6 k hk)
 ·exact (hh _ (.inr (.inr (.inr (.inr (.inr (.inr (.inr (.inl hk))))))))).trans (h.t7 k hk)
 ·exact (hh _ (.inr (.inr (.inr (.inr (.inr (.inr (.inr (.inr (.inl ⟨n, hn, hk⟩)))))))))).trans (h.t8 n hn k hk)
 ·exact (hh _ (.inr (.inr (.inr (.inr (.inr (.inr (.inr (.inr (.inr ⟨n, hn, hk⟩)))))))))).trans (h.t9 n hn k hk)
theorem aK.take {w : World} {L : aH} {S : Sv} (h : aK w L S) {c : Nat} (hc : c < L.ws.length) :
  ∃ gw, L.wA = some ⟨gw, 0, none⟩ ∧ gw < w.heap.size ∧ w.frozen? ⟨gw, c, none⟩ = false ∧ ∃ L', aK (w.setCell ⟨gw, c, none⟩ (.slice none 0 0)) L' (S.bS c []) ∧ L.ext L' w ∧ Fr (L.own w) w (w.setCell ⟨gw, c, none⟩ (.slice none 0 0)) ∧
   Ints (w.setCell ⟨gw, c, none⟩ (.slice none 0 0)) (L.ws[c]!).A (L.ws[c]!).c (bv (L.ws[c]!).l) ∧ ∀ k, k ∈ ah (L.ws[c]!).A → (L'.cv k).1 ≠ L'.id ∧ k ∈ L.own w := by
 have fJ := h.pN c hc
 obtain ⟨gw, h1, h2, h3, L1, h4, h5, h6, h7⟩ := h.bS hc (A' := none) (c' := 0) (l' := []) (F := []) (w1 := w) (Ints.nil w) (Fr.refl _ _) (fun k hk => by cases hk) (fun k hk => by simp [ah] at hk)
 refine ⟨gw, h1, h2, h3, ?_⟩
 simp only [List.length_nil] at h4 h6
 have jy := h.t9 c hc
 have xj : ∀ k, k ∈ ah (L.ws[c]!).A → ¬ L1.has k := fun k hk hh => by
  have e1 := jy k hk
  subst h7
  rcases hh with rfl | hh | hh | hh | hh | hh | hh | hh | ⟨n, hn, hh⟩ | ⟨c', V5, hh⟩
  ·rw [h.t0] at e1; simp at e1
  ·rw [h.t1 k hh] at e1; simp at e1
  ·rw [h.t2 k hh] at e1; simp at e1
  ·rw [h.t3 k hh] at e1; simp at e1
  ·rw [h.t4 k hh] at e1; simp at e1
  ·rw [h.t5 k hh] at e1; simp at e1
  ·rw [h.t6 k hh] at e1; simp at e1
  ·rw [h.t7 k hh] at e1; simp at e1
  ·rw [h.t8 n hn k hh] at e1; simp at e1
  ·simp only [ak] at V5
   simp only at hh
   rw [du] at hh
   by_cases e : c = c'
   ·rw [if_pos ⟨e, hc⟩] at hh
    simp [ah] at hh
   ·rw [if_neg (fun x => e x.1)] at hh
    rw [h.t9 c' V5 k hh] at e1
    simp at e1
    exact e e1.symm
 have hid : L1.id = L.id := h5.2.1
 refine ⟨{ L1 with cv := fun k => if k ∈ ah (L.ws[c]!).A then (L1.id + 1, 0, 0) else L1.cv k }, h4.FE _ (fun k hk => if_neg (fun hm => xj k hm hk)), ⟨h5.1, hid, fun k hk e => ?_⟩, h6, ?_, fun k hk => ⟨?_, ?_⟩⟩
 ·simp only at e
  split at e
  ·rw [hid] at e; simp at e
  ·exact h5.2.2 k hk e
 ·refine fJ.fy (p := ⟨gw, c, none⟩) (fun hm => ?_) _
  have e1 := jy gw hm
  rw [h.t4 gw (by rw [h1]; simp [ah])] at e1
  simp at e1
 ·simp only
  rw [if_pos hk]
  simp
 ·rw [aH.bI]
  exact ⟨fJ.lt k hk, by rw [jy k hk]⟩
theorem aK.Qr {w w1 : World} {L : aH} {S : Sv} (h : aK w L S) {c : Nat} (hc : c < L.ws.length) {A0 A' : Option Addr} {c' : Nat} {l' : List Nat} (hA0 : ∀ k, k ∈ ah A0 → (L.cv k).1 ≠ L.id) (hi : Ints w1 A' c' (bv l'))
  (hf : Fr (ah A0) w w1) (hA : ∀ k, k ∈ ah A' → k ∈ ah A0 ∨ w.heap.size ≤ k) :
  ∃ gw, L.wA = some ⟨gw, 0, none⟩ ∧ w1.frozen? ⟨gw, c, none⟩ = false ∧ ∃ L', aK (w1.setCell ⟨gw, c, none⟩ (.slice A' l'.length c')) L' (S.bS c l') ∧ L'.a = L.a ∧ L'.id = L.id ∧ (∀ k, k < w.heap.size → (L'.cv k).1 = L.id → (L.cv k).1 = L.id ∨ k ∈ ah A0) ∧
   Fr (ah A0 ++ L.own w) w (w1.setCell ⟨gw, c, none⟩ (.slice A' l'.length c')) := by
 have xj : ∀ k, L.has k → k ∉ ah A0 := fun k hk hm => hA0 k hm (h.ij hk)
 have h2 := h.FE (fun k => if k ∈ ah A0 then (L.id, 9, c) else L.cv k) (fun k hk => if_neg (xj k hk))
 obtain ⟨gw, g1, g2, g3, L', g4, g5, g6, g7⟩ := h2.bS (c := c) hc (l' := l') hi hf (fun k hk _ => if_pos hk) (fun k hk => by
  rcases hA k hk with h3 | h3
  ·rcases bl k w.heap.size with hl | hl
   ·exact .inl ⟨hl, if_pos h3⟩
   ·exact .inr hl
  ·exact .inr h3)
 refine ⟨gw, g1, g3, L', g4, g5.1, g5.2.1, fun k hk e => ?_, g6.mono (fun k hk => ?_)⟩
 ·have := g5.2.2 k hk e
  simp only at this
  by_cases hm : k ∈ ah A0
  ·exact .inr hm
  ·rw [if_neg hm] at this
   exact .inl this
 ·rw [aH.bI] at hk
  left
  by_cases hm : k ∈ ah A0
  ·exact aW _ hm
  ·have e := hk.2
   simp only [if_neg hm] at e
   exact List.mem_append_right _ (aH.bI.2 ⟨hk.1, e⟩)
namespace Sv
theorem Ok.mj (off : Int) : ∀ (ws keep : List Nat) (S : Sv), S.Ok (keep.length + ws.length) → (∀ n ∈ ws, n < S.list.length) → (∀ n ∈ keep, n < S.list.length) → aJ off < S.watch.length →
  (bH off ws keep S).1.Ok 0 ∧ (bH off ws keep S).1.vars = S.vars ∧ (bH off ws keep S).1.head = S.head ∧ (bH off ws keep S).1.list.length = S.list.length ∧ ∀ n, (bH off ws keep S).2 = some n → n < S.list.length
 | [], keep, S, ok, _, hk, hc => by
  simp only [bH]
  refine ⟨ok.bS hc (fun n hn => ?_) (by simp; omega), rfl, rfl, rfl, fun n h => by cases h⟩
  rcases aj.1 hn with h | h
  ·exact hk n h
  ·exact ok.wb _ n h
 | n :: r, keep, S, ok, hw, hk, hc => by
  simp only [bH]
  have hn := hw n (by simp)
  obtain ⟨v1, v2, v3, v4, v5⟩ := (ok.less (m' := keep.length + r.length + 1) (by simp; omega)).visit hn off
  generalize S.cF n off = q at *
  have Ec : ∀ j ∈ (if q.2.1 = true then keep ++ [n] else keep), j < q.1.list.length := fun j hj => by
   rw [v3]
   split at hj
   ·rcases aj.1 hj with h | h
    ·exact hk j h
    ·simp at h; omega
   ·exact hk j hj
  have Jr : q.1.Ok ((if q.2.1 = true then keep ++ [n] else keep).length + r.length) := by
   split
   ·rename_i h
    rw [if_pos h] at v1
    exact v1.less (by simp; omega)
   ·rename_i h
    rw [if_neg h] at v1
    exact v1
  split
  ·have ih := Ok.mj off r _ q.1 Jr (fun j hj => by rw [v3]; exact hw j (by simp [hj])) Ec (by rw [v5]; exact hc)
   exact ⟨ih.1, by rw [ih.2.1, v2], by rw [ih.2.2.1, v4], by rw [ih.2.2.2.1, v3], fun j hj => by have := ih.2.2.2.2 j hj; omega⟩
  ·refine ⟨Jr.bS (by rw [v5]; exact hc) (fun j hj => ?_) (by simp <;> omega), v2, v4, v3, fun j hj => by simp at hj; omega⟩
   rcases aj.1 hj with h | h
   ·exact Ec j h
   ·rw [v3]; exact hw j (by simp [h])
theorem tK (S : Sv) (x r : Int) : S.T.lits.length ≤ (S.put x r).T.lits.length := by
 unfold put
 simp only
 split
 ·simp [Tr.mH]
 ·exact ao _
theorem CN (S : Sv) (n : Nat) (off : Int) : S.T.lits.length ≤ (S.cF n off).1.T.lits.length := by
 unfold cF
 split
 ·exact ao _
 ·have e := (mq S n off).1
  rw [← e]
  generalize S.ch n off = S1
  unfold eY
  simp only
  split
  ·exact ao _
  ·split
   ·rw [(oo S1 n).1]; exact ao _
   ·split
    ·exact ao _
    ·exact tK _ _ _
theorem jQ (off : Int) : ∀ (ws keep : List Nat) (S : Sv), S.T.lits.length ≤ (bH off ws keep S).1.T.lits.length
 | [], keep, S => ao _
 | n :: r, keep, S => by
  simp only [bH]
  have h1 := CN S n off
  split
  ·exact aE h1 (jQ off r _ _)
  ·exact h1
end Sv
theorem aP (w : World) (o : Obj) : Fr [] w (w.alloc o) := (Fr.refl [] w).alloc o
theorem Ints.eE {w w' : World} {A : Option Addr} {c : Nat} {xs : List Int} (h : Ints w A c xs) (hf : Fr [] w w') : Ints w' A c xs := h.fr hf (fun k hk hm => by cases hm)
def uD : Option Nat → Int
 | some n => n
 | none => -1
theorem aK.sD {w : World} {L : aH} {S : Sv} (h : aK w L S) (x : Nat) : aK (w.setCell ⟨L.a, 8, none⟩ (.int .i64 x)) L { S with head := x } ∧ Fr (L.own w) w (w.setCell ⟨L.a, 8, none⟩ (.int .i64 x)) := by
 have hf : Fr [L.a] w (w.setCell ⟨L.a, 8, none⟩ (.int .i64 x)) := (Fr.refl _ w).setCell (.inl (by simp)) _
 obtain ⟨h1, _, h3⟩ := h.top (L' := L) (S' := { S with head := x }) hf (by have := h.obj.cV 8 (.int .i64 x); simpa [m7] using this) ⟨rfl, rfl, rfl, rfl, rfl, rfl, rfl, rfl, rfl, rfl, rfl, rfl, rfl, rfl, rfl, rfl, rfl⟩ ⟨rfl, rfl, rfl, rfl, rfl, rfl, rfl⟩
 exact ⟨h1, h3⟩
theorem FD {keep l0 : List Nat} {i : Nat} (h : keep.length ≤ i) (hi : i < l0.length) : (keep ++ l0.drop keep.length)[i]! = l0[i]! := by
 simp only [ae]
 rw [List.getElem?_append_right h, List.getElem?_drop, Nat.add_sub_cancel' h]
theorem m8 {keep l0 : List Nat} (h : keep.length ≤ l0.length) : (keep ++ l0.drop keep.length).length = l0.length := by simp; omega
theorem FC {keep l0 : List Nat} (n : Nat) (h : keep.length < l0.length) : (bv (keep ++ l0.drop keep.length)).take keep.length ++ [(n : Int)] ++ (bv (keep ++ l0.drop keep.length)).drop (keep.length + 1) = bv ((keep ++ [n]) ++ l0.drop (keep ++ [n]).length) := by
 simp only [bv, bP, List.map_drop, ai, bu, dW, fX]
 congr 1
 ·congr 1
  rw [kU (by simp)]
  exact dh (by simp)
 ·rw [List.drop_append, List.drop_of_length_le (by simp), List.nil_append, List.drop_drop, ax]
  congr 1
  omega
theorem sF {keep l0 : List Nat} : (bv (keep ++ l0.drop keep.length)).take keep.length = bv keep := by
 simp only [bv, bP]
 rw [kU (by simp)]
 exact dh (by simp)
theorem JV (S : Sv) (n : Nat) (off : Int) : (S.cF n off).2.1 = false → (S.cF n off).2.2 = true := by
 unfold Sv.cF Sv.eY
 split
 ·simp
 ·simp only
  split
  ·simp
  ·split
   ·simp
   ·split <;> simp
theorem lD {S : Sv} {f : Nat} (h : ¬ S.head < S.T.lits.length) : Sv.cI f S = (S, none) := by
 cases f with
 | zero => rfl
 | succ f => simp only [Sv.cI]; rw [if_neg h]
set_option maxRecDepth 100000 in
set_option maxHeartbeats 8000000 in
theorem yL (w : World) (L : aH) (S : Sv) (h : aK w L S) (ok : S.Ok 0) :
  Calls Tryz.prog 106 #[.pointer (some ⟨L.a, 0, none⟩)] w (me (.int .i64 (uD S.follow.2)) S.follow.1 L w) := by
 obtain ⟨RES, co⟩ : ∃ RES, S.follow = RES := ⟨_, rfl⟩
 have dC : Hid (Sv.cI (S.vars + 1) S = RES) := co
 rw [co]
 have l8 : Hid (∀ (S' : Sv) (r : Option Nat), RES = (S', r) → ∀ W L', aK W L' S' → L.ext L' w → Fr (L.own w) w W → me (.int .i64 (uD RES.2)) RES.1 L w (.returned (.int .i64 (uD r))) W) := fun S' r e W L' g1 g2 g3 => by
  subst e
  exact ⟨rfl, L', g1, g2, g3⟩
 have HH := aa h
 have kQ := aa ok
 have Wg : Hid (w.heap.size = w.heap.size) := rfl
 clear co h ok
 go_enter Tryz.func106, Tryz.ntmps106
 go_wp2_with fail
 go_loopg [2] (S.vars + 1) (fun g x2 wr => ∃ (S1 : Sv) (L1 : aH), Hid (Sv.cI g S1 = RES) ∧ S1.vars + 1 ≤ g + S1.head ∧ Hid (S1.Ok 0) ∧ Hid (aK wr L1 S1) ∧ Hid (L.ext L1 w) ∧ Hid (Fr (L.own w) w wr))
 case atStart => exact ⟨S, L, dC.out, by omega, kQ.out, HH.out, aH.bX _ _, Fr.refl _ _⟩
 case round =>
  obtain ⟨S1, L1, oY, hfu, j7, H1, dV, dv⟩ := hrel
  have Wn := aa hfu
  have nT := j7.out.vl
  have JF := j7.out.hd
  have oD : S1.T.lits.length ≤ S1.vars := by
   obtain ⟨R, hR⟩ := j7.out.tr
   have := hR.gq
   rw [hR.lits, ax]
   exact this
  have kj : L1.a = L.a := dV.out.1
  obtain ⟨c0, -, -, -, c4, -, -, -, c8, -⟩ := H1.out.cells
  rw [kj] at c0 c4 c8
  have th := aa c0
  have Jn := aa c4
  have HC8 := aa c8
  have Vv := aa kj
  have e0 := Ext.cell c0
  have e8 := Ext.cell c8
  have KL := aa (fun u : Ext wr => jk u.v L1.tL S1.T (H1.out.tr.fr u.fr (by simp)))
  clear kj hfu c4
  by_cases bM : S1.head < S1.T.lits.length
  ·obtain ⟨f, cE⟩ : ∃ f, gk = f + 1 := ⟨gk - 1, by have := Wn.out; omega⟩
   have hd : decide ((S1.head : Int) < (S1.T.lits.length : Int)) = true := decide_eq_true (by omega)
   go_wp2_with fail
   refine al (by kernel_rfl) (by kernel_rfl) ?_
   repeat (go_big_quiet_step (exact aV (KL.out _)))
   refine wpQuiet_nil ?_
   rintro w2 ⟨u2, bJ⟩
   have aT : Hid (Fr [] wr w2) := bJ ▸ u2.fr
   clear bJ u2
   clear e0 e8 c0 c8 KL hd
   obtain ⟨x, hx⟩ : ∃ x, S1.T.lits[S1.head]! = x := ⟨_, rfl⟩
   have kk : S1.T.Wd (S1.head : Int) = x := by
    unfold Tr.Wd
    rw [if_pos (by omega), Int.toNat_natCast]
    exact hx
   have Cp : -(S1.vars : Int) ≤ x ∧ x ≤ S1.vars ∧ x ≠ 0 := by
    obtain ⟨R, hR⟩ := j7.out.tr
    have hm : x ∈ S1.T.lits := by rw [← hx]; exact get_mem bM
    rw [hR.lits, bE] at hm
    obtain ⟨e, he, rfl⟩ := hm
    have hb := hR.bound e he
    unfold tv at hb
    split at hb
    ·omega
    ·split at hb <;> omega
   have HX := aa hx
   have KA := aa (fun u : Ext w2 => jq u.v L1.tL S1.T (H1.out.tr.fr (aT.out.ag u.fr) (by simp)) (S1.head : Int))
   rw [kk] at KA
   have c0 := aT.out.av th.out
   have c8 := aT.out.av HC8.out
   have e0 := Ext.cell c0
   have e8 := Ext.cell c8
   have ep : IntKind.i64.wrap (-x) = -x := IntWalk.i64_in _ (by omega)
   clear kk hx
   go_wp2_with fail
   refine al (by kernel_rfl) (by kernel_rfl) ?_
   repeat (go_big_quiet_step (exact aV (KA.out _)))
   refine wpQuiet_nil ?_
   rintro w3 ⟨u2, bJ⟩
   have rO : Hid (Fr [] w2 w3) := bJ ▸ u2.fr
   clear bJ u2
   obtain ⟨off, sd⟩ : ∃ off, -x = off := ⟨_, rfl⟩
   have hor : -(S1.vars : Int) ≤ off ∧ off ≤ S1.vars := by omega
   have agj := aa sd
   rw [sd]
   clear e0 e8 c0 c8 KA ep sd Cp
   obtain ⟨cy, Ix⟩ : ∃ cy, aJ off = cy := ⟨_, rfl⟩
   have KC := aa (fun W => lF W off (by omega) (by omega))
   simp only [Ix] at KC
   have qh : cy < L1.ws.length := by
    rw [H1.out.pE, j7.out.wl, ← Ix]
    exact fG hor.1 hor.2
   have Og := aa Ix
   have cR := aa (aT.out.ag rO.out)
   clear aT rO Ix
   obtain ⟨gw, sf, sw, fw⟩ := H1.out.SD qh
   have Jv := H1.out.ql qh
   have HTK := aa (fun W hW => (H1.out.keep (w' := W) hW).take qh)
   obtain ⟨⟨A0, c0, l0⟩, Ay⟩ : ∃ x, L1.ws[cy]! = x := ⟨_, rfl⟩
   rw [Ay] at sw Jv HTK
   simp only at sw Jv HTK
   have Sb := aa Jv
   have qN := aa sw
   have lR := aa fw
   have c4 := cR.out.av Jn.out
   rw [sf] at c4
   have s4 := cR.out.av sw
   have e4 := Ext.cell c4
   have es := Ext.cell s4
   have Cg := aa qh
   have Vq := aa sf
   clear Ay Jv sw fw sf
   go_wp2_with fail
   refine al (by kernel_rfl) (by kernel_rfl) ?_
   repeat (go_big_quiet_step (exact aV (KC.out _)))
   refine wpQuiet_nil ?_
   rintro w4 ⟨u2, bJ⟩
   have bZ : Hid (Fr [] w3 w4) := bJ ▸ u2.fr
   clear bJ u2
   clear c4 s4 e4 es
   have gS := aa (cR.out.ag bZ.out)
   have hc4 := Jn.out
   rw [Vq.out] at hc4
   have Z6 := aa (gS.out.av hc4)
   clear cR bZ hc4
   go_upto_region 5 with fail
   refine wp_region_noPanic ?_
   refine bj (fun w' : World => Fr [] w4 w') 7 (by kernel_rfl) ((Fr.refl [] w4).drew) (fun dd => ?_)
   apply TB 5 [(0, []), (1, []), (2, []), (3, [3, 7]), (4, [])]; kernel_rfl; rfl; · (repeat (apply ef; rfl; rfl; (· intro w aY; (try (have aY := aY.resolve_left (aF _ _); (have s4 := aY.av Z6.out))); go_simp <;> with_reducible rfl); try simp only [Act.put, q5, q6, q7])); exact ee
   exact dd; intro dd
   refine R2 5 (by kernel_rfl) (by rfl) dd fun K hK ap => ?_
   (go_simp; refine (KC.out _).mono ?_; rintro e w5 ⟨rfl, rfl⟩; dsimp only)
   refine hK.out _ _ (.inr ?_) (fun zv => ?_)
   ·exact ap
   clear hK K
   try simp only [Act.put, q5, q6, q7]
   apply TB 1 [(6, [])]; kernel_rfl; rfl; · (repeat (apply ef; rfl; rfl; (· intro w aY; go_simp <;> with_reducible rfl); try simp only [Act.put, q5, q6, q7])); exact ee
   exact zv; intro zv
   refine R2 7 (by kernel_rfl) (by rfl) zv fun K hK ap => ?_
   (have sb := (gS.out.ag ap).av qN.out; have fb : World.frozen? _ _ = _ := (World.frozen?_of_block ((gS.out.ag ap).block gw (bt qN.out) (by simp))).trans lR.out; go_simp)
   refine hK.out _ _ (.inl rfl) (fun Ml => ?_)
   clear hK K
   try simp only [Act.put, q5, q6, q7]
   refine az (by kernel_rfl) ?_ _
   refine NoPanic.normal ?_
   have ht := HTK.out w4 gS.out
   obtain ⟨EA, eJ, _, _, L5, h5', sP, Yq, LR, hn5⟩ := ht
   obtain rfl : gw = EA := by rw [Vq.out] at eJ; simpa using eJ
   obtain ⟨W5, Qm⟩ : ∃ W, (w4.setCell ⟨gw, cy, none⟩ (.slice none 0 0)).drew = W := ⟨_, rfl⟩
   have h5 : aK W5 L5 (S1.bS cy []) := Qm ▸ h5'.keep (Fr.refl [] _).drew
   have dK : Fr (L1.own w4) w4 W5 := Qm ▸ Yq.drew
   have sO : Ints W5 A0 c0 (bv l0) := Qm ▸ LR.drew
   rw [Qm]
   clear h5' Yq LR
   have ow : wr.heap.size ≤ w4.heap.size := gS.out.size
   have hE5 : L.ext L5 w := aH.aM dV.out (⟨sP.1, sP.2.1, fun k hk e => sP.2.2 k (aQ hk ow) e⟩ : L1.ext L5 wr) dv.out.size
   have hF5 : Fr (L.own w) w W5 := aH.aI dV.out dv.out ((gS.out.mono (fun k hk => by cases hk)).trans dK (fun k hk => by
    rw [aH.bI] at hk
    rcases bl k wr.heap.size with hl | hl
    ·exact .inl (aH.bI.2 ⟨hl, hk.2⟩)
    ·exact .inr hl))
   have RL : ∀ k, k ∈ ah A0 → (L5.cv k).1 ≠ L5.id := fun k hk => (hn5 k hk).1
   have V2 : ∀ k, k ∈ ah A0 → k ∈ L.own w ∨ w.heap.size ≤ k := fun k hk => by
    have e1 := (hn5 k hk).2
    rw [aH.bI] at e1
    rcases bl k w.heap.size with hl | hl
    ·exact .inl (aH.bI.2 ⟨hl, dV.out.2.2 k hl (e1.2.trans dV.out.2.1)⟩)
    ·exact .inr hl
   have CK := aa V2
   have tc : Hid (Sv.cI f { (Sv.bH off l0 [] (S1.bS cy [])).1 with head := S1.head + 1 } = RES ∧ (Sv.bH off l0 [] (S1.bS cy [])).2 = none ∨ ∃ n, (Sv.bH off l0 [] (S1.bS cy [])).2 = some n ∧ RES = ((Sv.bH off l0 [] (S1.bS cy [])).1, some n)) := by
    have h1 := oY.out
    rw [cE] at h1
    simp only [Sv.cI] at h1
    rw [if_pos bM, HX.out, agj.out, Og.out, Sb.out] at h1
    have Xv : (Sv.bH off l0 [] (S1.bS cy [])).1.head = S1.head := by
     have o2 : (S1.bS cy []).Ok (0 + l0.length) := j7.out.bS (by rw [← H1.out.pE]; exact Cg.out) (fun n hn => by cases hn) (by rw [Sb.out]; simp)
     exact (o2.mj off l0 [] _ (fun n hn => j7.out.wb cy n (by have := Sb.out; unfold Sv.eX at this; rw [this]; exact hn)) (fun n hn => by cases hn) (by show aJ off < (S1.watch.set _ _).length; rw [ak, ← H1.out.pE, Og.out]; exact Cg.out)).2.2.1
    cases hv : (Sv.bH off l0 [] (S1.bS cy [])).2 with
    | none =>
     rw [hv] at h1
     simp only [Xv] at h1
     exact .inl ⟨h1, rfl⟩
    | some n =>
     rw [hv] at h1
     exact .inr ⟨n, rfl, h1.symm⟩
   have o2 : (S1.bS cy []).Ok l0.length := j7.out.bS (by rw [← H1.out.pE]; exact Cg.out) (fun n hn => by cases hn) (by rw [Sb.out]; simp)
   have T6 : ∀ n ∈ l0, n < S1.list.length := fun n hn => j7.out.wb cy n (by have := Sb.out; unfold Sv.eX at this; rw [this]; exact hn)
   have ZC := aa T6
   have H1L := aa (H1.out.pE.trans j7.out.wl)
   have Xu := (o2.less (m' := ([] : List Nat).length + l0.length) (by simp)).mj off l0 [] _ T6 (fun n hn => by cases hn) (by show aJ off < (S1.watch.set _ _).length; rw [ak, ← H1.out.pE, Og.out]; exact Cg.out)
   have E0 := aa Xu
   obtain ⟨VR, hVR⟩ : ∃ VR, Sv.bH off l0 [] (S1.bS cy []) = VR := ⟨_, rfl⟩
   rw [hVR] at tc E0
   have U3 := aa hVR
   have vq := j7.out.ll
   have H5 := aa h5
   have mf := aa hE5
   have qj := aa hF5
   have So := aa sO
   have Sk := aa RL
   have Jf := aa o2
   have Zh : Hid ((S1.bS cy []).watch.length = 2 * S1.vars + 2) := (by show (S1.watch.set _ _).length = _; rw [ak]; exact j7.out.wl : (S1.bS cy []).watch.length = 2 * S1.vars + 2)
   have alN : l0.length ≤ 4398046511104 := by have := j7.out.room cy; have h2 := Sb.out; unfold Sv.eX at h2; rw [h2] at this; exact this
   have amk : l0.length ≤ c0 := by
    have h2 := sO.form
    have e := aR l0
    rcases h2 with ⟨_, _, h3⟩ | ⟨_, _, _, h3, _⟩
    ·rw [h3] at e
     simp at e
     omega
    ·omega
   clear h5 sP dK sO hn5 hE5 hF5 RL V2 o2 T6 Xu hVR Qm ow HTK ap eJ qN lR Vq Z6 gS H1 th Jn HC8
   try clear Ml
   try clear Cy
   try clear zv
   have Yl := So.out.form
   rcases Yl with ⟨rfl, rfl, JD⟩ | ⟨g0, rfl, al6, -, -⟩
   ·have X7 : l0 = [] := by
     have := aR l0
     rw [JD] at this
     exact a6 this.symm
    subst X7
    clear JD
    go_wp2_with fail
    go_loopg [5, 56] ([] : List Nat).length (fun g2 x5 x56 wi => ∃ (i : Nat) (keep : List Nat) (S2 : Sv) (L2 : aH), i + g2 = ([] : List Nat).length ∧ keep.length ≤ i ∧ x5 = .slice none keep.length 0 ∧ x56 = .int .i64 i ∧ Hid (Sv.bH off (([] : List Nat).drop i) keep S2 = VR) ∧ Hid (S2.Ok (keep.length + (([] : List Nat).length - i))) ∧ Hid (∀ n ∈ keep, n < S1.list.length) ∧ Hid (S2.list.length = S1.list.length ∧ S2.vars = S1.vars ∧ S2.watch.length = 2 * S1.vars + 2) ∧ Hid (aK wi L2 S2) ∧ Hid (L.ext L2 w) ∧ Hid (Fr (L.own w) w wi) ∧ Hid (Ints wi none 0 (bv (keep ++ ([] : List Nat).drop keep.length))) ∧ Hid (∀ k, k ∈ ah none → (L2.cv k).1 ≠ L2.id))
    case atStart => exact ⟨0, [], S1.bS cy [], L5, by omega, ao _, rfl, rfl, U3.out, Jf.out.less (by simp), (fun n hn => by cases hn), ⟨rfl, rfl, Zh.out⟩, H5.out, mf.out, qj.out, So.out, Sk.out⟩
    case round =>
     obtain ⟨i, keep, S2, L2, hi, JE, rfl, rfl, HVS, sB, CH, nY, H2, cL, cJ, lZ, jp⟩ := hrel
     have HI := aa hi
     have sN : i ≤ ([] : List Nat).length := by omega
     clear hi
     by_cases pI : i < ([] : List Nat).length
     ·simp at pI
     ·obtain rfl : i = ([] : List Nat).length := by omega
      clear HI
      have mR : cy < L2.ws.length := by rw [H2.out.pE, nY.out.2.2]; have := Cg.out; rw [H1L.out] at this; exact this
      obtain ⟨gw, sf, sw, fw⟩ := H2.out.SD mR
      obtain ⟨-, -, -, -, c4, -⟩ := H2.out.cells
      rw [sf, cL.out.1] at c4
      have Ca : Hid (L.a ∉ ah none) := fun hm => jp.out _ hm (H2.out.ij (.inl (by rw [cL.out.1])))
      have nM : Hid (gw ∉ ah none) := fun hm => jp.out _ hm (H2.out.ij (.inr (.inr (.inr (.inr (.inl (by rw [sf]; simp [ah])))))))
      have Ch := aa c4
      have kO := aa sw
      have Jk := aa fw
      have Jj := aa sf
      have fY := HVS.out
      rw [List.drop_length] at fY
      simp only [Sv.bH] at fY
      rw [Og.out] at fY
      have vn := H2.out.ql mR
      have Cr := H2.out.pN cy mR
      have JC := sB.out.room cy
      have LB : ∀ k, k ∈ ah (L2.ws[cy]!).A → k ∉ ah none := fun k hk hm => jp.out k hm (H2.out.ij (.inr (.inr (.inr (.inr (.inr (.inr (.inr (.inr (.inr ⟨cy, mR, hk⟩))))))))))
      unfold Sv.eX at vn fY
      rw [vn] at JC fY
      obtain ⟨⟨A9, c9, l9⟩, Dv⟩ : ∃ x, L2.ws[cy]! = x := ⟨_, rfl⟩
      rw [Dv] at sw Cr JC fY LB
      rw [Dv] at kO
      simp only at sw Cr JC fY kO LB
      have zB := aa Cr
      have N9 := aa fY
      have AW : Ints wr none 0 (bv keep) := by
       have := lZ.out.nP keep.length
       rw [sF] at this
       exact this
      have Vn := aa AW
      have LY : cy < L2.ws.length := mR
      have Jl := aa LY
      have Od : Hid (Sv.cI f { VR.1 with head := S1.head + 1 } = RES) := by
       rcases tc.out with h1 | ⟨n, h1, _⟩
       ·exact h1.1
       ·rw [← N9.out] at h1
        simp at h1
      have ad5 : keep.length ≤ 4398046511104 := by omega
      clear Dv vn Cr fY AW sw fw sf c4 mR
      go_upto_region 17 with fail
      refine wp_region_noPanic ?_
      refine bj (fun w' : World => Fr (ah none) wr w') 17 (by kernel_rfl) ((Fr.refl _ wr).drew) (fun dd => ?_)
      apply TB 11 [(0, []), (1, []), (2, []), (3, [3, 17]), (4, []), (6, []), (7, []), (8, []), (9, []), (10, [10, 17]), (11, [])]; kernel_rfl; rfl; · (repeat (apply ef; rfl; rfl; (· intro w aY; (try (have aY := aY.resolve_left (aF _ _); (have s4 := aY.aZ Ca.out Ch.out; have s5 := aY.aZ nM.out kO.out))); go_simp <;> with_reducible rfl); try simp only [Act.put, q5, q6, q7])); exact ee
      exact dd; intro dd
      refine R2 5 (by kernel_rfl) (by rfl) dd fun K hK ap => ?_
      (go_simp; refine (KC.out _).mono ?_; rintro e w5 ⟨rfl, rfl⟩; dsimp only)
      refine hK.out _ _ (.inr ?_) (fun iw => ?_)
      ·first | exact ap.ag jl | exact ap
      clear hK K
      try simp only [Act.put, q5, q6, q7]
      refine R2 12 (by kernel_rfl) (by rfl) iw fun K hK ap => ?_
      (go_simp; refine (KC.out _).mono ?_; rintro e w5 ⟨rfl, rfl⟩; dsimp only)
      refine hK.out _ _ (.inr ?_) (fun iu => ?_)
      ·first | exact ap.ag jl | exact ap
      clear hK K
      try simp only [Act.put, q5, q6, q7]
      apply TB 2 [(13, []), (14, [14, 17])]; kernel_rfl; rfl; · (repeat (apply ef; rfl; rfl; (· intro w aY; (try (have aY := aY.resolve_left (aF _ _); (have s4 := aY.aZ Ca.out Ch.out; have s5 := aY.aZ nM.out kO.out))); go_simp <;> with_reducible rfl); try simp only [Act.put, q5, q6, q7])); exact ee
      exact iu; intro iu
      refine R2 15 (by kernel_rfl) (by rfl) iu fun K hK ap => ?_
      (refine kp rfl _ _ rfl none 0 (bv keep) _ rfl (aR keep).symm ?AO A9 _ c9 (bv l9) (aR l9) rfl ?DV (by rw [aR, aR]; omega) ?_; (case AO => first | exact Vn.out.drew | exact Vn.out); (case DV => first | exact zB.out.drew | exact zB.out); intro A' cap w7 yA jl YH XD)
      refine hK.out _ _ (.inr ?_) (fun kH => ?_)
      ·first | exact ap.ag jl | exact ap
      clear hK K
      try simp only [Act.put, q5, q6, q7]
      apply TB 1 [(16, [])]; kernel_rfl; rfl; · (repeat (apply ef; rfl; rfl; (· intro w aY; go_simp <;> with_reducible rfl); try simp only [Act.put, q5, q6, q7])); exact ee
      exact kH; intro kH
      refine R2 17 (by kernel_rfl) (by rfl) kH fun K hK ap => ?_
      (have sb := ap.aZ nM.out kO.out; have fb : World.frozen? _ _ = _ := (World.frozen?_of_block (ap.block gw (bt kO.out) nM.out)).trans Jk.out; go_simp)
      refine hK.out _ _ (.inl rfl) (fun iS => ?_)
      clear hK K
      try simp only [Act.put, q5, q6, q7]
      refine az (by kernel_rfl) ?_ _
      refine NoPanic.normal ?_
      have FZ : Ints w7 A' cap (bv (keep ++ l9)) := by
       have := yA
       unfold bv at this ⊢
       rw [bP]
       exact this
      obtain ⟨EA, eJ, _, L8, h8, Cv, yz, O2, kh⟩ := H2.out.Qr (c := cy) Jl.out (A0 := none) jp.out FZ ap (fun k hk => (YH k hk).imp id (fun e => by rw [e]; exact ao _))
      obtain rfl : gw = EA := by rw [Jj.out] at eJ; simpa using eJ
      simp only [ai] at h8 kh
      obtain ⟨W8, N2⟩ : ∃ W, w7.setCell ⟨gw, cy, none⟩ (.slice A' (keep.length + l9.length) cap) = W := ⟨_, rfl⟩
      rw [N2] at h8 kh ⊢
      have ID : L.ext L8 w := by
       refine ⟨Cv.trans cL.out.1, yz.trans cL.out.2.1, fun k hk e => ?_⟩
       rcases O2 k (aQ hk cJ.out.size) (e.trans cL.out.2.1.symm) with h1 | h1
       ·exact cL.out.2.2 k hk (h1.trans cL.out.2.1)
       ·rcases CK.out k h1 with h2 | h2
        ·exact (aH.bI.1 h2).2
        ·omega
      have Mq : Fr (L.own w) w W8 := cJ.out.trans kh (fun k hk => by
       rcases aj.1 hk with h1 | h1
       ·exact CK.out k h1
       ·rw [aH.bI] at h1
        rcases bl k w.heap.size with hl | hl
        ·exact .inl (aH.bI.2 ⟨hl, cL.out.2.2 k hl (h1.2.trans cL.out.2.1)⟩)
        ·exact .inr hl)
      have uw : S2.bS cy (keep ++ l9) = VR.1 := by rw [← N9.out]
      rw [uw] at h8
      have Yf := E0.out.2.2.1
      have Yg : VR.1.head = S1.head := Yf
      have Jw : VR.1.vars = S1.vars := E0.out.2.1
      have TX : S1.T.lits.length ≤ VR.1.T.lits.length := by
       have := Sv.jQ off [] [] (S1.bS cy [])
       rw [U3.out] at this
       exact this
      have c8 := h8.cells.2.2.2.2.2.2.2.2.1
      have f8 := h8.obj.frozen 8
      rw [Yg] at c8
      rw [Cv.trans cL.out.1] at c8 f8
      obtain ⟨h9, sh⟩ := h8.sD (S1.head + 1)
      rw [Cv.trans cL.out.1] at h9 sh
      have H9 := aa h9
      have vf := aa (aH.aI ID Mq sh)
      have HE9 := aa ID
      have Vf : Hid (({ VR.1 with head := S1.head + 1 } : Sv).Ok 0) := (by
       have o := E0.out.1
       exact ⟨o.vl, o.tr, o.hi, o.hl, o.ph, o.wl, o.ll, o.wb, o.wt, o.lr, o.ln, o.lb, by show S1.head + 1 ≤ VR.1.T.lits.length; omega, o.rs⟩ : ({ VR.1 with head := S1.head + 1 } : Sv).Ok 0)
      have UX := aa Jw
      have hhb : S1.head ≤ 262143 := by omega
      clear N2 h8 kh ID Mq uw Yf Yg Jw TX h9 sh yA jl YH XD FZ O2 Cv yz ap
      go_wp2_with fail
      go_roundg f
      case measure => omega
      case rel => exact ⟨{ VR.1 with head := S1.head + 1 }, L8, Od.out, (by show VR.1.vars + 1 ≤ f + (S1.head + 1); have := Wn.out; have := UX.out; omega), Vf.out, H9.out, HE9.out, vf.out⟩
   ·go_wp2_with fail
    go_loopg [5, 56] l0.length (fun g2 x5 x56 wi => ∃ (i : Nat) (keep : List Nat) (S2 : Sv) (L2 : aH), i + g2 = l0.length ∧ keep.length ≤ i ∧ x5 = .slice (some ⟨g0, 0, none⟩) keep.length c0 ∧ x56 = .int .i64 i ∧ Hid (Sv.bH off (l0.drop i) keep S2 = VR) ∧ Hid (S2.Ok (keep.length + (l0.length - i))) ∧ Hid (∀ n ∈ keep, n < S1.list.length) ∧ Hid (S2.list.length = S1.list.length ∧ S2.vars = S1.vars ∧ S2.watch.length = 2 * S1.vars + 2) ∧ Hid (aK wi L2 S2) ∧ Hid (L.ext L2 w) ∧ Hid (Fr (L.own w) w wi) ∧ Hid (Ints wi (some ⟨g0, 0, none⟩) c0 (bv (keep ++ l0.drop keep.length))) ∧ Hid (∀ k, k ∈ ah (some ⟨g0, 0, none⟩) → (L2.cv k).1 ≠ L2.id))
    case atStart => exact ⟨0, [], S1.bS cy [], L5, by omega, ao _, rfl, rfl, U3.out, Jf.out.less (by simp), (fun n hn => by cases hn), ⟨rfl, rfl, Zh.out⟩, H5.out, mf.out, qj.out, So.out, Sk.out⟩
    case round =>
     obtain ⟨i, keep, S2, L2, hi, JE, rfl, rfl, HVS, sB, CH, nY, H2, cL, cJ, lZ, jp⟩ := hrel
     have HI := aa hi
     have sN : i ≤ l0.length := by omega
     clear hi
     by_cases pI : i < l0.length
     ·have cn := (lZ.out : Ints _ (some ⟨g0, 0, none⟩) c0 _).cell (i := i) (by rw [aR, m8 (by omega)]; exact pI)
      rw [nt, FD JE pI] at cn
      obtain ⟨n, hn⟩ : ∃ n, l0[i]! = n := ⟨_, rfl⟩
      rw [hn] at cn
      have LD : n ∈ l0 := by rw [← hn]; simp only [ae, af pI, aq]; exact List.getElem_mem pI
      have oz : n < S2.list.length := by rw [nY.out.1]; exact ZC.out n LD
      have FV : n < 2199023255552 := by have := j7.out.ll; have := nY.out.1; omega
      have vv : l0.drop i = n :: l0.drop (i + 1) := by rw [List.drop_eq_getElem_cons pI, ← hn]; simp only [ae, af pI, aq]
      have TK := sB.out.less (m' := (keep.length + (l0.length - (i + 1))) + 1) (by omega)
      have U2 := zH _ L2 S2 H2.out _ TK n oz off
      have hvo := TK.visit oz off
      have V3 := JV S2 n off
      have fY := HVS.out
      rw [vv] at fY
      simp only [Sv.bH] at fY
      rw [cL.out.1] at U2
      obtain ⟨⟨q1, st, okb⟩, hq⟩ : ∃ q, S2.cF n off = q := ⟨_, rfl⟩
      rw [hq] at U2 hvo V3 fY
      simp only at U2 hvo V3 fY
      have U2 := aa U2
      have U1 := aa hvo
      have agO := aa V3
      have U0 := aa fY
      have vc := aa (ZC.out n LD)
      clear hq hvo V3 fY vv LD hn oz TK
      go_wp2_with fail
      clear cn
      refine U2.out.mono ?_
      clear U2
      rintro e w6 ⟨rfl, L3, h3, vu, cY⟩
      have gF := aa (aH.aM cL.out (by exact vu) cJ.out.size)
      have NH := aa (aH.aI cL.out cJ.out cY)
      have eJ : ∀ V : World, g0 ∉ L2.own V := fun V hm => jp.out g0 (by simp [ah]) (aH.bI.1 hm).2
      have Vo := aa (lZ.out.fr cY (fun k hk => by simp [ah] at hk; subst hk; exact eJ _))
      have n8 : Hid (∀ k, k ∈ ah (some (⟨g0, 0, none⟩ : Addr)) → (L3.cv k).1 ≠ L3.id) := fun k hk e => by
       have hl : k < _ := lZ.out.lt k hk
       exact jp.out k hk (vu.2.2 k hl (e.trans vu.2.1))
      have H3 := aa h3
      clear h3 vu cY eJ cL cJ H2 lZ jp
      cases st with
      | true =>
       cases okb with
       | true =>
        have nH : keep.length < l0.length := by omega
        have HB : Hid (Fr [] w6 (w6.alloc (.cells #[.int .i64 n] 3))) := aP _ _
        have NP : Hid ((w6.alloc (.cells #[.int .i64 n] 3)).cell? ⟨w6.heap.size, 0, none⟩ = some (.int .i64 n)) := (At.new w6 _ _).cell 0
        go_wp2_with (at_builtin; (refine jP _ rfl _ _ rfl g0 c0 keep.length (bv (keep ++ l0.drop keep.length)) rfl (Vo.out.eE HB.out) ⟨w6.heap.size, 0, none⟩ 1 n rfl NP.out (by rw [aR, m8 (by omega)]; exact nH) ?_; intro w7 yA jl))
        rw [FC n nH] at yA
        have Nz := aa yA
        have Uw : Fr [g0] w6 w7 := (HB.out.mono (fun k hk => by cases hk)).ag jl
        have H7 := aa (H3.out.fr Uw (fun k hk _ => by simp at hk; subst hk; exact n8.out k (by simp [ah])))
        have rP := aa (NH.out.trans Uw (fun k hk => by simp at hk; subst hk; exact CK.out k (by simp [ah])))
        have Jd := aa U1.out
        have fY := U0.out
        simp only [if_true] at fY
        have UZ := aa fY
        have ZG : Hid (∀ j ∈ keep ++ [n], j < S1.list.length) := fun j hj => by
         rcases aj.1 hj with h | h
         ·exact CH.out j h
         ·simp at h; rw [h]; exact vc.out
        clear yA jl Uw fY HB NP Vo H3 NH
        have fY := UZ.out
        try simp only [if_true] at fY
        have UY := aa fY
        clear fY
        go_roundg (gk - 1)
        case measure => have := HI.out; omega
        case rel => exact ⟨i + 1, keep ++ [n], q1, L3, by have := HI.out; omega, by simp; omega, by simp, by go_num, UY.out, Jd.out.1.less (by simp; omega), ZG.out, ⟨by rw [Jd.out.2.2.1]; exact nY.out.1, by rw [Jd.out.2.1]; exact nY.out.2.1, by rw [Jd.out.2.2.2.2]; exact nY.out.2.2⟩, H7.out, gF.out, rP.out, Nz.out, n8.out⟩
       | false =>
        have nH : keep.length < l0.length := by omega
        have HB : Hid (Fr [] w6 (w6.alloc (.cells #[.int .i64 n] 3))) := aP _ _
        have NP : Hid ((w6.alloc (.cells #[.int .i64 n] 3)).cell? ⟨w6.heap.size, 0, none⟩ = some (.int .i64 n)) := (At.new w6 _ _).cell 0
        go_wp2_with (at_builtin; (refine jP _ rfl _ _ rfl g0 c0 keep.length (bv (keep ++ l0.drop keep.length)) rfl (Vo.out.eE HB.out) ⟨w6.heap.size, 0, none⟩ 1 n rfl NP.out (by rw [aR, m8 (by omega)]; exact nH) ?_; intro w7 yA jl))
        rw [FC n nH] at yA
        have Nz := aa yA
        have Uw : Fr [g0] w6 w7 := (HB.out.mono (fun k hk => by cases hk)).ag jl
        have H7 := aa (H3.out.fr Uw (fun k hk _ => by simp at hk; subst hk; exact n8.out k (by simp [ah])))
        have rP := aa (NH.out.trans Uw (fun k hk => by simp at hk; subst hk; exact CK.out k (by simp [ah])))
        have Jd := aa U1.out
        have fY := U0.out
        simp only [if_true] at fY
        have UZ := aa fY
        have ZG : Hid (∀ j ∈ keep ++ [n], j < S1.list.length) := fun j hj => by
         rcases aj.1 hj with h | h
         ·exact CH.out j h
         ·simp at h; rw [h]; exact vc.out
        clear yA jl Uw fY HB NP Vo H3 NH
        have mR : cy < L3.ws.length := by rw [H7.out.pE, Jd.out.2.2.2.2, nY.out.2.2]; have := Cg.out; rw [H1L.out] at this; exact this
        obtain ⟨gw, sf, sw, fw⟩ := H7.out.SD mR
        obtain ⟨-, -, -, -, c4, -⟩ := H7.out.cells
        rw [sf, gF.out.1] at c4
        have Ca : Hid (L.a ∉ ah (some ⟨g0, 0, none⟩)) := fun hm => n8.out _ hm (H7.out.ij (.inl (by rw [gF.out.1])))
        have nM : Hid (gw ∉ ah (some ⟨g0, 0, none⟩)) := fun hm => n8.out _ hm (H7.out.ij (.inr (.inr (.inr (.inr (.inl (by rw [sf]; simp [ah])))))))
        have Ch := aa c4
        have kO := aa sw
        have Jk := aa fw
        have Jj := aa sf
        have fY := UZ.out
        try simp only [df, if_false] at fY
        rw [Og.out] at fY
        have N9 := aa fY
        have LY : cy < L3.ws.length := mR
        have Jl := aa LY
        have Od : Hid (RES = (VR.1, some n)) := by
         rcases tc.out with h1 | ⟨n', h1, h2⟩
         ·rw [← N9.out] at h1
          simp at h1
         ·have e : n' = n := by rw [← N9.out] at h1; simpa using h1.symm
          rw [h2, e]
          rfl
        have alR : keep.length + 1 ≤ i + 1 := by omega
        have QY : Hid (∀ k : Nat, k < (bv (l0.drop (i + 1))).length → w7.cell? ⟨g0, i + 1 + k, none⟩ = some (.int .i64 (bv (l0.drop (i + 1)))[k]!)) := fun k hk => by
         rw [aR, List.length_drop] at hk
         have h1 := Nz.out.cell (i := i + 1 + k) (by rw [aR, m8 (by simp; omega)]; omega)
         rw [h1, nt, nt, FD (by simp; omega) (by omega), uI]
        have X6 : (bv (l0.drop (i + 1))).length = l0.length - (i + 1) := by rw [aR, List.length_drop]
        have agw := aa X6
        have alZ : IntKind.i64.wrap ((i : Int) + 1) = (i : Int) + 1 := IntWalk.i64_in _ (by omega)
        have sT : (i : Int) + 1 ≤ l0.length := by omega
        have Mg : (0 : Int) ≤ (i : Int) + 1 := by omega
        have rA : i + 1 ≤ l0.length := by omega
        have hb3 : i + 1 ≤ c0 := by omega
        clear fY sw fw sf c4 mR X6
        by_cases sl : c0 = i + 1
        ·subst sl
         refine wp_region_noPanic ?_
         refine bj (fun w' : World => Fr [g0] w7 w') 13 (by kernel_rfl) ((Fr.refl _ w7).drew) (fun dd => ?_)
         apply TB 10 [(0, []), (1, []), (2, []), (3, [3, 13]), (4, []), (6, []), (7, []), (8, []), (9, []), (10, [])]; kernel_rfl; rfl; · (repeat (apply ef; rfl; rfl; (· intro w aY; (try (have aY := aY.resolve_left (aF _ _); (have s4 := aY.aZ Ca.out Ch.out; have s5 := aY.aZ nM.out kO.out))); go_simp <;> with_reducible rfl); try simp only [Act.put, q5, q6, q7])); exact ee
         exact dd; intro dd
         refine R2 5 (by kernel_rfl) (by rfl) dd fun K hK ap => ?_
         (go_simp; refine (KC.out _).mono ?_; rintro e w5 ⟨rfl, rfl⟩; dsimp only)
         refine hK.out _ _ (.inr ?_) (fun eP => ?_)
         ·first | exact ap.ag kh | exact ap
         clear hK K
         try simp only [Act.put, q5, q6, q7]
         refine R2 11 (by kernel_rfl) (by rfl) eP fun K hK ap => ?_
         (refine mv rfl _ _ rfl g0 (i + 1) (keep.length + 1) (bv ((keep ++ [n]) ++ l0.drop (keep ++ [n]).length)) rfl ?AR ⟨g0, 0, none⟩ 0 0 [] rfl rfl (fun k hk => absurd hk (by simp)) (by rw [aR, m8 (by simp; omega)]; simp; omega) ?_; (case AR => first | exact Nz.out.drew | exact Nz.out); intro w8 FZ kh)
         refine hK.out _ _ (.inr ?_) (fun iw => ?_)
         ·first | exact ap.ag kh | exact ap
         clear hK K
         try simp only [Act.put, q5, q6, q7]
         apply TB 1 [(12, [])]; kernel_rfl; rfl; · (repeat (apply ef; rfl; rfl; (· intro w aY; go_simp <;> with_reducible rfl); try simp only [Act.put, q5, q6, q7])); exact ee
         exact iw; intro iw
         refine R2 13 (by kernel_rfl) (by rfl) iw fun K hK ap => ?_
         (have sb := ap.aZ nM.out kO.out; have fb : World.frozen? _ _ = _ := (World.frozen?_of_block (ap.block gw (bt kO.out) nM.out)).trans Jk.out; go_simp)
         refine hK.out _ _ (.inl rfl) (fun kI => ?_)
         clear hK K
         try simp only [Act.put, q5, q6, q7]
         refine az (by kernel_rfl) ?_ _
         refine NoPanic.normal ?_
         have um : (bv ((keep ++ [n]) ++ l0.drop (keep ++ [n]).length)).take (keep.length + 1) = bv (keep ++ [n]) := by
          have := sF (keep := keep ++ [n]) (l0 := l0)
          rw [ai, bu] at this
          rw [ai, bu]
          exact this
         have hdz : l0.drop (i + 1) = [] := List.drop_eq_nil_of_le (by omega)
         have hlz : l0.length - (i + 1) = 0 := by omega
         have Yd : Ints w8 (some ⟨g0, 0, none⟩) (i + 1) (bv ((keep ++ [n]) ++ l0.drop (i + 1))) := by
          have := FZ.nP (keep.length + 1)
          rw [um, dJ, kU (by rw [aR]; simp), dh (by rw [aR]; simp)] at this
          rw [hdz, dJ]
          exact this
         obtain ⟨EA, eJ, _, L8, h8, Cv, yz, O2, sh⟩ := H7.out.Qr (c := cy) Jl.out (A0 := some ⟨g0, 0, none⟩) n8.out Yd ap (fun k hk => .inl hk)
         obtain rfl : gw = EA := by rw [Jj.out] at eJ; simpa using eJ
         have LJ : ((keep ++ [n]) ++ l0.drop (i + 1)).length = keep.length + 1 + (l0.length - (i + 1)) := by simp; omega
         rw [LJ, hlz] at h8 sh
         have ID : L.ext L8 w := by
          refine ⟨Cv.trans gF.out.1, yz.trans gF.out.2.1, fun k hk e => ?_⟩
          rcases O2 k (aQ hk rP.out.size) (e.trans gF.out.2.1.symm) with h1 | h1
          ·exact gF.out.2.2 k hk (h1.trans gF.out.2.1)
          ·rcases CK.out k h1 with h2 | h2
           ·exact (aH.bI.1 h2).2
           ·omega
         have Mq := rP.out.trans sh (fun k hk => by
          rcases aj.1 hk with h1 | h1
          ·exact CK.out k h1
          ·rw [aH.bI] at h1
           rcases bl k w.heap.size with hl | hl
           ·exact .inl (aH.bI.2 ⟨hl, gF.out.2.2 k hl (h1.2.trans gF.out.2.1)⟩)
           ·exact .inr hl)
         have uw : q1.bS cy ((keep ++ [n]) ++ l0.drop (i + 1)) = VR.1 := by rw [← N9.out]
         rw [uw] at h8
         have FF := aa (l8.out VR.1 (some n) Od.out _ L8 h8 ID Mq)
         clear FZ kh Yd h8 ID Mq uw ap sh
         go_wp2_with fail
         go_ret
         exact FF.out
        ·have aiN : c0 - (i + 1) ≠ 0 := by omega
         refine wp_region_noPanic ?_
         refine bj (fun w' : World => Fr [g0] w7 w') 13 (by kernel_rfl) ((Fr.refl _ w7).drew) (fun dd => ?_)
         apply TB 10 [(0, []), (1, []), (2, []), (3, [3, 13]), (4, []), (6, []), (7, []), (8, []), (9, []), (10, [])]; kernel_rfl; rfl; · (repeat (apply ef; rfl; rfl; (· intro w aY; (try (have aY := aY.resolve_left (aF _ _); (have s4 := aY.aZ Ca.out Ch.out; have s5 := aY.aZ nM.out kO.out))); go_simp <;> with_reducible rfl); try simp only [Act.put, q5, q6, q7])); exact ee
         exact dd; intro dd
         refine R2 5 (by kernel_rfl) (by rfl) dd fun K hK ap => ?_
         (go_simp; refine (KC.out _).mono ?_; rintro e w5 ⟨rfl, rfl⟩; dsimp only)
         refine hK.out _ _ (.inr ?_) (fun eP => ?_)
         ·first | exact ap.ag kh | exact ap
         clear hK K
         try simp only [Act.put, q5, q6, q7]
         refine R2 11 (by kernel_rfl) (by rfl) eP fun K hK ap => ?_
         (refine mv rfl _ _ rfl g0 c0 (keep.length + 1) (bv ((keep ++ [n]) ++ l0.drop (keep ++ [n]).length)) rfl ?AQ ⟨g0, i + 1, none⟩ (l0.length - (i + 1)) (c0 - (i + 1)) (bv (l0.drop (i + 1))) agw.out rfl ?DX (by rw [aR, aR, m8 (by simp; omega), List.length_drop]; omega) ?_; (case AQ => first | exact Nz.out.drew | exact Nz.out); (case DX => exact (fun k hk => by rw [dM]; exact QY.out k hk)); intro w8 FZ kh)
         refine hK.out _ _ (.inr ?_) (fun iw => ?_)
         ·first | exact ap.ag kh | exact ap
         clear hK K
         try simp only [Act.put, q5, q6, q7]
         apply TB 1 [(12, [])]; kernel_rfl; rfl; · (repeat (apply ef; rfl; rfl; (· intro w aY; go_simp <;> with_reducible rfl); try simp only [Act.put, q5, q6, q7])); exact ee
         exact iw; intro iw
         refine R2 13 (by kernel_rfl) (by rfl) iw fun K hK ap => ?_
         (have sb := ap.aZ nM.out kO.out; have fb : World.frozen? _ _ = _ := (World.frozen?_of_block (ap.block gw (bt kO.out) nM.out)).trans Jk.out; go_simp)
         refine hK.out _ _ (.inl rfl) (fun kI => ?_)
         clear hK K
         try simp only [Act.put, q5, q6, q7]
         refine az (by kernel_rfl) ?_ _
         refine NoPanic.normal ?_
         have um : (bv ((keep ++ [n]) ++ l0.drop (keep ++ [n]).length)).take (keep.length + 1) = bv (keep ++ [n]) := by
          have := sF (keep := keep ++ [n]) (l0 := l0)
          rw [ai, bu] at this
          rw [ai, bu]
          exact this
         have Yd : Ints w8 (some ⟨g0, 0, none⟩) c0 (bv ((keep ++ [n]) ++ l0.drop (i + 1))) := by
          have := FZ.nP (keep.length + 1 + (l0.length - (i + 1)))
          rw [um] at this
          have e : (bv (keep ++ [n]) ++ bv (l0.drop (i + 1))).length = keep.length + 1 + (l0.length - (i + 1)) := by
           rw [ai, aR, aR, List.length_drop, ai, bu]
          rw [kU (by rw [e]; exact ao _), dh (by rw [e]; exact ao _)] at this
          unfold bv at this ⊢
          rw [bP]
          exact this
         obtain ⟨EA, eJ, _, L8, h8, Cv, yz, O2, sh⟩ := H7.out.Qr (c := cy) Jl.out (A0 := some ⟨g0, 0, none⟩) n8.out Yd ap (fun k hk => .inl hk)
         obtain rfl : gw = EA := by rw [Jj.out] at eJ; simpa using eJ
         have LJ : ((keep ++ [n]) ++ l0.drop (i + 1)).length = keep.length + 1 + (l0.length - (i + 1)) := by simp; omega
         rw [LJ] at h8 sh
         have ID : L.ext L8 w := by
          refine ⟨Cv.trans gF.out.1, yz.trans gF.out.2.1, fun k hk e => ?_⟩
          rcases O2 k (aQ hk rP.out.size) (e.trans gF.out.2.1.symm) with h1 | h1
          ·exact gF.out.2.2 k hk (h1.trans gF.out.2.1)
          ·rcases CK.out k h1 with h2 | h2
           ·exact (aH.bI.1 h2).2
           ·omega
         have Mq := rP.out.trans sh (fun k hk => by
          rcases aj.1 hk with h1 | h1
          ·exact CK.out k h1
          ·rw [aH.bI] at h1
           rcases bl k w.heap.size with hl | hl
           ·exact .inl (aH.bI.2 ⟨hl, gF.out.2.2 k hl (h1.2.trans gF.out.2.1)⟩)
           ·exact .inr hl)
         have uw : q1.bS cy ((keep ++ [n]) ++ l0.drop (i + 1)) = VR.1 := by rw [← N9.out]
         rw [uw] at h8
         have FF := aa (l8.out VR.1 (some n) Od.out _ L8 h8 ID Mq)
         clear FZ kh Yd h8 ID Mq uw ap sh
         go_wp2_with fail
         go_ret
         exact FF.out
      | false =>
       have adN := agO.out rfl
       subst adN
       have fY := U0.out
       simp only [df, if_false, if_true] at fY
       have UY := aa fY
       clear fY
       go_wp2_with fail
       go_roundg (gk - 1)
       case measure => have := HI.out; omega
       case rel => exact ⟨i + 1, keep, q1, L3, by have := HI.out; omega, by omega, rfl, by go_num, UY.out, U1.out.1.less (by simp), CH.out, ⟨by rw [U1.out.2.2.1]; exact nY.out.1, by rw [U1.out.2.1]; exact nY.out.2.1, by rw [U1.out.2.2.2.2]; exact nY.out.2.2⟩, H3.out, gF.out, NH.out, Vo.out, n8.out⟩
     ·obtain rfl : i = l0.length := by omega
      clear HI
      have mR : cy < L2.ws.length := by rw [H2.out.pE, nY.out.2.2]; have := Cg.out; rw [H1L.out] at this; exact this
      obtain ⟨gw, sf, sw, fw⟩ := H2.out.SD mR
      obtain ⟨-, -, -, -, c4, -⟩ := H2.out.cells
      rw [sf, cL.out.1] at c4
      have Ca : Hid (L.a ∉ ah (some ⟨g0, 0, none⟩)) := fun hm => jp.out _ hm (H2.out.ij (.inl (by rw [cL.out.1])))
      have nM : Hid (gw ∉ ah (some ⟨g0, 0, none⟩)) := fun hm => jp.out _ hm (H2.out.ij (.inr (.inr (.inr (.inr (.inl (by rw [sf]; simp [ah])))))))
      have Ch := aa c4
      have kO := aa sw
      have Jk := aa fw
      have Jj := aa sf
      have fY := HVS.out
      rw [List.drop_length] at fY
      simp only [Sv.bH] at fY
      rw [Og.out] at fY
      have vn := H2.out.ql mR
      have Cr := H2.out.pN cy mR
      have JC := sB.out.room cy
      have LB : ∀ k, k ∈ ah (L2.ws[cy]!).A → k ∉ ah (some ⟨g0, 0, none⟩) := fun k hk hm => jp.out k hm (H2.out.ij (.inr (.inr (.inr (.inr (.inr (.inr (.inr (.inr (.inr ⟨cy, mR, hk⟩))))))))))
      unfold Sv.eX at vn fY
      rw [vn] at JC fY
      obtain ⟨⟨A9, c9, l9⟩, Dv⟩ : ∃ x, L2.ws[cy]! = x := ⟨_, rfl⟩
      rw [Dv] at sw Cr JC fY LB
      rw [Dv] at kO
      simp only at sw Cr JC fY kO LB
      have zB := aa Cr
      have N9 := aa fY
      have AW : Ints wr (some ⟨g0, 0, none⟩) c0 (bv keep) := by
       have := lZ.out.nP keep.length
       rw [sF] at this
       exact this
      have Vn := aa AW
      have LY : cy < L2.ws.length := mR
      have Jl := aa LY
      have Od : Hid (Sv.cI f { VR.1 with head := S1.head + 1 } = RES) := by
       rcases tc.out with h1 | ⟨n, h1, _⟩
       ·exact h1.1
       ·rw [← N9.out] at h1
        simp at h1
      have ad5 : keep.length ≤ 4398046511104 := by omega
      clear Dv vn Cr fY AW sw fw sf c4 mR
      go_upto_region 17 with fail
      refine wp_region_noPanic ?_
      refine bj (fun w' : World => Fr (ah (some ⟨g0, 0, none⟩)) wr w') 17 (by kernel_rfl) ((Fr.refl _ wr).drew) (fun dd => ?_)
      apply TB 11 [(0, []), (1, []), (2, []), (3, [3, 17]), (4, []), (6, []), (7, []), (8, []), (9, []), (10, [10, 17]), (11, [])]; kernel_rfl; rfl; · (repeat (apply ef; rfl; rfl; (· intro w aY; (try (have aY := aY.resolve_left (aF _ _); (have s4 := aY.aZ Ca.out Ch.out; have s5 := aY.aZ nM.out kO.out))); go_simp <;> with_reducible rfl); try simp only [Act.put, q5, q6, q7])); exact ee
      exact dd; intro dd
      refine R2 5 (by kernel_rfl) (by rfl) dd fun K hK ap => ?_
      (go_simp; refine (KC.out _).mono ?_; rintro e w5 ⟨rfl, rfl⟩; dsimp only)
      refine hK.out _ _ (.inr ?_) (fun iw => ?_)
      ·first | exact ap.ag jl | exact ap
      clear hK K
      try simp only [Act.put, q5, q6, q7]
      refine R2 12 (by kernel_rfl) (by rfl) iw fun K hK ap => ?_
      (go_simp; refine (KC.out _).mono ?_; rintro e w5 ⟨rfl, rfl⟩; dsimp only)
      refine hK.out _ _ (.inr ?_) (fun iu => ?_)
      ·first | exact ap.ag jl | exact ap
      clear hK K
      try simp only [Act.put, q5, q6, q7]
      apply TB 2 [(13, []), (14, [14, 17])]; kernel_rfl; rfl; · (repeat (apply ef; rfl; rfl; (· intro w aY; (try (have aY := aY.resolve_left (aF _ _); (have s4 := aY.aZ Ca.out Ch.out; have s5 := aY.aZ nM.out kO.out))); go_simp <;> with_reducible rfl); try simp only [Act.put, q5, q6, q7])); exact ee
      exact iu; intro iu
      refine R2 15 (by kernel_rfl) (by rfl) iu fun K hK ap => ?_
      (refine kp rfl _ _ rfl (some ⟨g0, 0, none⟩) c0 (bv keep) _ rfl (aR keep).symm ?AP A9 _ c9 (bv l9) (aR l9) rfl ?DW (by rw [aR, aR]; omega) ?_; (case AP => first | exact Vn.out.drew | exact Vn.out); (case DW => first | exact zB.out.drew | exact zB.out); intro A' cap w7 yA jl YH XD)
      refine hK.out _ _ (.inr ?_) (fun kH => ?_)
      ·first | exact ap.ag jl | exact ap
      clear hK K
      try simp only [Act.put, q5, q6, q7]
      apply TB 1 [(16, [])]; kernel_rfl; rfl; · (repeat (apply ef; rfl; rfl; (· intro w aY; go_simp <;> with_reducible rfl); try simp only [Act.put, q5, q6, q7])); exact ee
      exact kH; intro kH
      refine R2 17 (by kernel_rfl) (by rfl) kH fun K hK ap => ?_
      (have sb := ap.aZ nM.out kO.out; have fb : World.frozen? _ _ = _ := (World.frozen?_of_block (ap.block gw (bt kO.out) nM.out)).trans Jk.out; go_simp)
      refine hK.out _ _ (.inl rfl) (fun iS => ?_)
      clear hK K
      try simp only [Act.put, q5, q6, q7]
      refine az (by kernel_rfl) ?_ _
      refine NoPanic.normal ?_
      have FZ : Ints w7 A' cap (bv (keep ++ l9)) := by
       have := yA
       unfold bv at this ⊢
       rw [bP]
       exact this
      obtain ⟨EA, eJ, _, L8, h8, Cv, yz, O2, kh⟩ := H2.out.Qr (c := cy) Jl.out (A0 := (some ⟨g0, 0, none⟩)) jp.out FZ ap (fun k hk => (YH k hk).imp id (fun e => by rw [e]; exact ao _))
      obtain rfl : gw = EA := by rw [Jj.out] at eJ; simpa using eJ
      simp only [ai] at h8 kh
      obtain ⟨W8, N2⟩ : ∃ W, w7.setCell ⟨gw, cy, none⟩ (.slice A' (keep.length + l9.length) cap) = W := ⟨_, rfl⟩
      rw [N2] at h8 kh ⊢
      have ID : L.ext L8 w := by
       refine ⟨Cv.trans cL.out.1, yz.trans cL.out.2.1, fun k hk e => ?_⟩
       rcases O2 k (aQ hk cJ.out.size) (e.trans cL.out.2.1.symm) with h1 | h1
       ·exact cL.out.2.2 k hk (h1.trans cL.out.2.1)
       ·rcases CK.out k h1 with h2 | h2
        ·exact (aH.bI.1 h2).2
        ·omega
      have Mq : Fr (L.own w) w W8 := cJ.out.trans kh (fun k hk => by
       rcases aj.1 hk with h1 | h1
       ·exact CK.out k h1
       ·rw [aH.bI] at h1
        rcases bl k w.heap.size with hl | hl
        ·exact .inl (aH.bI.2 ⟨hl, cL.out.2.2 k hl (h1.2.trans cL.out.2.1)⟩)
        ·exact .inr hl)
      have uw : S2.bS cy (keep ++ l9) = VR.1 := by rw [← N9.out]
      rw [uw] at h8
      have Yf := E0.out.2.2.1
      have Yg : VR.1.head = S1.head := Yf
      have Jw : VR.1.vars = S1.vars := E0.out.2.1
      have TX : S1.T.lits.length ≤ VR.1.T.lits.length := by
       have := Sv.jQ off l0 [] (S1.bS cy [])
       rw [U3.out] at this
       exact this
      have c8 := h8.cells.2.2.2.2.2.2.2.2.1
      have f8 := h8.obj.frozen 8
      rw [Yg] at c8
      rw [Cv.trans cL.out.1] at c8 f8
      obtain ⟨h9, sh⟩ := h8.sD (S1.head + 1)
      rw [Cv.trans cL.out.1] at h9 sh
      have H9 := aa h9
      have vf := aa (aH.aI ID Mq sh)
      have HE9 := aa ID
      have Vf : Hid (({ VR.1 with head := S1.head + 1 } : Sv).Ok 0) := (by
       have o := E0.out.1
       exact ⟨o.vl, o.tr, o.hi, o.hl, o.ph, o.wl, o.ll, o.wb, o.wt, o.lr, o.ln, o.lb, by show S1.head + 1 ≤ VR.1.T.lits.length; omega, o.rs⟩ : ({ VR.1 with head := S1.head + 1 } : Sv).Ok 0)
      have UX := aa Jw
      have hhb : S1.head ≤ 262143 := by omega
      clear N2 h8 kh ID Mq uw Yf Yg Jw TX h9 sh yA jl YH XD FZ O2 Cv yz ap
      go_wp2_with fail
      go_roundg f
      case measure => omega
      case rel => exact ⟨{ VR.1 with head := S1.head + 1 }, L8, Od.out, (by show VR.1.vars + 1 ≤ f + (S1.head + 1); have := Wn.out; have := UX.out; omega), Vf.out, H9.out, HE9.out, vf.out⟩
     
  ·have hd : decide ((S1.head : Int) < (S1.T.lits.length : Int)) = false := decide_eq_false (by omega)
   have HRZ : Hid (RES = (S1, none)) := by
    have h1 := oY.out
    rw [lD bM] at h1
    exact h1.symm
   go_wp2_with fail
   refine al (by kernel_rfl) (by kernel_rfl) ?_
   repeat (go_big_quiet_step (exact aV (KL.out _)))
   refine wpQuiet_nil ?_
   rintro w2 ⟨u2, bJ⟩
   have aT : Hid (Fr [] wr w2) := bJ ▸ u2.fr
   clear bJ u2
   have FF := aa (l8.out S1 none HRZ.out w2 L1 (H1.out.keep aT.out) dV.out (dv.out.ag (aT.out.mono (fun k hk => by cases hk))))
   clear e0 e8 c0 c8 KL hd
   go_wp2_with fail
   go_ret
   exact FF.out
theorem PC.len {V : Hp} (h : PC V) : V.items.length ≤ V.at_.length := by
 have hn : (V.items.map Int.toNat).Nodup := by
  unfold List.Nodup
  rw [List.pairwise_map, List.pairwise_iff_getElem]
  intro i j hi hj rt e
  have ri := h.m9 i hi
  have rj := h.m9 j hj
  have gi : V.items[i]! = V.items[i] := by simp [ae, af hi]
  have gj : V.items[j]! = V.items[j] := by simp [ae, af hj]
  have := h.inj hi hj (by rw [gi, gj]; rw [gi] at ri; rw [gj] at rj; omega)
  omega
 have := i9 V.at_.length _ hn (fun x hx => by
  rw [bE] at hx
  obtain ⟨y, hy, rfl⟩ := hx
  obtain ⟨i, hi, e⟩ := List.getElem_of_mem hy
  have ri := h.m9 i hi
  have gi : V.items[i]! = V.items[i] := by simp [ae, af hi]
  rw [gi, e] at ri
  omega)
 simpa using this
theorem eW.bX (L : eW) (w : World) : L.ext L w := ⟨rfl, fun _ h => .inl h, fun h => h⟩
theorem ul (w : World) (L : eW) (H : Hp) (h : b8 w L H) (hi : HI H) (hl : H.at_.length ≤ 262145) (x : Int) :
  Calls Tryz.prog 114 #[.pointer (some ⟨L.a, 0, none⟩), .int .i64 x] w fun e w' => ∃ b, e = .returned (.bool b) ∧ ∃ L', b8 w' L' (Sv.io H x) ∧ L.ext L' w ∧ Fr L.fp w w' := by
 unfold Sv.io
 have vq := hi.pc.len
 by_cases hb : H.gX x = true ∧ H.pl x < 0
 ·rw [if_pos hb]
  refine (vR w L H h hi.pc.m9 x hb.1 hb.2 (by omega)).mono ?_
  rintro e w' ⟨rfl, L', h1, h2, h3⟩
  exact ⟨_, rfl, L', h1, h2, h3⟩
 ·rw [if_neg hb]
  refine (yF w L H h x ?_).mono ?_
  ·cases hc : H.gX x with
   | false => exact .inl rfl
   | true => exact .inr ⟨rfl, Int.not_lt.1 fun h => hb ⟨hc, h⟩⟩
  rintro e w' ⟨rfl, rfl⟩
  exact ⟨_, rfl, L, h, eW.bX _ _, Fr.refl _ _⟩
theorem Bd (w : World) (L : eW) (H : Hp) (h : b8 w L H) (hi : HI H) (x b : Int) :
  Calls Tryz.prog 178 #[.pointer (some ⟨L.a, 0, none⟩), .int .i64 x, .int .i64 b] w fun e w' => e = .returned (.tuple #[]) ∧ b8 w' L (Sv.ol H x b) ∧ Fr L.fp w w' := by
 unfold Sv.ol
 by_cases hb : H.gX x = true ∧ 0 ≤ b ∧ b ≤ 1099511627776 ∧ H.sc x ≤ 1125899906842624 - b
 ·rw [if_pos hb]
  obtain ⟨h1, h2, h3, h4⟩ := hb
  have hx := Hp.cQ h1
  have hs := hi.SJ x.toNat (by rw [← hi.same]; omega)
  have xg : H.pl x < H.items.length := by
   unfold Hp.pl
   by_cases h0 : 0 ≤ H.at_[x.toNat]!
   ·have := (hi.pc.inv x.toNat (by omega) h0).1
    omega
   ·omega
  exact uk w L H h hi.pc.m9 x b h1 h2 h3 h4 hs xg
 ·rw [if_neg hb]
  refine (vQ w L H h x b hb).mono ?_
  rintro e w' ⟨rfl, rfl⟩
  exact ⟨rfl, h, Fr.refl _ _⟩
theorem HI.io {H : Hp} (h : HI H) (x : Int) : HI (Sv.io H x) ∧ (Sv.io H x).at_.length = H.at_.length := by
 unfold Sv.io
 split
 ·rename_i hb
  have := h.push hb.1 hb.2
  exact ⟨this.1, this.2.2.2.1⟩
 ·exact ⟨h, rfl⟩
theorem aK.Rh {w : World} {L : aH} {S : Sv} (h : aK w L S) {v : Nat} (hv : v < S.phase.length) (b : Bool) :
  ∃ gp, L.pA = some ⟨gp, 0, none⟩ ∧ w.cell? ⟨gp, v, none⟩ = some (.bool S.phase[v]!) ∧ w.frozen? ⟨gp, v, none⟩ = false ∧ aK (w.setCell ⟨gp, v, none⟩ (.bool b)) L { S with phase := S.phase.set v b } ∧ Fr (L.own w) w (w.setCell ⟨gp, v, none⟩ (.bool b)) := by
 have r := h.sE
 unfold Bools at r
 obtain ⟨gp, hg, ru⟩ : ∃ gp, L.pA = some ⟨gp, 0, none⟩ ∧ gp < w.heap.size := by
  rcases r.2 with ⟨_, h2⟩ | ⟨g, cap, cur, hv, _, hg, _⟩
  ·omega
  ·simp only [Value.slice.injEq, true_and] at hv
   exact ⟨g, hv.1, At.lt (t := 4) hg⟩
 rw [hg] at r
 have jy : L.cv gp = (L.id, 5, 0) := h.t5 gp (by rw [hg]; simp [ah])
 have hf : Fr [gp] w (w.setCell ⟨gp, v, none⟩ (.bool b)) := (Fr.refl _ w).setCell (.inl (by simp)) _
 have o := h.off (P := (· = (5, 0))) hf (fun k hk hl => ⟨_, rfl, by simp at hk; subst hk; exact jy⟩)
 have ni := (World.ownsRow.stored r v (.bool b)).1
 refine ⟨gp, hg, ?_, World.ownsRow.frozenAt r v, ⟨?_, o.tr (by decide), o.hp (by decide), h.gy, h.yP, h.yN, o.sG (by decide), o.rws (by decide), ?_, o.vh (by decide), o.rV (by decide), fun n hn => o.nK n hn (by simp), fun n hn => o.pN n hn (by simp),
  h.t0, h.t1, h.t2, h.t3, h.t4, h.t5, h.t6, h.t7, h.t8, h.t9⟩, aH.fE hf (fun k hk hl => by simp at hk; subst hk; rw [jy])⟩
 ·rw [World.ownsRow.cellAt r v (by omega)]
  simp only [bh, af hv, dc, ae, aq]
 ·have := o.obj (by decide)
  simp only [m7, ak] at this ⊢
  exact this
 ·unfold Bools
  simp only [ak, List.map_set]
  rw [hg]
  exact ni
theorem aK.SK {w : World} {L : aH} {S : Sv} (h : aK w L S) {v : Nat} (hv : v < S.phase.length) :
  ∃ gp, L.pA = some ⟨gp, 0, none⟩ ∧ w.cell? ⟨gp, v, none⟩ = some (.bool S.phase[v]!) ∧ w.frozen? ⟨gp, v, none⟩ = false := by
 obtain ⟨gp, h1, h2, h3, _⟩ := h.Rh hv false
 exact ⟨gp, h1, h2, h3⟩
namespace Sv
def pY (S : Sv) (l : Int) : Sv := { S with phase := S.phase.set (tv l).toNat (decide (0 < l)), H := io S.H (tv l) }
theorem BZ {S : Sv} {level l : Int} {r : List Int} (h : ¬ S.T.cK (tv l) ≤ level) : dy level (l :: r) S = dy level r (S.pY l) := by
 simp only [dy]
 rw [if_neg h]
 rfl
theorem uY {S : Sv} {level l : Int} {r : List Int} (h : S.T.cK (tv l) ≤ level) : dy level (l :: r) S = S := by
 simp only [dy]
 rw [if_pos h]
theorem Ok.pY {S : Sv} {m : Nat} (ok : S.Ok m) (l : Int) : (S.pY l).Ok m := by
 obtain ⟨h1, h2⟩ := ok.hi.io (tv l)
 exact ⟨ok.vl, ok.tr, h1, by show (Sv.io S.H (tv l)).at_.length = _; rw [h2]; exact ok.hl, by show (S.phase.set _ _).length = _; rw [ak]; exact ok.ph, ok.wl, ok.ll, ok.wb, ok.wt, ok.lr, ok.ln, ok.lb, ok.hd, ok.rs⟩
theorem Ok.cut {S : Sv} {m : Nat} (ok : S.Ok m) (level : Nat) (hl : level < S.T.levels.length) :
  ({ S with T := S.T.cD level, head := min S.head (S.T.cD level).lits.length } : Sv).Ok m ∧ (S.T.cD level).levels.length = level := by
 obtain ⟨R, hR⟩ := ok.tr
 have hb := hR.back level hl
 have hd := hb.dep
 have rA : TRep (S.T.cD level) S.vars (R.filter (fun e : St => decide (e.l ≤ (level : Int)))) (S.T.cD level).levels.length := by
  rw [hd]
  exact hb
 refine ⟨⟨ok.vl, ⟨_, rA⟩, ok.hi, ok.hl, ok.ph, ok.wl, ok.ll, ok.wb, ok.wt, ok.lr, ok.ln, ok.lb, Nat.min_le_right _ _, fun v => ?_⟩, hd⟩
 have e := hb.eD v
 have e0 := hR.eD v
 have hok := ok.rs v
 show 0 ≤ (S.T.cD level).eD v ∧ (S.T.cD level).eD v ≤ _
 rw [e]
 cases hk : look (R.filter (fun e : St => decide (e.l ≤ (level : Int)))) v with
 | none => simp
 | some x =>
  obtain ⟨hm, hv⟩ := gv hk
  have hx := fR hR.nd (List.mem_filter.1 hm).1
  rw [hv] at hx
  rw [hx] at e0
  simp only at e0 ⊢
  rw [← e0]
  exact hok
theorem ic (level : Int) : ∀ (r : List Int) (S : Sv) (m : Nat), S.Ok m → (dy level r S).Ok m ∧ (dy level r S).T = S.T ∧ (dy level r S).head = S.head ∧ (dy level r S).vars = S.vars ∧ (dy level r S).list = S.list
 | [], S, m, ok => ⟨ok, rfl, rfl, rfl, rfl⟩
 | l :: r, S, m, ok => by
  by_cases h : S.T.cK (tv l) ≤ level
  ·rw [uY h]
   exact ⟨ok, rfl, rfl, rfl, rfl⟩
  ·rw [BZ h]
   exact ic level r _ m (ok.pY l)
theorem Ok.back {S : Sv} {m : Nat} (ok : S.Ok m) (level : Nat) : (S.back level).Ok m ∧ (S.back level).vars = S.vars ∧ (S.back level).list = S.list := by
 unfold Sv.back
 split
 ·exact ⟨ok, rfl, rfl⟩
 ·rename_i h
  obtain ⟨h1, h2, h3, h4, h5⟩ := ic (level : Int) S.T.lits.reverse S m ok
  have := (h1.cut level (by rw [h2]; omega)).1
  exact ⟨this, h4, h5⟩
end Sv
end Go.Proofs.YtpjbaobgnhjgoaaGreat
