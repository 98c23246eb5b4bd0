/- Parts of a proof. -/
import Derived.Test.YtpjbaobgnhjgoaaGreatGAG
set_option linter.unusedVariables false
set_option linter.unusedSimpArgs false
namespace Go.Proofs.YtpjbaobgnhjgoaaGreat
open Go.RowKit
def Zb (S1 : Sv) (l : List Int) (cO : Int) (L : aH) (w : World) (e : Ending) (w' : World) : Prop :=
 ∃ (A' : Option Addr) (c' : Nat), e = .returned (.tuple #[.slice A' l.length c', .int .i64 cO]) ∧ ∃ L', aK w' L' S1 ∧ L.ext L' w ∧ Ints w' A' c' l ∧ (∀ k, k ∈ ah A' → w.heap.size ≤ k ∧ (L'.cv k).1 ≠ L'.id) ∧ Fr (L.own w) w w'
set_option maxRecDepth 100000 in
set_option maxHeartbeats 16000000 in
theorem vJ (w : World) (L : aH) (S : Sv) (h : aK w L S) (m : Nat) (ok : S.Ok m) (n : Nat) (hn : n < S.list.length) (S1 : Sv) (l : List Int) (cO : Int) (fa : S.gO n = some (S1, l, cO)) :
  Calls Tryz.prog 138 #[.pointer (some ⟨L.a, 0, none⟩), .int .i64 n] w (Zb S1 l cO L w) := by
 have nT := ok.vl
 have vq := ok.ll
 have hNl := ok.gq
 obtain ⟨GE, xe, hLL, Cz, hl, LH⟩ : ∃ (GE : Sv.Gr) (xe : Int), Sv.eZ (S.T.lits.length + 1) ⟨S, [], 0, [0]⟩ n 0 S.T.lits.reverse = some (GE, xe) ∧ GE.S = S1 ∧
   (Sv.second GE.S.T (GE.a8.set 0 (-xe)).length 1 (GE.a8.set 0 (-xe)) 0).1 = l ∧ (Sv.second GE.S.T (GE.a8.set 0 (-xe)).length 1 (GE.a8.set 0 (-xe)) 0).2 = cO := by
  unfold Sv.gO at fa
  cases hq : Sv.eZ (S.T.lits.length + 1) ⟨S, [], 0, [0]⟩ n 0 S.T.lits.reverse with
  | none => rw [hq] at fa; cases fa
  | some q =>
   obtain ⟨G, x⟩ := q
   rw [hq] at fa
   simp only [Option.some.injEq, Prod.mk.injEq] at fa
   exact ⟨G, x, rfl, fa.1, fa.2.1, fa.2.2⟩
 have oN := aa hLL
 have Oc := aa Cz
 have HL := aa hl
 have QW := aa LH
 have kQ := aa ok
 have CK := aa (fW.new h)
 have Zw : Hid (Sv.lK S m ⟨S, [], 0, [0]⟩) := ⟨rfl, rfl, rfl, rfl, ok, fun x hx => by simp at hx; subst hx; omega, by simp⟩
 have HE0 := aa (L.kq w)
 have Ce : Hid (Fr [] w (((w.alloc (.map #[] 0)).alloc (.cells #[.int .i64 0] 3)).alloc (.cells #[.pointer (some ⟨L.a, 0, none⟩), .map (some w.heap.size), .int .i64 0, .slice (some ⟨w.heap.size + 1, 0, none⟩) 1 1] 183))) := (((Fr.refl [] w).alloc _).alloc _).alloc _
 have c0 := Ce.out.av h.cells.1
 have vO := @run_makeMap Tryz.prog
 have KL := aa (jk _ L.tL S.T (h.tr.fr Ce.out (by simp)))
 have ep : IntKind.i64.wrap ((S.T.lits.length : Int) - 1) = (S.T.lits.length : Int) - 1 := IntWalk.i64_in _ (by omega)
 clear hLL Cz hl LH fa h ok
 go_enter Tryz.func138, Tryz.ntmps138
 go_wp2_with fail
 refine KL.out.mono ?_
 clear KL
 rintro e w1 ⟨rfl, hw⟩
 obtain ⟨W1, ik⟩ : ∃ W1, W1 = w1 := ⟨_, rfl⟩
 rw [hw] at CK Ce
 have hSZ : w.heap.size + 1 < w1.heap.size := by rw [← hw]; simp
 clear hw vO c0 ik W1
 go_wp2_with fail
 clear ep
 go_loopg [1, 7, 8] (S.T.lits.length + 1) (fun g x1 x7 x8 wr => ∃ (G1 : Sv.Gr) (n1 sk : Int) (j : Nat) (L1 : aH) (X1 : j8) (nm : Nat), x1 = .int .i64 n1 ∧ x7 = .int .i64 sk ∧ x8 = .int .i64 ((j : Int) - 1) ∧ j ≤ S.T.lits.length ∧ -1 ≤ n1 ∧ n1 < S.list.length ∧ -(S.vars : Int) ≤ sk ∧ sk ≤ S.vars ∧
   Hid (Sv.eZ g G1 n1 sk (S.T.lits.take j).reverse = some (GE, xe)) ∧ Hid (fW wr L1 X1 nm G1) ∧ Hid (Sv.lK S m G1) ∧ Hid (nm + 1048577 * g ≤ 300000000000 ∧ G1.a8.length + 1048577 * g ≤ 300000000001 ∧ G1.fg + 1048577 * (g : Int) ≤ 300000000000 ∧ (g : Int) - 262145 ≤ G1.fg) ∧
   Hid (X1.gb = w.heap.size + 1 + 1) ∧ Hid (∀ k, k ∈ X1.own → w.heap.size ≤ k) ∧ Hid (L.ext L1 w) ∧ Hid (Fr (L.own w) w wr))
 case atStart => exact ⟨⟨S, [], 0, [0]⟩, n, 0, S.T.lits.length, L.seal w, _, 0, rfl, rfl, rfl, ao _, by omega, by omega, by omega, by omega, by rw [fO]; exact oN.out, CK.out, Zw.out, ⟨by omega, by simp; omega, by simp; omega, by simp; omega⟩, rfl, fun k hk => by simp [j8.own, ah] at hk; omega, HE0.out, Ce.out.mono (fun k hk => by cases hk)⟩
 case round =>
  obtain ⟨G1, n1, sk, j, L1, X1, nm, rfl, rfl, rfl, hj, jZ, se, alw, alv, HR, HB, HN, Sx, Sa, JP, HE, HF⟩ := hrel
  obtain ⟨f, rfl⟩ : ∃ f, gk = f + 1 := ⟨gk - 1, by
   rcases gk with _ | g
   ·exact absurd HR.out (by rw [Sv.jX]; simp)
   ·omega⟩
  have oY : Hid (Sv.dA f (Sv.dF G1 n1 sk) (S.T.lits.take j).reverse = some (GE, xe)) := by rw [← Sv.kB]; exact HR.out
  clear HR oN CK Zw HE0 Ce
  by_cases hp : 0 ≤ n1
  ·obtain ⟨nn, rfl⟩ : ∃ nn : Nat, n1 = nn := ⟨n1.toNat, by omega⟩
   have Jz : nn < S.list.length := by omega
   have qf : nn < L1.cs.length := by rw [HB.out.sv.lU, HN.out.len]; exact Jz
   obtain ⟨gc, gY, x0, x1, x2⟩ := HB.out.sv.nR qf
   have fm := HB.out.sv.nS qf
   obtain ⟨rz, -⟩ := HB.out.sv.act qf gY G1.S.used
   have wy := aa (HB.out.act qf gY G1.S.used)
   have vw : (L1.cs.set nn { L1.cs[nn]! with act := (G1.S.used : Int) })[nn]! = { L1.cs[nn]! with act := (G1.S.used : Int) } := by rw [du, if_pos ⟨rfl, qf⟩]
   obtain ⟨⟨A, c, ls, b, ac⟩, hx⟩ : ∃ x, L1.cs[nn]! = x := ⟨_, rfl⟩
   rw [hx] at x0 fm vw wy
   simp only [Cw.rc] at x0 fm wy
   have ZZ := aa vw
   have Zv := aa (HN.out.fV nn)
   have nU : (G1.S.rc nn).lits = ls := by rw [fm]
   have Gz : Hid (L1.a = L.a) := HE.out.1
   obtain ⟨c0, -, -, c3, -, -, -, -, -, c9, -⟩ := HB.out.sv.cells
   rw [Gz.out] at c0 c3 c9
   rw [gY] at c3
   have AV : L1.cs.length = S.list.length := by rw [HB.out.sv.lU, HN.out.len]
   rw [AV] at c3
   obtain ⟨-, -, -, d3, -⟩ := wy.out.sv.cells
   simp only [ak] at d3
   rw [Gz.out, gY, AV] at d3
   have y0 : ((wr.setCell ⟨gc, nn * 3 + 2, none⟩ (.int .i64 G1.S.used)).drew).cell? ⟨gc, nn * 3, none⟩ = some (.slice A ls.length c) := by
    have TP : nn < (L1.cs.set nn { A := A, c := c, lits := ls, jI := b, act := (G1.S.used : Int) }).length := by rw [ak]; exact qf
    obtain ⟨g', nq, z0, -, -⟩ := wy.out.sv.nR TP
    rw [gY] at nq
    obtain rfl : gc = g' := by simpa using nq
    rw [vw] at z0
    exact z0
   have HRW : Hid (Ints (wr.setCell ⟨gc, nn * 3 + 2, none⟩ (.int .i64 G1.S.used)).drew A c ls) := by
    have TP : nn < (L1.cs.set nn { A := A, c := c, lits := ls, jI := b, act := (G1.S.used : Int) }).length := by rw [ak]; exact qf
    have := wy.out.sv.nK nn TP
    rw [vw] at this
    exact this
   have HL8 : Hid (∀ k, k ∈ ah A → (L1.cv k).1 = L1.id) := fun k hk => by
    have := HB.out.sv.t8 nn qf k (by rw [hx]; exact hk)
    rw [this]
   have HT8 : Hid (∀ k, k ∈ ah A → L1.cv k = (L1.id, 8, nn)) := fun k hk => HB.out.sv.t8 nn qf k (by rw [hx]; exact hk)
   have HLB : Hid (ls.length ≤ 1048576) := by have := HN.out.ok.lb nn; rw [nU] at this; exact this
   have oM : Hid (∀ x ∈ ls, -(S.vars : Int) ≤ x ∧ x ≤ S.vars) := fun x hx => by
    have := HN.out.ok.lr nn x (by rw [nU]; exact hx)
    rw [HN.out.vars] at this
    exact this.2
   have zD : Hid (Sv.dF G1 nn sk = Sv.meets sk ls { G1 with S := G1.S.fV nn }) := by
    show _ = _
    unfold Sv.dF
    rw [if_pos (by omega), Int.toNat_natCast, nU]
   have cJ : Hid (Fr (L.own w) w (wr.setCell ⟨gc, nn * 3 + 2, none⟩ (.int .i64 G1.S.used)).drew) := (HF.out.setCell (by
    rcases bl gc w.heap.size with hl | hl
    ·left
     rw [aH.bI]
     exact ⟨hl, HE.out.2.2 gc hl (by rw [HB.out.sv.t3 gc (by rw [gY]; simp [ah])]; exact HE.out.2.1)⟩
    ·exact .inr hl) _).drew
   have HGB : Hid (∀ k, k ∈ X1.own → w.heap.size ≤ k) := JP.out
   clear vw fm hx nU gY AV
   go_wp2_with fail
   go_region
   obtain ⟨W2, RV⟩ : ∃ W, (wr.setCell ⟨gc, nn * 3 + 2, none⟩ (.int .i64 G1.S.used)).drew = W := ⟨_, rfl⟩
   rw [RV] at wy d3 y0 HRW cJ ⊢
   have Y4 := wy.out.sv.cells.1
   clear RV c0 c3 c9 x0 x1 x2 rz HB
   go_wp2_with fail
   clear d3 y0 Y4
   obtain ⟨L2, Uv⟩ : ∃ L2, { L1 with cs := L1.cs.set nn { A := A, c := c, lits := ls, jI := b, act := (G1.S.used : Int) } } = L2 := ⟨_, rfl⟩
   have uh : L2.cv = L1.cv ∧ L2.id = L1.id ∧ L2.a = L1.a ∧ L2.hL = L1.hL := by rw [← Uv]; exact ⟨rfl, rfl, rfl, rfl⟩
   have lY := aa uh
   rw [Uv] at wy
   have cL : Hid (L.ext L2 w) := ⟨uh.2.2.1.trans HE.out.1, uh.2.1.trans HE.out.2.1, fun k hk e => HE.out.2.2 k hk (by rw [← uh.1]; exact e)⟩
   have HRF : Hid (∀ k, k ∈ ah A → L2.cv k = (L2.id, 8, nn)) := fun k hk => by rw [uh.1, uh.2.1]; exact HT8.out k hk
   have HGS : Hid (({ G1 with S := G1.S.fV nn } : Sv.Gr) = { G1 with S := { G1.S with list := G1.S.list.set nn { G1.S.rc nn with act := G1.S.used } } }) := rfl
   clear Uv uh HL8 HT8 ZZ HE HF
   go_loopg [46] ls.length (fun g2 x46 wi => ∃ (k : Nat) (Gk : Sv.Gr) (Xk : j8) (nk : Nat), k + g2 = ls.length ∧ x46 = .int .i64 k ∧ Hid (Sv.meets sk (ls.drop k) Gk = Sv.dF G1 nn sk) ∧ Hid (fW wi L2 Xk nk Gk) ∧ Hid (Sv.lK S m Gk) ∧ Hid (nk ≤ nm + k ∧ Gk.a8.length ≤ G1.a8.length + k ∧ Gk.fg ≤ G1.fg + k ∧ G1.fg ≤ Gk.fg) ∧
     Hid (Xk.gb = w.heap.size + 1 + 1) ∧ Hid (∀ k, k ∈ Xk.own → w.heap.size ≤ k) ∧ Hid (Ints wi A c ls) ∧ Hid (Fr (L.own w) w wi))
   case atStart => exact ⟨0, { G1 with S := G1.S.fV nn }, X1, nm, by omega, rfl, zD.out.symm, HGS.out ▸ wy.out, Zv.out, ⟨by omega, by simp, by simp, by simp⟩, Sa.out, HGB.out, HRW.out, cJ.out⟩
   case round =>
    obtain ⟨k, Gk, Xk, nk, hk, rfl, HM, Sw, E6, Cj, u6, sA, ZI, HFk⟩ := hrel
    have HK := aa hk
    have nH : k ≤ ls.length := by omega
    have ug := HLB.out
    clear hk
    by_cases bM : k < ls.length
    ·obtain ⟨ga, hA, ru⟩ := ZI.out.pos bM
     subst hA
     have cy := ZI.out.cell bM
     obtain ⟨y, hy⟩ : ∃ y, ls[k]! = y := ⟨_, rfl⟩
     rw [hy] at cy
     have Hj := oM.out y (by rw [← hy]; exact get_mem bM)
     have vv : ls.drop k = y :: ls.drop (k + 1) := by
      rw [List.drop_eq_getElem_cons bM, ← hy]
      simp only [ae, af bM, aq]
     have Wq := aa vv
     obtain ⟨Xi, Xh⟩ := Hj
     clear vv hy ru
     by_cases LA : y = sk
     ·have hd : (y == sk) = true := by simp [LA]
      have E7 : Hid (Sv.meets sk (ls.drop (k + 1)) Gk = Sv.dF G1 nn sk) := by
       have := HM.out
       rw [Wq.out, Sv.meets, if_neg (fun h => h LA)] at this
       exact this
      clear LA
      go_wp2_with fail
      go_roundg (ls.length - (k + 1))
      case measure => have := HK.out; omega
      case rel => exact ⟨k + 1, Gk, Xk, nk, by have := HK.out; omega, by go_num, E7.out, Sw.out, E6.out, (by have := Cj.out; exact ⟨by omega, by omega, by omega, by omega⟩), u6.out, sA.out, ZI.out, HFk.out⟩
     ·have hd : (y == sk) = false := by simp [LA]
      have E7 : Hid (Sv.meets sk (ls.drop (k + 1)) (Sv.meet Gk y) = Sv.dF G1 nn sk) := by
       have := HM.out
       rw [Wq.out, Sv.meets, if_pos LA] at this
       exact this
      have KM := aa (De wr L2 Xk nk Gk Sw.out m E6.out.ok y (by rw [E6.out.vars]; exact Xi) (by rw [E6.out.vars]; exact Xh) (by have := Cj.out; have := Sx.out; unfold maxLen; omega) (by have := Cj.out; have := Sx.out; omega) (by have := Cj.out; have := Sx.out; omega) (by have := Cj.out; have := Sx.out; omega))
      rw [u6.out] at KM
      clear LA
      go_wp2_with fail
      refine KM.out.mono ?_
      clear KM cy
      rintro e wj ⟨rfl, Xj, nj, hbj, hnj, hgj, hmj, haj, hfj⟩
      have HBj := aa hbj
      have HNj := aa (E6.out.meet ⟨Xi, Xh⟩)
      have Hu := Sv.wW Gk y
      have ag5 : Hid (nj ≤ nm + (k + 1) ∧ (Sv.meet Gk y).a8.length ≤ G1.a8.length + (k + 1) ∧ (Sv.meet Gk y).fg ≤ G1.fg + ((k + 1 : Nat) : Int) ∧ G1.fg ≤ (Sv.meet Gk y).fg) := by
       have := Cj.out
       exact ⟨by omega, by omega, by omega, by omega⟩
      have hz : w.heap.size ≤ wr.heap.size := HFk.out.size
      have afD : Hid (∀ k, k ∈ Xj.own → w.heap.size ≤ k) := fun q hq => by
       simp only [j8.own, ay] at hq
       rcases hq with rfl | rfl | hq
       ·exact sA.out _ (by simp [j8.own, hgj])
       ·exact sA.out _ (by simp [j8.own, hmj])
       ·rcases haj q hq with h5 | h5
        ·exact sA.out _ (by simp [j8.own, h5])
        ·omega
      have afE : Hid (Xj.gb = w.heap.size + 1 + 1) := hgj.trans u6.out
      have HFj := aa (Sw.out.SL cL.out HFk.out sA.out hfj)
      have HIj : Hid (Ints wj (some ⟨ga, 0, none⟩) c ls) := ZI.out.fr hfj (fun q hq hm => by
       have h5 := HRF.out q hq
       rcases aj.1 hm with h6 | h6
       ·exact Sw.out.fy q h6 (by rw [h5])
       ·have h7 := Sw.out.sv.t2 q h6
        rw [h5] at h7
        simp at h7)
      clear hbj hnj hgj hmj haj hfj Hu hz
      go_wp2_with fail
      go_roundg (ls.length - (k + 1))
      case measure => have := HK.out; omega
      case rel => exact ⟨k + 1, Sv.meet Gk y, Xj, nj, by have := HK.out; omega, by go_num, E7.out, HBj.out, HNj.out, ag5.out, afE.out, afD.out, HIj.out, HFj.out⟩
    ·obtain rfl : k = ls.length := by omega
     have HG5 : Hid (Gk = Sv.dF G1 nn sk) := by
      have := HM.out
      rw [List.drop_length] at this
      exact this
     have xz : Hid (Sv.dA f Gk (S.T.lits.take j).reverse = some (GE, xe)) := by rw [HG5.out]; exact oY.out
     have Ck : Hid (nk + 1048577 * f ≤ 300000000000 ∧ Gk.a8.length + 1048577 * f ≤ 300000000001 ∧ Gk.fg + 1048577 * (f : Int) ≤ 300000000000 ∧ (f : Int) - 262144 ≤ Gk.fg) := by
      have := Cj.out
      have := Sx.out
      have := HLB.out
      exact ⟨by omega, by omega, by omega, by omega⟩
     clear HM oY HG5 Cj Sx HLB ZI HRF HRW zD HK ug
     obtain ⟨G5, hG5⟩ : ∃ G5, G5 = Gk := ⟨_, rfl⟩
     obtain ⟨X5, hX5⟩ : ∃ X5, X5 = Xk := ⟨_, rfl⟩
     rw [← hG5] at xz Ck Sw E6
     rw [← hX5] at Sw u6 sA
     clear hG5 hX5 cJ Zv wy HGS lY
     go_wp2_with fail
     go_loopg [8] j (fun g3 x8 wt => g3 ≤ j ∧ x8 = .int .i64 ((g3 : Int) - 1) ∧ Hid (Sv.dA f G5 (S.T.lits.take g3).reverse = some (GE, xe)) ∧ Hid (Fr [] wr wt))
     case atStart => exact ⟨ao _, rfl, xz.out, Fr.refl _ _⟩
     case round =>
      obtain ⟨yC, rfl, lM, iG⟩ := hrel
      obtain ⟨i, hi⟩ : ∃ i, gk = i + 1 := ⟨gk - 1, by
       rcases gk with _ | g
       ·exact absurd lM.out (by simp [Sv.tX])
       ·omega⟩
      subst hi
      have sN : i < S.T.lits.length := by omega
      obtain ⟨gP, iP, Le, Ld, VQ⟩ := kQ.out.mZ sN
      obtain ⟨x, hx⟩ : ∃ x, S.T.lits[i]! = x := ⟨_, rfl⟩
      rw [hx] at gP iP Le Ld VQ
      have HX := aa hx
      obtain ⟨oQ, lO⟩ := tT Le Ld nT
      obtain ⟨v, hv⟩ : ∃ v, tv x = v := ⟨_, rfl⟩
      rw [hv] at oQ gP iP
      have HV := aa hv
      have Qk : ((i + 1 : Nat) : Int) - 1 = (i : Int) := by omega
      have Ni : Hid (Sv.dA f G5 (x :: (S.T.lits.take i).reverse) = some (GE, xe)) := by
       have := lM.out
       rw [pk sN, HX.out] at this
       exact this
      rw [Qk]
      have Cm := aa (Sw.out.keep iG.out)
      have c0 := Cm.out.sv.cells.1
      have g1 := Cm.out.obj.cell 1
      simp only [cq, cg, bT] at g1
      rw [cL.out.1] at c0
      rw [u6.out] at g1
      have e0 := Ext.cell c0
      have e1 := Ext.cell g1
      have KA := aa (fun u : Ext wr => jq u.v L2.tL G5.S.T (Cm.out.sv.tr.fr u.fr (by simp)) (i : Int))
      simp only [E6.out.T, nu sN, HX.out] at KA
      have jb : ∀ u : Ext wr, (Instr.lookup 181 (.map (some X5.bm)) (.int .i64 v) false).run Tryz.prog u.v = .ok (.bool (decide (v ∈ G5.seen))) u.v := fun u => (Cm.out.sn.keep u.fr).look ⟨by omega, by omega⟩
      clear lM hx hv Qk
      by_cases sM : v ∈ G5.seen
      ·have pJ : decide (v ∈ G5.seen) = true := decide_eq_true sM
       rw [pJ] at jb
       have Wg := aa sM
       clear sM pJ
       go_wp2_with fail
       refine al (by kernel_rfl) (by kernel_rfl) ?_
       repeat (go_big_quiet_step (exact aV (KA.out _)))
       refine wpQuiet_nil ?_
       rintro w7 ⟨u2, bJ⟩
       have mV : Hid (Fr [] wr w7) := bJ ▸ u2.fr
       clear bJ u2
       clear e0 e1 c0 g1 jb
       have Fj := aa (Cm.out.keep mV.out)
       have rP : Hid (Fr (L.own w) w w7) := HFk.out.ag ((iG.out.ag mV.out).mono (fun k hk => by cases hk))
       clear iG Cm mV KA
       have c0 := Fj.out.sv.cells.1
       rw [cL.out.1] at c0
       have KA := aa (jq w7 L2.tL G5.S.T Fj.out.sv.tr (i : Int))
       rw [E6.out.T, nu sN, HX.out] at KA
       have KR := aa (i5 w7 L2.tL G5.S.T Fj.out.sv.tr v)
       obtain ⟨rv, kE⟩ : ∃ rv, G5.S.T.eD v = rv := ⟨_, rfl⟩
       rw [kE] at KR
       have HRV := aa kE
       have ja : 0 ≤ rv ∧ rv ≤ S.list.length := by
        have := E6.out.ok.rs v
        rw [kE, E6.out.len] at this
        exact this
       obtain ⟨adH, adG⟩ := ja
       have kD : IntKind.i64.wrap (rv - 1) = rv - 1 := IntWalk.i64_in _ (by omega)
       have g2 := Fj.out.obj.cell 2
       have fz := Fj.out.obj.frozen 2
       simp only [cq, cg, bT] at g2
       rw [u6.out] at g2 fz
       obtain ⟨op, Jy⟩ : ∃ op, G5.fg = op := ⟨_, rfl⟩
       rw [Jy] at g2
       have N1 : -262145 ≤ op ∧ op ≤ 300000000000 := by have := Ck.out; omega
       obtain ⟨adQ, adP⟩ := N1
       have kW : IntKind.i64.wrap (op - 1) = op - 1 := IntWalk.i64_in _ (by omega)
       have E5 := aa Jy
       have Cl := Fj.out.SO (op - 1)
       rw [u6.out] at Cl
       have Cl := aa Cl
       have GB : Hid (Fr (L.own w) w (w7.setCell ⟨w.heap.size + 1 + 1, 2, none⟩ (.int .i64 (op - 1)))) := rP.out.setCell (.inr (by simp only; omega)) _
       clear kE Jy
       go_wp2_with fail
       refine KA.out.mono ?_
       clear KA
       rintro e w8 ⟨rfl, rfl⟩
       go_wp2_with fail
       refine KR.out.mono ?_
       clear KR
       rintro e w8 ⟨rfl, rfl⟩
       by_cases hz : op - 1 = 0
       ·have hd : ((op - 1) == (0 : Int)) = true := by simp [hz]
        have NJ : Hid (({ G5 with fg := op - 1 } : Sv.Gr) = GE ∧ x = xe) := by
         have := Ni.out
         rw [Sv.tY (by rw [HV.out]; exact Wg.out) (by rw [E5.out]; exact hz), E5.out] at this
         show _ ∧ _
         simpa using this
        have QX := E6.out.l0
        obtain ⟨ga, np, P5⟩ := Fj.out.ln.pos QX
        have g3 := Cl.out.obj.cell 3
        simp only [cq, cg, bT] at g3
        rw [u6.out, np] at g3
        have ca := Cl.out.ln
        rw [np] at ca
        have ca0 := ca.cell QX
        have fa0 := ca.frozen 0
        have T2 : 0 < G5.a8.length := QX
        have sC := aa (Cl.out.dH np (-x))
        have vf : Hid (Fr (L.own w) w ((w7.setCell ⟨w.heap.size + 1 + 1, 2, none⟩ (.int .i64 (op - 1))).setCell ⟨ga, 0, none⟩ (.int .i64 (-x)))) := GB.out.setCell (.inr (sA.out ga (by simp [j8.own, np, ah]))) _
        have oZ := aa np
        have Vj : Hid (∀ y ∈ G5.a8.set 0 (-x), -(S.vars : Int) ≤ y ∧ y ≤ S.vars) := fun y hy => by
         rcases List.mem_or_eq_of_mem_set hy with h5 | h5
         ·exact E6.out.lr y h5
         ·rw [h5]; omega
        obtain ⟨lg, Ea⟩ : ∃ lg, G5.a8.length = lg := ⟨_, rfl⟩
        have zC := aa Ea
        rw [Ea] at g3 T2
        clear hz np P5 ca QX Ea c0
        go_wp2_with fail
        obtain ⟨w9, vn⟩ : ∃ w9, (w7.setCell ⟨w.heap.size + 1 + 1, 2, none⟩ (.int .i64 (op - 1))).setCell ⟨ga, 0, none⟩ (.int .i64 (-x)) = w9 := ⟨_, rfl⟩
        rw [vn] at sC vf ⊢
        have g3 := sC.out.obj.cell 3
        simp only [cq, cg, bT] at g3
        rw [u6.out, oZ.out, ak, zC.out] at g3
        have qO := aa g3
        have KS := aa (fun W (hW : Fr [] w9 W) => pe W L2 G5.S (sC.out.keep hW).sv m E6.out.ok X5.A X5.c (G5.a8.set 0 (-x)) (sC.out.keep hW).ln sC.out.f3 (by rw [E6.out.vars]; exact Vj.out) (by rw [ak]; have := Ck.out; omega))
        rw [oZ.out, cL.out.1, ak, zC.out] at KS
        have No : Hid (w.heap.size + 1 + 1 ∉ ah (some (⟨ga, 0, none⟩ : Addr))) := by
         show ¬ _
         intro hk
         have := (sC.out.d3 _ (by rw [oZ.out]; exact hk)).1
         exact this u6.out.symm
        clear vn ca0 fa0 g2 fz kD kW Cl GB
        clear g3
        refine wp_region_noPanic ?_
        refine bj (fun w' : World => Fr [] w9 w') 9 (by kernel_rfl) ((Fr.refl [] w9).drew) (fun dd => ?_)
        apply TB 8 [(0, []), (1, []), (2, []), (4, []), (5, []), (6, []), (7, []), (8, [8, 9])]; kernel_rfl; rfl; · (repeat (apply ef; rfl; rfl; (· intro w aY; (try (have aY := aY.resolve_left (aF _ _); (have s3 := aY.av qO.out))); go_simp <;> with_reducible rfl); try simp only [Act.put, q5, q6, q7])); exact ee
        exact dd; intro dd
        have ap := dd.resolve_left (by decide)
        refine bp (rs := [3, 9]) (by kernel_rfl) (by simp) ?_
        refine aU.cons (o := ?W3) ?Io ?yw ?_
        case Io => rfl
        case yw =>
         intro K hK
         first | (have s3 := ap.av qO.out; go_simp) | go_simp
         refine hK.out _ _ (.inr ?_) (fun Mk => ?_)
         ·exact ap
         clear hK K
         try simp only [Act.put, q5, q6, q7]
         refine R2 9 (by kernel_rfl) (by rfl) Mk fun K hK ap => ?_
         (go_simp; refine (KS.out _ ap).mono ?_; rintro e w5 ⟨rfl, sO, dK⟩; have Wc := dK.aZ No.out (ap.av qO.out); have Fc := aa sO; have Fk := aa ((sC.out.keep ap).sv.fr dK (fun k hk _ => sC.out.f3 k (by rw [oZ.out]; exact hk))); have Ff : Hid (Fr (L.own w) w w5) := (vf.out.ag (ap.mono (fun k hk => by cases hk))).trans dK (fun k hk => .inr (sA.out k (by rw [← oZ.out] at hk; simp [j8.own, hk]))); have U7 : Hid ((Sv.second G5.S.T lg 1 (G5.a8.set 0 (-x)) 0).1.length = lg) := (by rw [fj, ak]; exact zC.out); clear sO dK; dsimp only)
         refine hK.out _ _ (.inl rfl) (fun ix => ?_)
         clear hK K
         try simp only [Act.put, q5, q6, q7]
         refine R1 (i := 10) (o := ?WZ) (by kernel_rfl) (by rfl) ?_
         intro K hK
         go_simp
         refine hK.out _ _ (.inl rfl) (fun eP => ?_)
         clear hK K
         try simp only [Act.put, q5, q6, q7]
         refine R1 (i := 11) (o := ?WY) (by kernel_rfl) (by rfl) ?_
         intro K hK
         go_simp
         refine hK.out _ _ (.inl rfl) (fun iw => ?_)
         clear hK K
         try simp only [Act.put, q5, q6, q7]
         refine az (by kernel_rfl) ?_ _
         refine NoPanic.normal ?_
         have FF : Hid (Zb S1 l cO L w (.returned (.tuple #[.slice (some ⟨ga, 0, none⟩) lg X5.c, .int .i64 (Sv.second G5.S.T lg 1 (G5.a8.set 0 (-x)) 0).2])) w5) := by
          obtain ⟨h5, h6⟩ := NJ.out
          have hz9 : w.heap.size ≤ w9.heap.size := vf.out.size
          have e1 : (GE.a8.set 0 (-xe)).length = lg := by rw [← h5, ak]; exact zC.out
          have e2 : Sv.second GE.S.T (GE.a8.set 0 (-xe)).length 1 (GE.a8.set 0 (-xe)) 0 = Sv.second G5.S.T lg 1 (G5.a8.set 0 (-x)) 0 := by rw [e1, ← h5, h6]
          have e3 : l.length = lg := by
           rw [← HL.out, e2]
           exact U7.out
          refine ⟨some ⟨ga, 0, none⟩, X5.c, ?_, L2, ?_, cL.out, ?_, fun k hk => ?_, ?_⟩
          ·rw [e3, ← QW.out, e2]
          ·rw [← Oc.out, ← h5]
           exact Fk.out
          ·rw [← HL.out, e2]
           exact Fc.out
          ·exact ⟨sA.out k (by rw [← oZ.out] at hk; simp [j8.own, hk]), sC.out.f3 k (by rw [oZ.out]; exact hk)⟩
          ·exact Ff.out
         go_wp2_with fail
         go_ret2
         exact FF.out
        refine aU.cons (o := ?WX) ?In ?O8 aU.nil
        case In => rfl
        intro K hK
        (go_simp; refine (KS.out _ ap).mono ?_; rintro e w5 ⟨rfl, sO, dK⟩; have Wc := dK.aZ No.out (ap.av qO.out); have Fc := aa sO; have Fk := aa ((sC.out.keep ap).sv.fr dK (fun k hk _ => sC.out.f3 k (by rw [oZ.out]; exact hk))); have Ff : Hid (Fr (L.own w) w w5) := (vf.out.ag (ap.mono (fun k hk => by cases hk))).trans dK (fun k hk => .inr (sA.out k (by rw [← oZ.out] at hk; simp [j8.own, hk]))); have U7 : Hid ((Sv.second G5.S.T lg 1 (G5.a8.set 0 (-x)) 0).1.length = lg) := (by rw [fj, ak]; exact zC.out); clear sO dK; dsimp only)
        refine hK.out _ _ (.inl rfl) (fun Mk => ?_)
        clear hK K
        try simp only [Act.put, q5, q6, q7]
        refine R1 (i := 3) (o := ?WW) (by kernel_rfl) (by rfl) ?_
        intro K hK
        first | (have s3 := ap.av qO.out; go_simp) | go_simp
        refine hK.out _ _ (.inl rfl) (fun ix => ?_)
        clear hK K
        try simp only [Act.put, q5, q6, q7]
        refine R1 (i := 10) (o := ?WV) (by kernel_rfl) (by rfl) ?_
        intro K hK
        go_simp
        refine hK.out _ _ (.inl rfl) (fun eP => ?_)
        clear hK K
        try simp only [Act.put, q5, q6, q7]
        refine R1 (i := 11) (o := ?WU) (by kernel_rfl) (by rfl) ?_
        intro K hK
        go_simp
        refine hK.out _ _ (.inl rfl) (fun iw => ?_)
        clear hK K
        try simp only [Act.put, q5, q6, q7]
        refine az (by kernel_rfl) ?_ _
        refine NoPanic.normal ?_
        have FF : Hid (Zb S1 l cO L w (.returned (.tuple #[.slice (some ⟨ga, 0, none⟩) lg X5.c, .int .i64 (Sv.second G5.S.T lg 1 (G5.a8.set 0 (-x)) 0).2])) w5) := by
         obtain ⟨h5, h6⟩ := NJ.out
         have hz9 : w.heap.size ≤ w9.heap.size := vf.out.size
         have e1 : (GE.a8.set 0 (-xe)).length = lg := by rw [← h5, ak]; exact zC.out
         have e2 : Sv.second GE.S.T (GE.a8.set 0 (-xe)).length 1 (GE.a8.set 0 (-xe)) 0 = Sv.second G5.S.T lg 1 (G5.a8.set 0 (-x)) 0 := by rw [e1, ← h5, h6]
         have e3 : l.length = lg := by
          rw [← HL.out, e2]
          exact U7.out
         refine ⟨some ⟨ga, 0, none⟩, X5.c, ?_, L2, ?_, cL.out, ?_, fun k hk => ?_, ?_⟩
         ·rw [e3, ← QW.out, e2]
         ·rw [← Oc.out, ← h5]
          exact Fk.out
         ·rw [← HL.out, e2]
          exact Fc.out
         ·exact ⟨sA.out k (by rw [← oZ.out] at hk; simp [j8.own, hk]), sC.out.f3 k (by rw [oZ.out]; exact hk)⟩
         ·exact Ff.out
        go_wp2_with fail
        go_ret2
        exact FF.out
       ·have hd : ((op - 1) == (0 : Int)) = false := by simp [hz]
        have HGO : Hid (Sv.eZ f { G5 with fg := op - 1 } (rv - 1) x (S.T.lits.take i).reverse = some (GE, xe)) := by
         have := Ni.out
         rw [Sv.wZ (by rw [HV.out]; exact Wg.out) (by rw [E5.out]; exact hz), E5.out, HV.out, HRV.out] at this
         exact this
        have Cq : IntKind.i64.wrap ((i : Int) - 1) = (i : Int) - 1 := IntWalk.i64_in _ (by omega)
        clear hz
        go_wp2_with fail
        go_roundg f
        case measure => omega
        case rel => exact ⟨_, rv - 1, x, i, L2, X5, nk, rfl, rfl, rfl, by omega, by omega, by omega, Le, Ld, HGO.out, Cl.out, E6.out.fg _, (by have := Ck.out; have := E5.out; exact ⟨by omega, by simp only; omega, by simp only; omega, by simp only; omega⟩), u6.out, sA.out, cL.out, GB.out⟩
      ·have pJ : decide (v ∈ G5.seen) = false := decide_eq_false sM
       rw [pJ] at jb
       have HR7 : Hid (Sv.dA f G5 (S.T.lits.take i).reverse = some (GE, xe)) := by
        have := Ni.out
        rw [Sv.rf (by rw [HV.out]; exact sM)] at this
        exact this
       have Cq : IntKind.i64.wrap ((i : Int) - 1) = (i : Int) - 1 := IntWalk.i64_in _ (by omega)
       clear sM pJ
       go_wp2_with fail
       refine al (by kernel_rfl) (by kernel_rfl) ?_
       repeat (go_big_quiet_step (exact aV (KA.out _)))
       refine wpQuiet_nil ?_
       rintro w7 ⟨u2, bJ⟩
       have mV : Hid (Fr [] wr w7) := bJ ▸ u2.fr
       clear bJ u2
       clear e0 e1 c0 g1 jb KA
       go_wp2_with fail
       go_roundg i
       case measure => omega
       case rel => exact ⟨by omega, by go_num, HR7.out, iG.out.ag mV.out⟩
  ·have ad0 : n1 = -1 := by omega
   subst ad0
   have xz : Hid (Sv.dA f G1 (S.T.lits.take j).reverse = some (GE, xe)) := by
    have := oY.out
    unfold Sv.dF at this
    rw [if_neg (by omega)] at this
    exact this
   have Ck : Hid (nm + 1048577 * f ≤ 300000000000 ∧ G1.a8.length + 1048577 * f ≤ 300000000001 ∧ G1.fg + 1048577 * (f : Int) ≤ 300000000000 ∧ (f : Int) - 262144 ≤ G1.fg) := by
    have := Sx.out
    exact ⟨by omega, by omega, by omega, by omega⟩
   clear oY Sx
   go_wp2_with fail
   go_loopg [8] j (fun g3 x8 wt => g3 ≤ j ∧ x8 = .int .i64 ((g3 : Int) - 1) ∧ Hid (Sv.dA f G1 (S.T.lits.take g3).reverse = some (GE, xe)) ∧ Hid (Fr [] wr wt))
   case atStart => exact ⟨ao _, rfl, xz.out, Fr.refl _ _⟩
   case round =>
    obtain ⟨yC, rfl, lM, iG⟩ := hrel
    obtain ⟨i, hi⟩ : ∃ i, gk = i + 1 := ⟨gk - 1, by
     rcases gk with _ | g
     ·exact absurd lM.out (by simp [Sv.tX])
     ·omega⟩
    subst hi
    have sN : i < S.T.lits.length := by omega
    obtain ⟨gP, iP, Le, Ld, VQ⟩ := kQ.out.mZ sN
    obtain ⟨x, hx⟩ : ∃ x, S.T.lits[i]! = x := ⟨_, rfl⟩
    rw [hx] at gP iP Le Ld VQ
    have HX := aa hx
    obtain ⟨oQ, lO⟩ := tT Le Ld nT
    obtain ⟨v, hv⟩ : ∃ v, tv x = v := ⟨_, rfl⟩
    rw [hv] at oQ gP iP
    have HV := aa hv
    have Qk : ((i + 1 : Nat) : Int) - 1 = (i : Int) := by omega
    have Ni : Hid (Sv.dA f G1 (x :: (S.T.lits.take i).reverse) = some (GE, xe)) := by
     have := lM.out
     rw [pk sN, HX.out] at this
     exact this
    rw [Qk]
    have Cm := aa (HB.out.keep iG.out)
    have c0 := Cm.out.sv.cells.1
    have g1 := Cm.out.obj.cell 1
    simp only [cq, cg, bT] at g1
    rw [HE.out.1] at c0
    rw [Sa.out] at g1
    have e0 := Ext.cell c0
    have e1 := Ext.cell g1
    have KA := aa (fun u : Ext wr => jq u.v L1.tL G1.S.T (Cm.out.sv.tr.fr u.fr (by simp)) (i : Int))
    simp only [HN.out.T, nu sN, HX.out] at KA
    have jb : ∀ u : Ext wr, (Instr.lookup 181 (.map (some X1.bm)) (.int .i64 v) false).run Tryz.prog u.v = .ok (.bool (decide (v ∈ G1.seen))) u.v := fun u => (Cm.out.sn.keep u.fr).look ⟨by omega, by omega⟩
    clear lM hx hv Qk
    by_cases sM : v ∈ G1.seen
    ·have pJ : decide (v ∈ G1.seen) = true := decide_eq_true sM
     rw [pJ] at jb
     have Wg := aa sM
     clear sM pJ
     go_wp2_with fail
     refine al (by kernel_rfl) (by kernel_rfl) ?_
     repeat (go_big_quiet_step (exact aV (KA.out _)))
     refine wpQuiet_nil ?_
     rintro w7 ⟨u2, bJ⟩
     have mV : Hid (Fr [] wr w7) := bJ ▸ u2.fr
     clear bJ u2
     clear e0 e1 c0 g1 jb
     have Fj := aa (Cm.out.keep mV.out)
     have rP : Hid (Fr (L.own w) w w7) := HF.out.ag ((iG.out.ag mV.out).mono (fun k hk => by cases hk))
     clear iG Cm mV KA
     have c0 := Fj.out.sv.cells.1
     rw [HE.out.1] at c0
     have KA := aa (jq w7 L1.tL G1.S.T Fj.out.sv.tr (i : Int))
     rw [HN.out.T, nu sN, HX.out] at KA
     have KR := aa (i5 w7 L1.tL G1.S.T Fj.out.sv.tr v)
     obtain ⟨rv, kE⟩ : ∃ rv, G1.S.T.eD v = rv := ⟨_, rfl⟩
     rw [kE] at KR
     have HRV := aa kE
     have ja : 0 ≤ rv ∧ rv ≤ S.list.length := by
      have := HN.out.ok.rs v
      rw [kE, HN.out.len] at this
      exact this
     obtain ⟨adH, adG⟩ := ja
     have kD : IntKind.i64.wrap (rv - 1) = rv - 1 := IntWalk.i64_in _ (by omega)
     have g2 := Fj.out.obj.cell 2
     have fz := Fj.out.obj.frozen 2
     simp only [cq, cg, bT] at g2
     rw [Sa.out] at g2 fz
     obtain ⟨op, Jy⟩ : ∃ op, G1.fg = op := ⟨_, rfl⟩
     rw [Jy] at g2
     have N1 : -262145 ≤ op ∧ op ≤ 300000000000 := by have := Ck.out; omega
     obtain ⟨adQ, adP⟩ := N1
     have kW : IntKind.i64.wrap (op - 1) = op - 1 := IntWalk.i64_in _ (by omega)
     have E5 := aa Jy
     have Cl := Fj.out.SO (op - 1)
     rw [Sa.out] at Cl
     have Cl := aa Cl
     have GB : Hid (Fr (L.own w) w (w7.setCell ⟨w.heap.size + 1 + 1, 2, none⟩ (.int .i64 (op - 1)))) := rP.out.setCell (.inr (by simp only; omega)) _
     clear kE Jy
     go_wp2_with fail
     refine KA.out.mono ?_
     clear KA
     rintro e w8 ⟨rfl, rfl⟩
     go_wp2_with fail
     refine KR.out.mono ?_
     clear KR
     rintro e w8 ⟨rfl, rfl⟩
     by_cases hz : op - 1 = 0
     ·have hd : ((op - 1) == (0 : Int)) = true := by simp [hz]
      have NJ : Hid (({ G1 with fg := op - 1 } : Sv.Gr) = GE ∧ x = xe) := by
       have := Ni.out
       rw [Sv.tY (by rw [HV.out]; exact Wg.out) (by rw [E5.out]; exact hz), E5.out] at this
       show _ ∧ _
       simpa using this
      have QX := HN.out.l0
      obtain ⟨ga, np, P5⟩ := Fj.out.ln.pos QX
      have g3 := Cl.out.obj.cell 3
      simp only [cq, cg, bT] at g3
      rw [Sa.out, np] at g3
      have ca := Cl.out.ln
      rw [np] at ca
      have ca0 := ca.cell QX
      have fa0 := ca.frozen 0
      have T2 : 0 < G1.a8.length := QX
      have sC := aa (Cl.out.dH np (-x))
      have vf : Hid (Fr (L.own w) w ((w7.setCell ⟨w.heap.size + 1 + 1, 2, none⟩ (.int .i64 (op - 1))).setCell ⟨ga, 0, none⟩ (.int .i64 (-x)))) := GB.out.setCell (.inr (JP.out ga (by simp [j8.own, np, ah]))) _
      have oZ := aa np
      have Vj : Hid (∀ y ∈ G1.a8.set 0 (-x), -(S.vars : Int) ≤ y ∧ y ≤ S.vars) := fun y hy => by
       rcases List.mem_or_eq_of_mem_set hy with h5 | h5
       ·exact HN.out.lr y h5
       ·rw [h5]; omega
      obtain ⟨lg, Ea⟩ : ∃ lg, G1.a8.length = lg := ⟨_, rfl⟩
      have zC := aa Ea
      rw [Ea] at g3 T2
      clear hz np P5 ca QX Ea c0
      go_wp2_with fail
      obtain ⟨w9, vn⟩ : ∃ w9, (w7.setCell ⟨w.heap.size + 1 + 1, 2, none⟩ (.int .i64 (op - 1))).setCell ⟨ga, 0, none⟩ (.int .i64 (-x)) = w9 := ⟨_, rfl⟩
      rw [vn] at sC vf ⊢
      have g3 := sC.out.obj.cell 3
      simp only [cq, cg, bT] at g3
      rw [Sa.out, oZ.out, ak, zC.out] at g3
      have qO := aa g3
      have KS := aa (fun W (hW : Fr [] w9 W) => pe W L1 G1.S (sC.out.keep hW).sv m HN.out.ok X1.A X1.c (G1.a8.set 0 (-x)) (sC.out.keep hW).ln sC.out.f3 (by rw [HN.out.vars]; exact Vj.out) (by rw [ak]; have := Ck.out; omega))
      rw [oZ.out, HE.out.1, ak, zC.out] at KS
      have No : Hid (w.heap.size + 1 + 1 ∉ ah (some (⟨ga, 0, none⟩ : Addr))) := by
       show ¬ _
       intro hk
       have := (sC.out.d3 _ (by rw [oZ.out]; exact hk)).1
       exact this Sa.out.symm
      clear vn ca0 fa0 g2 fz kD kW Cl GB
      clear g3
      refine wp_region_noPanic ?_
      refine bj (fun w' : World => Fr [] w9 w') 9 (by kernel_rfl) ((Fr.refl [] w9).drew) (fun dd => ?_)
      apply TB 8 [(0, []), (1, []), (2, []), (4, []), (5, []), (6, []), (7, []), (8, [8, 9])]; kernel_rfl; rfl; · (repeat (apply ef; rfl; rfl; (· intro w aY; (try (have aY := aY.resolve_left (aF _ _); (have s3 := aY.av qO.out))); go_simp <;> with_reducible rfl); try simp only [Act.put, q5, q6, q7])); exact ee
      exact dd; intro dd
      have ap := dd.resolve_left (by decide)
      refine bp (rs := [3, 9]) (by kernel_rfl) (by simp) ?_
      refine aU.cons (o := ?WT) ?Im ?yv ?_
      case Im => rfl
      case yv =>
       intro K hK
       first | (have s3 := ap.av qO.out; go_simp) | go_simp
       refine hK.out _ _ (.inr ?_) (fun Mk => ?_)
       ·exact ap
       clear hK K
       try simp only [Act.put, q5, q6, q7]
       refine R2 9 (by kernel_rfl) (by rfl) Mk fun K hK ap => ?_
       (go_simp; refine (KS.out _ ap).mono ?_; rintro e w5 ⟨rfl, sO, dK⟩; have Wc := dK.aZ No.out (ap.av qO.out); have Fc := aa sO; have Fk := aa ((sC.out.keep ap).sv.fr dK (fun k hk _ => sC.out.f3 k (by rw [oZ.out]; exact hk))); have Ff : Hid (Fr (L.own w) w w5) := (vf.out.ag (ap.mono (fun k hk => by cases hk))).trans dK (fun k hk => .inr (JP.out k (by rw [← oZ.out] at hk; simp [j8.own, hk]))); have U7 : Hid ((Sv.second G1.S.T lg 1 (G1.a8.set 0 (-x)) 0).1.length = lg) := (by rw [fj, ak]; exact zC.out); clear sO dK; dsimp only)
       refine hK.out _ _ (.inl rfl) (fun ix => ?_)
       clear hK K
       try simp only [Act.put, q5, q6, q7]
       refine R1 (i := 10) (o := ?WS) (by kernel_rfl) (by rfl) ?_
       intro K hK
       go_simp
       refine hK.out _ _ (.inl rfl) (fun eP => ?_)
       clear hK K
       try simp only [Act.put, q5, q6, q7]
       refine R1 (i := 11) (o := ?WR) (by kernel_rfl) (by rfl) ?_
       intro K hK
       go_simp
       refine hK.out _ _ (.inl rfl) (fun iw => ?_)
       clear hK K
       try simp only [Act.put, q5, q6, q7]
       refine az (by kernel_rfl) ?_ _
       refine NoPanic.normal ?_
       have FF : Hid (Zb S1 l cO L w (.returned (.tuple #[.slice (some ⟨ga, 0, none⟩) lg X1.c, .int .i64 (Sv.second G1.S.T lg 1 (G1.a8.set 0 (-x)) 0).2])) w5) := by
        obtain ⟨h5, h6⟩ := NJ.out
        have hz9 : w.heap.size ≤ w9.heap.size := vf.out.size
        have e1 : (GE.a8.set 0 (-xe)).length = lg := by rw [← h5, ak]; exact zC.out
        have e2 : Sv.second GE.S.T (GE.a8.set 0 (-xe)).length 1 (GE.a8.set 0 (-xe)) 0 = Sv.second G1.S.T lg 1 (G1.a8.set 0 (-x)) 0 := by rw [e1, ← h5, h6]
        have e3 : l.length = lg := by
         rw [← HL.out, e2]
         exact U7.out
        refine ⟨some ⟨ga, 0, none⟩, X1.c, ?_, L1, ?_, HE.out, ?_, fun k hk => ?_, ?_⟩
        ·rw [e3, ← QW.out, e2]
        ·rw [← Oc.out, ← h5]
         exact Fk.out
        ·rw [← HL.out, e2]
         exact Fc.out
        ·exact ⟨JP.out k (by rw [← oZ.out] at hk; simp [j8.own, hk]), sC.out.f3 k (by rw [oZ.out]; exact hk)⟩
        ·exact Ff.out
       go_wp2_with fail
       go_ret2
       exact FF.out
      refine aU.cons (o := ?WQ) ?Il ?O7 aU.nil
      case Il => rfl
      intro K hK
      (go_simp; refine (KS.out _ ap).mono ?_; rintro e w5 ⟨rfl, sO, dK⟩; have Wc := dK.aZ No.out (ap.av qO.out); have Fc := aa sO; have Fk := aa ((sC.out.keep ap).sv.fr dK (fun k hk _ => sC.out.f3 k (by rw [oZ.out]; exact hk))); have Ff : Hid (Fr (L.own w) w w5) := (vf.out.ag (ap.mono (fun k hk => by cases hk))).trans dK (fun k hk => .inr (JP.out k (by rw [← oZ.out] at hk; simp [j8.own, hk]))); have U7 : Hid ((Sv.second G1.S.T lg 1 (G1.a8.set 0 (-x)) 0).1.length = lg) := (by rw [fj, ak]; exact zC.out); clear sO dK; dsimp only)
      refine hK.out _ _ (.inl rfl) (fun Mk => ?_)
      clear hK K
      try simp only [Act.put, q5, q6, q7]
      refine R1 (i := 3) (o := ?WP) (by kernel_rfl) (by rfl) ?_
      intro K hK
      first | (have s3 := ap.av qO.out; go_simp) | go_simp
      refine hK.out _ _ (.inl rfl) (fun ix => ?_)
      clear hK K
      try simp only [Act.put, q5, q6, q7]
      refine R1 (i := 10) (o := ?WO) (by kernel_rfl) (by rfl) ?_
      intro K hK
      go_simp
      refine hK.out _ _ (.inl rfl) (fun eP => ?_)
      clear hK K
      try simp only [Act.put, q5, q6, q7]
      refine R1 (i := 11) (o := ?WN) (by kernel_rfl) (by rfl) ?_
      intro K hK
      go_simp
      refine hK.out _ _ (.inl rfl) (fun iw => ?_)
      clear hK K
      try simp only [Act.put, q5, q6, q7]
      refine az (by kernel_rfl) ?_ _
      refine NoPanic.normal ?_
      have FF : Hid (Zb S1 l cO L w (.returned (.tuple #[.slice (some ⟨ga, 0, none⟩) lg X1.c, .int .i64 (Sv.second G1.S.T lg 1 (G1.a8.set 0 (-x)) 0).2])) w5) := by
       obtain ⟨h5, h6⟩ := NJ.out
       have hz9 : w.heap.size ≤ w9.heap.size := vf.out.size
       have e1 : (GE.a8.set 0 (-xe)).length = lg := by rw [← h5, ak]; exact zC.out
       have e2 : Sv.second GE.S.T (GE.a8.set 0 (-xe)).length 1 (GE.a8.set 0 (-xe)) 0 = Sv.second G1.S.T lg 1 (G1.a8.set 0 (-x)) 0 := by rw [e1, ← h5, h6]
       have e3 : l.length = lg := by
        rw [← HL.out, e2]
        exact U7.out
       refine ⟨some ⟨ga, 0, none⟩, X1.c, ?_, L1, ?_, HE.out, ?_, fun k hk => ?_, ?_⟩
       ·rw [e3, ← QW.out, e2]
       ·rw [← Oc.out, ← h5]
        exact Fk.out
       ·rw [← HL.out, e2]
        exact Fc.out
       ·exact ⟨JP.out k (by rw [← oZ.out] at hk; simp [j8.own, hk]), sC.out.f3 k (by rw [oZ.out]; exact hk)⟩
       ·exact Ff.out
      go_wp2_with fail
      go_ret2
      exact FF.out
     ·have hd : ((op - 1) == (0 : Int)) = false := by simp [hz]
      have HGO : Hid (Sv.eZ f { G1 with fg := op - 1 } (rv - 1) x (S.T.lits.take i).reverse = some (GE, xe)) := by
       have := Ni.out
       rw [Sv.wZ (by rw [HV.out]; exact Wg.out) (by rw [E5.out]; exact hz), E5.out, HV.out, HRV.out] at this
       exact this
      have Cq : IntKind.i64.wrap ((i : Int) - 1) = (i : Int) - 1 := IntWalk.i64_in _ (by omega)
      clear hz
      go_wp2_with fail
      go_roundg f
      case measure => omega
      case rel => exact ⟨_, rv - 1, x, i, L1, X1, nm, rfl, rfl, rfl, by omega, by omega, by omega, Le, Ld, HGO.out, Cl.out, HN.out.fg _, (by have := Ck.out; have := E5.out; exact ⟨by omega, by simp only; omega, by simp only; omega, by simp only; omega⟩), Sa.out, JP.out, HE.out, GB.out⟩
    ·have pJ : decide (v ∈ G1.seen) = false := decide_eq_false sM
     rw [pJ] at jb
     have HR7 : Hid (Sv.dA f G1 (S.T.lits.take i).reverse = some (GE, xe)) := by
      have := Ni.out
      rw [Sv.rf (by rw [HV.out]; exact sM)] at this
      exact this
     have Cq : IntKind.i64.wrap ((i : Int) - 1) = (i : Int) - 1 := IntWalk.i64_in _ (by omega)
     clear sM pJ
     go_wp2_with fail
     refine al (by kernel_rfl) (by kernel_rfl) ?_
     repeat (go_big_quiet_step (exact aV (KA.out _)))
     refine wpQuiet_nil ?_
     rintro w7 ⟨u2, bJ⟩
     have mV : Hid (Fr [] wr w7) := bJ ▸ u2.fr
     clear bJ u2
     clear e0 e1 c0 g1 jb KA
     go_wp2_with fail
     go_roundg i
     case measure => omega
     case rel => exact ⟨by omega, by go_num, HR7.out, iG.out.ag mV.out⟩
namespace Sv
structure N8 (S : Sv) (G : Gr) : Prop where
 nd : G.seen.Nodup
 sn : ∀ v ∈ G.seen, 1 ≤ v ∧ v ≤ S.vars
 ln : G.a8.length ≤ G.seen.length + 1
 lt : ∀ x ∈ G.a8.tail, x ≠ 0
theorem OT {S : Sv} {m : Nat} (ok : S.Ok m) {v : Int} (h : ¬ S.T.cK v ≤ 0) : 1 ≤ v ∧ v ≤ S.vars := by
 obtain ⟨R, hR⟩ := ok.tr
 unfold Tr.cK at h
 split at h
 ·rename_i hb
  have := Tr.cQ hb
  rw [hR.size] at this
  omega
 ·omega
theorem Dn {S : Sv} {m : Nat} (ok : S.Ok m) (v : Int) : -1 ≤ S.T.cK v ∧ S.T.cK v ≤ S.T.levels.length := by
 obtain ⟨R, hR⟩ := ok.tr
 rw [hR.cK]
 cases hk : look R v with
 | none => simp only; omega
 | some e =>
  have := hR.bound e (gv hk).1
  simp only
  omega
theorem tu {l : Int} (h : 1 ≤ tv l) : l ≠ 0 := by
 rintro rfl
 rw [mn (by omega)] at h
 omega
theorem zV {l : List Int} {x : Int} (h : 0 < l.length) : (l ++ [x]).tail = l.tail ++ [x] := by
 cases l with
 | nil => simp at h
 | cons y r => rfl
theorem N8.meet {S : Sv} {m : Nat} {G : Gr} (h : N8 S G) (hn : lK S m G) (l : Int) : N8 S (meet G l) := by
 by_cases h1 : tv l ∈ G.seen ∨ G.S.T.cK (tv l) ≤ 0
 ·rw [ig h1]; exact h
 ·have LA : tv l ∉ G.seen := fun e => h1 (.inl e)
  have hv := OT hn.ok (v := tv l) (fun e => h1 (.inr e))
  rw [hn.vars] at hv
  have Cs : (tv l :: G.seen).Nodup := gW.2 ⟨LA, h.nd⟩
  have sM : ∀ v ∈ tv l :: G.seen, 1 ≤ v ∧ v ≤ S.vars := fun v hm => by
   rcases ay.1 hm with rfl | hm
   ·exact hv
   ·exact h.sn v hm
  have JA := h.ln
  by_cases h2 : G.S.T.cK (tv l) = G.S.T.levels.length
  ·rw [fF h1 h2]
   exact ⟨Cs, sM, by show G.a8.length ≤ (tv l :: G.seen).length + 1; simp; omega, h.lt⟩
  ·rw [gN h1 h2]
   refine ⟨Cs, sM, by show (G.a8 ++ [l]).length ≤ (tv l :: G.seen).length + 1; simp; omega, ?_⟩
   show ∀ x ∈ (G.a8 ++ [l]).tail, x ≠ 0
   rw [zV hn.l0]
   intro x hx
   rcases aj.1 hx with hx | hx
   ·exact h.lt x hx
   ·simp at hx
    rw [hx]
    exact tu hv.1
theorem qz {S : Sv} {m : Nat} (skip : Int) : ∀ (ls : List Int) (G : Gr), (∀ x ∈ ls, -(S.vars : Int) ≤ x ∧ x ≤ S.vars) → N8 S G → lK S m G → N8 S (meets skip ls G) ∧ lK S m (meets skip ls G)
 | [], G, hl, h1, h2 => ⟨h1, h2⟩
 | l :: r, G, hl, h1, h2 => by
  rw [meets]
  split
  ·exact qz skip r _ (fun x hx => hl x (bR _ hx)) (h1.meet h2 l) (h2.meet (hl l (by simp)))
  ·exact qz skip r _ (fun x hx => hl x (bR _ hx)) h1 h2
theorem Dr {S : Sv} {m : Nat} {G : Gr} (n skip : Int) (h1 : N8 S G) (h2 : lK S m G) : N8 S (dF G n skip) ∧ lK S m (dF G n skip) := by
 unfold dF
 split
 ·refine qz skip _ _ (fun x hx => ?_) ⟨h1.nd, h1.sn, h1.ln, h1.lt⟩ (h2.fV n.toNat)
  have := h2.ok.lr n.toNat x hx
  rw [h2.vars] at this
  exact this.2
 ·exact ⟨h1, h2⟩
theorem tW {S : Sv} {m : Nat} : ∀ (f : Nat) (G : Gr) (n skip : Int) (rest : List Int) (GE : Gr) (xe : Int), eZ f G n skip rest = some (GE, xe) → N8 S G → lK S m G → N8 S GE ∧ lK S m GE ∧ xe ∈ rest
 | 0, G, n, skip, rest, GE, xe, h, _, _ => by rw [jX] at h; cases h
 | f + 1, G, n, skip, rest, GE, xe, h, h1, h2 => by
  rw [kB] at h
  obtain ⟨k1, k2⟩ := Dr n skip h1 h2
  generalize dF G n skip = G1 at h k1 k2
  unfold dA at h
  have hd := List.dropWhile_sublist (fun x => decide (tv x ∉ G1.seen)) (l := rest)
  cases hq : rest.dropWhile (fun x => decide (tv x ∉ G1.seen)) with
  | nil => rw [hq] at h; cases h
  | cons x r =>
   rw [hq] at h hd
   simp only at h
   split at h
   ·simp only [Option.some.injEq, Prod.mk.injEq] at h
    obtain ⟨rfl, rfl⟩ := h
    exact ⟨⟨k1.nd, k1.sn, k1.ln, k1.lt⟩, k2.fg _, hd.subset (by simp)⟩
   ·obtain ⟨g1, g2, g3⟩ := tW f _ _ _ _ GE xe h ⟨k1.nd, k1.sn, k1.ln, k1.lt⟩ (k2.fg _)
    exact ⟨g1, g2, hd.subset (bR _ g3)⟩
theorem jt {T : Tr} {D : Int} (hD : ∀ v, T.cK v ≤ D) : ∀ (f k : Nat) (l : List Int) (cO : Int), cO ≤ (second T f k l cO).2 ∧ (second T f k l cO).2 ≤ max cO D
 | 0, k, l, cO => ⟨kf _, by show cO ≤ _; omega⟩
 | f + 1, k, l, cO => by
  rw [second]
  split
  ·split
   ·rename_i h1 h2
    have := jt hD f (k + 1) (cj l 1 k) (T.cK (tv l[k]!))
    have := hD (tv l[k]!)
    omega
   ·exact jt hD f (k + 1) l cO
  ·exact ⟨kf _, by show cO ≤ _; omega⟩
theorem og {T : Tr} : ∀ (f k : Nat) (l : List Int) (cO : Int), 1 ≤ k → ∀ x ∈ (second T f k l cO).1, x ∈ l
 | 0, k, l, cO, _, x, hx => hx
 | f + 1, k, l, cO, h, x, hx => by
  rw [second] at hx
  split at hx
  ·split at hx
   ·exact pd (by omega) (by omega) (og f (k + 1) _ _ (by omega) x hx)
   ·exact og f (k + 1) l cO (by omega) x hx
  ·exact hx
theorem Ka {S : Sv} {G : Gr} (h : N8 S G) : G.seen.length ≤ S.vars + 1 := by
 have hn : (G.seen.map Int.toNat).Nodup := by
  unfold List.Nodup
  rw [List.pairwise_map]
  refine List.Pairwise.imp_of_mem ?_ h.nd
  intro a b ha hb dN e
  have := h.sn a ha
  have := h.sn b hb
  omega
 have := i9 (S.vars + 1) _ hn (fun x hx => by
  rw [bE] at hx
  obtain ⟨y, hy, rfl⟩ := hx
  have := h.sn y hy
  omega)
 simpa using this
theorem mL {S : Sv} {m : Nat} (ok : S.Ok m) {n : Nat} {S1 : Sv} {l : List Int} {cO : Int} (h : S.gO n = some (S1, l, cO)) :
  S1.Ok m ∧ S1.T = S.T ∧ S1.vars = S.vars ∧ S1.list.length = S.list.length ∧ S1.used = S.used ∧ 0 < l.length ∧ l.length ≤ 1048576 ∧ (∀ x ∈ l, x ≠ 0 ∧ -(S.vars : Int) ≤ x ∧ x ≤ S.vars) ∧ 0 ≤ cO ∧ cO ≤ S.T.levels.length := by
 have nT := ok.vl
 unfold gO at h
 cases hq : eZ (S.T.lits.length + 1) ⟨S, [], 0, [0]⟩ n 0 S.T.lits.reverse with
 | none => rw [hq] at h; cases h
 | some q =>
  obtain ⟨G, x⟩ := q
  rw [hq] at h
  simp only [Option.some.injEq, Prod.mk.injEq] at h
  obtain ⟨rfl, rfl, rfl⟩ := h
  obtain ⟨g1, g2, g3⟩ := tW (S := S) (m := m) _ _ _ _ _ G x hq ⟨by simp, fun v hv => by simp at hv, by simp, fun v hv => by simp at hv⟩ ⟨rfl, rfl, rfl, rfl, ok, fun x hx => by simp at hx; subst hx; omega, by simp⟩
  have hl := g1.ln
  have hs := Ka g1
  have h0 := g2.l0
  have hxb : x ≠ 0 ∧ -(S.vars : Int) ≤ x ∧ x ≤ S.vars := by
   rw [fH] at g3
   obtain ⟨i, hi, e⟩ := List.getElem_of_mem g3
   have := ok.mZ hi
   simp only [ae, af hi, aq, e] at this
   exact ⟨this.2.2.2.2, this.2.2.1, this.2.2.2.1⟩
  refine ⟨g2.ok, g2.T, g2.vars, g2.len, g2.used, by rw [fj, ak]; exact h0, by rw [fj, ak]; omega, fun y hy => ?_, ?_, ?_⟩
  ·have hy := og _ _ _ _ (ao 1) y hy
   cases hg : G.a8 with
   | nil => rw [hg] at h0; simp at h0
   | cons z r =>
    rw [hg] at hy
    simp only [List.set_cons_zero, ay] at hy
    rcases hy with rfl | hy
    ·omega
    ·exact ⟨g1.lt y (by rw [hg]; exact hy), g2.lr y (by rw [hg]; exact bR _ hy)⟩
  ·exact (jt (T := G.S.T) (D := G.S.T.levels.length) (fun v => (Dn g2.ok v).2) _ _ _ _).1
  ·have := (jt (T := G.S.T) (D := G.S.T.levels.length) (fun v => (Dn g2.ok v).2) (G.a8.set 0 (-x)).length 1 (G.a8.set 0 (-x)) 0).2
   rw [g2.T] at this ⊢
   omega
theorem G8 (G : Gr) (l : Int) : (meet G l).S.bump = G.S.bump ∧ (meet G l).S.many = G.S.many := by
 by_cases h : tv l ∈ G.seen ∨ G.S.T.cK (tv l) ≤ 0
 ·rw [ig h]; exact ⟨rfl, rfl⟩
 ·by_cases h2 : G.S.T.cK (tv l) = G.S.T.levels.length
  ·rw [fF h h2]; exact ⟨rfl, rfl⟩
  ·rw [gN h h2]; exact ⟨rfl, rfl⟩
theorem oq (skip : Int) : ∀ (ls : List Int) (G : Gr), (meets skip ls G).S.bump = G.S.bump ∧ (meets skip ls G).S.many = G.S.many
 | [], G => ⟨rfl, rfl⟩
 | l :: r, G => by
  rw [meets]
  split
  ·have h1 := oq skip r (meet G l)
   have h2 := G8 G l
   exact ⟨h1.1.trans h2.1, h1.2.trans h2.2⟩
  ·exact oq skip r G
theorem Aq (G : Gr) (n skip : Int) : (dF G n skip).S.bump = G.S.bump ∧ (dF G n skip).S.many = G.S.many := by
 unfold dF
 split
 ·exact oq skip _ _
 ·exact ⟨rfl, rfl⟩
theorem qZ : ∀ (f : Nat) (G : Gr) (n skip : Int) (rest : List Int) (GE : Gr) (xe : Int), eZ f G n skip rest = some (GE, xe) → GE.S.bump = G.S.bump ∧ GE.S.many = G.S.many
 | 0, G, n, skip, rest, GE, xe, h => by rw [jX] at h; cases h
 | f + 1, G, n, skip, rest, GE, xe, h => by
  rw [kB] at h
  have hk := Aq G n skip
  generalize dF G n skip = G1 at h hk
  unfold dA at h
  cases hq : rest.dropWhile (fun x => decide (tv x ∉ G1.seen)) with
  | nil => rw [hq] at h; cases h
  | cons x r =>
   rw [hq] at h
   simp only at h
   split at h
   ·simp only [Option.some.injEq, Prod.mk.injEq] at h
    obtain ⟨rfl, rfl⟩ := h
    exact hk
   ·have := qZ f _ _ _ _ GE xe h
    exact ⟨this.1.trans hk.1, this.2.trans hk.2⟩
theorem pF {S : Sv} {n : Nat} {S1 : Sv} {l : List Int} {cO : Int} (h : S.gO n = some (S1, l, cO)) : S1.bump = S.bump ∧ S1.many = S.many := by
 unfold gO at h
 cases hq : eZ (S.T.lits.length + 1) ⟨S, [], 0, [0]⟩ n 0 S.T.lits.reverse with
 | none => rw [hq] at h; cases h
 | some q =>
  obtain ⟨G, x⟩ := q
  rw [hq] at h
  simp only [Option.some.injEq, Prod.mk.injEq] at h
  obtain ⟨rfl, -, -⟩ := h
  exact qZ _ _ _ _ _ G x hq
theorem IY (S : Sv) (level : Nat) : (S.back level).bump = S.bump ∧ (S.back level).many = S.many ∧ (S.back level).used = S.used := by
 have h := jo S level
 exact ⟨h.2.2.2.2.2.2, h.2.2.1, h.2.1⟩
theorem Ok.cX {S : Sv} {m : Nat} (ok : S.Ok m) : S.cX.Ok m := ⟨ok.vl, ok.tr, ok.hi, ok.hl, ok.ph, ok.wl, ok.ll, ok.wb, ok.wt, ok.lr, ok.ln, ok.lb, ok.hd, ok.rs⟩
theorem Ok.Fz {S : Sv} {m : Nat} (ok : S.Ok m) (x : Int) : ({ S with many := x } : Sv).Ok m := ⟨ok.vl, ok.tr, ok.hi, ok.hl, ok.ph, ok.wl, ok.ll, ok.wb, ok.wt, ok.lr, ok.ln, ok.lb, ok.hd, ok.rs⟩
theorem Ok.xY {S : Sv} {m : Nat} (ok : S.Ok m) (x : Bool) : ({ S with bad := x } : Sv).Ok m := ⟨ok.vl, ok.tr, ok.hi, ok.hl, ok.ph, ok.wl, ok.ll, ok.wb, ok.wt, ok.lr, ok.ln, ok.lb, ok.hd, ok.rs⟩
theorem Ok.bW {S : Sv} {m : Nat} (ok : S.Ok m) {l : List Int} (h0 : 0 < l.length) (h1 : l.length ≤ 1048576) (hl : ∀ x ∈ l, x ≠ 0 ∧ -(S.vars : Int) ≤ x ∧ x ≤ S.vars) (hr : S.list.length < 2199023255552) : (S.bW l).Ok m := by
 unfold Sv.bW
 split
 ·exact ok.put ⟨by omega, by omega⟩
 ·rename_i h2
  have hf : S.Fits l := ⟨by omega, h1, hl⟩
  have h3 := ok.attach hf true hr
  have h4 := ed S l true
  exact (h3.put (x := l[0]!) (r := (S.list.length : Int) + 1) ⟨by omega, by rw [h4.2.2.1]; omega⟩).Fz _
end Sv
theorem aH.MC {L L' M : aH} {A : Option Addr} {w w' : World} (h : L.ext M w) (ha : L'.a = M.a) (hi : L'.id = M.id) (hk : ∀ k, k < w'.heap.size → (L'.cv k).1 = M.id → (M.cv k).1 = M.id ∨ k ∈ ah A) (hz : w.heap.size ≤ w'.heap.size) (hA : ∀ k, k ∈ ah A → w.heap.size ≤ k) : L.ext L' w :=
 ⟨ha.trans h.1, hi.trans h.2.1, fun k hl e => by
  rcases hk k (aQ hl hz) (e.trans h.2.1.symm) with h1 | h1
  ·exact h.2.2 k hl (h1.trans h.2.1)
  ·have := hA k h1
   omega⟩
theorem aH.yi {L M : aH} {A : Option Addr} {w w' vg : World} (h : L.ext M w) (h1 : Fr (L.own w) w w') (h2 : Fr (ah A ++ M.own w') w' vg) (hA : ∀ k, k ∈ ah A → w.heap.size ≤ k) : Fr (L.own w) w vg :=
 h1.trans h2 fun x hx => by
  rcases aj.1 hx with hx | hx
  ·exact .inr (hA x hx)
  ·rw [aH.bI] at hx
   rcases bl x w.heap.size with hl | hl
   ·left
    rw [aH.bI]
    exact ⟨hl, h.2.2 x hl (hx.2.trans h.2.1)⟩
   ·exact .inr hl
theorem zU (b : Nat) : ((b : Int).tdiv 16) = ((b / 16 : Nat) : Int) := by
 rw [Int.tdiv_eq_ediv_of_nonneg (by omega)]
 rfl
set_option maxRecDepth 100000 in
set_option maxHeartbeats 16000000 in
theorem uR (w : World) (L : aH) (S : Sv) (h : aK w L S) (m : Nat) (ok : S.Ok m) (n : Nat) (hn : n < S.list.length) (vq : S.list.length < 2199023255552) (hu : S.used ≤ 2199023255552) (V6 : S.bump ≤ 1073741824) (hma : S.many < 4611686018427387904) (vP : -4611686018427387904 < S.many) (Ct : S.T.levels.length ≤ 8796093022208) (S' : Sv) (b : Bool) (fa : S.conflict n = some (S', b)) :
  Calls Tryz.prog 107 #[.pointer (some ⟨L.a, 0, none⟩), .int .i64 n] w (me (.bool b) S' L w) := by
 have HH := aa h
 have kQ := aa ok
 obtain ⟨c0, -⟩ := h.cells
 have KD := aa (jS w L.tL S.T h.tr)
 unfold Sv.conflict at fa
 by_cases hz : S.T.levels.length = 0
 ·rw [if_pos hz] at fa
  simp only [Option.some.injEq, Prod.mk.injEq] at fa
  obtain ⟨rfl, rfl⟩ := fa
  rw [hz] at KD
  have rz := h.obj.frozen 13
  have BO := h.cells.2.2.2.2.2.2.2.2.2.2.2.2.2.1
  obtain ⟨g1, g2⟩ := h.nE 13 (.bool true) { S with bad := true } (by simp [m7]) ⟨rfl, rfl, rfl, rfl, rfl, rfl, rfl⟩
  have FF : Hid (me (.bool false) { S with bad := true } L w (.returned (.bool false)) (w.setCell ⟨L.a, 13, none⟩ (.bool true))) := ⟨rfl, L, g1, aH.bX _ _, g2⟩
  clear h ok g1 g2 hz
  go_enter Tryz.func107, Tryz.ntmps107
  go_wp2_with fail
  refine KD.out.mono ?_
  rintro e w1 ⟨rfl, rfl⟩
  clear KD
  go_wp2_with fail
  go_ret
  exact FF.out
 ·rw [if_neg hz] at fa
  have hd : ((S.T.levels.length : Int) == (0 : Int)) = false := by rw [beq_eq_false_iff_ne]; omega
  cases hq : S.gO n with
  | none => rw [hq] at fa; cases fa
  | some q =>
   obtain ⟨S1, l, cO⟩ := q
   rw [hq] at fa
   simp only [Option.some.injEq, Prod.mk.injEq] at fa
   obtain ⟨rfl, rfl⟩ := fa
   have KLD := aa (vJ w L S h m ok n hn S1 l cO hq)
   obtain ⟨Jr, eT, eV, eL, eU, l0, l1, lr, Xc, Xb⟩ := Sv.mL ok hq
   obtain ⟨lv, rfl⟩ : ∃ lv : Nat, cO = lv := ⟨cO.toNat, by omega⟩
   have oD : lv ≤ 8796093022208 := by omega
   have Nn := aa Jr
   have oM := aa lr
   have nT := ok.vl
   obtain ⟨WM, YT, R6⟩ := Jr.back lv
   have QP := aa WM
   obtain ⟨S2, Wa⟩ : ∃ S2, S1.back lv = S2 := ⟨_, rfl⟩
   have hx := Sv.IY S1 lv
   rw [Wa] at WM YT R6 QP hx
   have HS2 := aa Wa
   have rA : S2.bump = S.bump ∧ S2.many = S.many ∧ S2.used = S.used := ⟨hx.1.trans (Sv.pF hq).1, hx.2.1.trans (Sv.pF hq).2, hx.2.2.trans eU⟩
   obtain ⟨Bl, j3, Az⟩ := rA
   have RN : S2.list.length = S.list.length := by rw [R6]; exact eL
   have Rv : S2.vars = S.vars := YT.trans eV
   have Zj := aa Rv
   have Nw := aa RN
   have Oa := aa Az
   have oN := aa vq
   have HU := aa hu
   have dC : Hid (((S1.back ((lv : Int).toNat)).bW l).cX = (S2.bW l).cX) := by
    show _ = _
    rw [Int.toNat_natCast, Wa]
   rw [dC.out]
   clear h ok hz hq Jr lr WM Wa eT eV eL eU YT R6 hx hn RN Rv Az vq hu Xc Xb
   go_enter Tryz.func107, Tryz.ntmps107
   go_wp2_with fail
   refine KD.out.mono ?_
   rintro e w1 ⟨rfl, rfl⟩
   clear KD c0
   go_wp2_with fail
   refine KLD.out.mono ?_
   clear KLD hd
   rintro e w1 ⟨A, c, rfl, L1, h1, sQ, LS, hA1, cE⟩
   have H1 := aa h1
   have dV := aa sQ
   have CJ := aa LS
   have VH := aa hA1
   have dv := aa cE
   clear h1 sQ LS hA1 cE
   have KB := aa (lI w1 L1 S1 H1.out m Nn.out lv (by omega))
   rw [dV.out.1, HS2.out] at KB
   go_wp2_with fail
   refine KB.out.mono ?_
   clear KB
   rintro e w2 ⟨rfl, L2, h2, iW, cd⟩
   have H2 := aa h2
   have cL := aa (aH.aM dV.out iW dv.out.size)
   have cJ := aa (aH.aI dV.out dv.out cd)
   have lZ : Hid (Ints w2 A c l) := CJ.out.fr cd (fun k hk hm => (VH.out k hk).2 (aH.bI.1 hm).2)
   have Fl : Hid (∀ k, k ∈ ah A → w.heap.size ≤ k ∧ (L2.cv k).1 ≠ L2.id) := fun k hk => ⟨(VH.out k hk).1, fun e => (VH.out k hk).2 (iW.2.2 k (CJ.out.lt k hk) (e.trans iW.2.1))⟩
   clear h2 iW cd CJ VH H1 dV dv Nn
   obtain ⟨ga, np, ru⟩ := lZ.out.pos l0
   subst np
   have s0 := H2.out.cells.1
   rw [cL.out.1] at s0
   have s1 := lZ.out.cell l0
   obtain ⟨y, hy⟩ : ∃ y, l[0]! = y := ⟨_, rfl⟩
   rw [hy] at s1
   have NV := oM.out y (by rw [← hy]; exact get_mem l0)
   obtain ⟨jJ, gx, kg⟩ := NV
   have HY := aa hy
   have th := aa s0
   have mg := aa s1
   clear ru hy s0 s1
   by_cases FY : l.length = 1
   ·have Ef : ((l.length : Int) == (1 : Int)) = true := by simp [FY]
    have zD : Hid (S2.bW l = S2.put y 0) := by
     show _ = _
     unfold Sv.bW
     rw [if_pos FY, HY.out]
    have KP := aa (fun W (hW : Fr [] w2 W) => ku W L2 S2 (H2.out.keep hW) m QP.out y 0 (by rw [Zj.out]; exact gx) (by rw [Zj.out]; exact kg))
    go_wp2_with fail
    go_upto_region 7 with fail
    refine wp_region_noPanic ?_
    refine bj (fun w' : World => Fr [] w2 w') 7 (by kernel_rfl) ((Fr.refl [] w2).drew) (fun dd => ?_)
    apply TB 7 [(0, []), (1, []), (2, []), (3, [3, 7]), (4, []), (5, []), (6, [6, 7])]; kernel_rfl; rfl; · (repeat (apply ef; rfl; rfl; (· intro w aY; (try (have aY := aY.resolve_left (aF _ _); (have s0 := aY.av th.out; have s1 := aY.av mg.out))); go_simp <;> with_reducible rfl); try simp only [Act.put, q5, q6, q7])); exact ee
    exact dd; intro dd
    refine R2 7 (by kernel_rfl) (by rfl) dd fun K hK ap => ?_
    (go_simp; refine (KP.out _ ap).mono ?_; rintro e w5 ⟨⟨x5, rfl⟩, L5, h5, sP, dK⟩; dsimp only)
    refine hK.out _ _ (.inl rfl) (fun Ml => ?_)
    clear hK K
    try simp only [Act.put, q5, q6, q7]
    refine az (by kernel_rfl) ?_ _
    refine NoPanic.normal ?_
    clear KP
    have mf : Hid (L.ext L5 w) := aH.aM cL.out sP (aE cJ.out.size ap.size)
    have qj : Hid (Fr (L.own w) w w5) := aH.aI cL.out (cJ.out.ag (ap.mono (fun k hk => by cases hk))) dK
    have H5 := aa h5
    clear h5 sP dK
    obtain ⟨S6, vT⟩ : ∃ S6, S2.put y 0 = S6 := ⟨_, rfl⟩
    rw [vT] at H5
    have Ob : Hid (S6 = S2.bW l) := by rw [zD.out]; exact vT.symm
    have hb6 : S6.bump = S2.bump := by rw [← vT]; rfl
    have H6 := H5
    have iG := qj
    clear vT
    go_wp2_with fail
    obtain ⟨-, -, -, -, -, -, -, -, -, -, MT, -⟩ := H6.out.cells
    rw [mf.out.1] at MT
    have f10 := H6.out.obj.frozen 10
    rw [mf.out.1] at f10
    have Ew : S6.bump = S.bump := hb6.trans Bl
    rw [Ew] at MT
    obtain ⟨bb, Cu⟩ : ∃ bb, S.bump = bb := ⟨_, rfl⟩
    rw [Cu] at MT V6
    have Oh := aa (Ew.trans Cu)
    have rq := zU bb
    have O4 : IntKind.i64.wrap ((bb : Int) + ((bb / 16 : Nat) : Int)) = (bb : Int) + ((bb / 16 : Nat) : Int) := IntWalk.i64_in _ (by omega)
    have O3 : IntKind.i64.wrap ((bb : Int) + ((bb / 16 : Nat) : Int) + 1) = (bb : Int) + ((bb / 16 : Nat) : Int) + 1 := IntWalk.i64_in _ (by omega)
    clear Ew Cu rq
    rcases bl 1073741824 (bb + bb / 16 + 1) with TT | TT
    ·have TS : (1073741824 : Int) < (bb : Int) + ((bb / 16 : Nat) : Int) + 1 := by omega
     have ve : Hid (min (bb + bb / 16 + 1) 1073741824 = 1073741824) := Nat.min_eq_right (by omega)
     clear TT
     go_upto_region 10 with fail
     go_region
     obtain ⟨g7, f7⟩ := H6.out.nE 10 (.int .i64 ((1073741824 : Nat) : Int)) { S6 with bump := 1073741824 } (by simp [m7]) ⟨rfl, rfl, rfl, rfl, rfl, rfl, rfl⟩
     rw [mf.out.1] at g7 f7
     have h8 := g7.keep (Fr.refl [] _).drew
     have uw : ({ S6 with bump := 1073741824 } : Sv) = (S2.bW l).cX := by
      rw [← Ob.out]
      unfold Sv.cX
      rw [Oh.out, ve.out]
     rw [uw] at h8
     have FF : Hid (me (.bool true) (S2.bW l).cX L w (.returned (.bool true)) _) := ⟨rfl, L5, h8, mf.out, (aH.aI mf.out iG.out f7).drew⟩
     clear h8 f7 g7 uw MT f10 O4 O3
     go_wp2_with fail
     go_ret
     exact FF.out
    ·have TS : (bb : Int) + ((bb / 16 : Nat) : Int) + 1 ≤ (1073741824 : Int) := by omega
     have ve : Hid (min (bb + bb / 16 + 1) 1073741824 = bb + bb / 16 + 1) := iH (by omega)
     have Fh : Hid ((bb : Int) + (bb : Int) / 16 + 1 = ((bb + bb / 16 + 1 : Nat) : Int)) := by show _ = _; omega
     clear TT
     go_upto_region 10 with fail
     go_region
     rw [Fh.out]
     obtain ⟨g7, f7⟩ := H6.out.nE 10 (.int .i64 (((bb + bb / 16 + 1) : Nat) : Int)) { S6 with bump := (bb + bb / 16 + 1) } (by simp [m7]) ⟨rfl, rfl, rfl, rfl, rfl, rfl, rfl⟩
     rw [mf.out.1] at g7 f7
     have h8 := g7.keep (Fr.refl [] _).drew
     have uw : ({ S6 with bump := (bb + bb / 16 + 1) } : Sv) = (S2.bW l).cX := by
      rw [← Ob.out]
      unfold Sv.cX
      rw [Oh.out, ve.out]
     rw [uw] at h8
     have FF : Hid (me (.bool true) (S2.bW l).cX L w (.returned (.bool true)) _) := ⟨rfl, L5, h8, mf.out, (aH.aI mf.out iG.out f7).drew⟩
     clear h8 f7 g7 uw MT f10 O4 O3
     go_wp2_with fail
     go_ret
     exact FF.out
   ·have Ef : ((l.length : Int) == (1 : Int)) = false := by rw [beq_eq_false_iff_ne]; omega
    have Fd : Hid (S2.Fits l) := ⟨by omega, l1, fun x hx => by rw [Zj.out]; exact oM.out x hx⟩
    obtain ⟨nl, oz⟩ : ∃ nl, S2.list.length = nl := ⟨_, rfl⟩
    have Vg := aa oz
    have alE : nl < 2199023255552 := by rw [← oz, Nw.out]; exact oN.out
    have zD : Hid (S2.bW l = { ((S2.attach l true).put y ((nl : Int) + 1)) with many := S2.many + 1 }) := by
     show _ = _
     unfold Sv.bW
     rw [if_neg FY, HY.out, Vg.out]
    have UU := aa (fun W (hW : Fr [] w2 W) => p9 W L2 S2 (H2.out.keep hW) m QP.out (some ⟨ga, 0, none⟩) c l true (lZ.out.eE hW) Fd.out (fun k hk => (Fl.out k hk).2) (by rw [Nw.out]; exact oN.out) (by rw [Oa.out]; exact HU.out))
    rw [cL.out.1, oz] at UU
    have agi := aa (QP.out.attach Fd.out true (by rw [Nw.out]; exact oN.out))
    have kk := Sv.ed S2 l true
    have NR := aa kk
    have hwn : IntKind.i64.wrap ((nl : Int) + 1) = (nl : Int) + 1 := IntWalk.i64_in _ (by omega)
    clear kk oz
    go_wp2_with fail
    go_upto_region 8 with fail
    refine wp_region_noPanic ?_
    refine bj (fun w' : World => w'.cell? ⟨L.a, 0, none⟩ = some (.pointer (some ⟨L2.tL.a, 0, none⟩)) ∧ w'.cell? ⟨ga, 0, none⟩ = some (.int .i64 y)) 11 (by kernel_rfl) (⟨th.out, mg.out⟩) (fun dd => ?_)
    apply TB 9 [(0, []), (1, []), (2, []), (3, [3, 11]), (4, []), (5, []), (6, [6, 11]), (7, []), (8, [])]; kernel_rfl; rfl; · (repeat (apply ef; rfl; rfl; (· intro w aY; (try (have aY := aY.resolve_left (aF _ _); (have s0 := aY.1; have s1 := aY.2))); go_simp <;> with_reducible rfl); try simp only [Act.put, q5, q6, q7])); exact ee
    exact dd; intro dd
    refine R2 9 (by kernel_rfl) (by rfl) dd fun K hK ap => ?_
    (go_simp; refine (UU.out _ (Fr.refl [] w2).drew).mono ?_; rintro e w4 ⟨rfl, L4, h4, ha4, yB, hk4, eF, hr4, ht4⟩; have s0' := h4.cells.1; rw [ha4, cL.out.1, ht4] at s0'; have s1' := hr4.cell l0; rw [HY.out] at s1'; have H4 := aa h4; have tf : Hid (L.ext L4 w) := aH.MC cL.out ha4 yB hk4 cJ.out.size (fun k hk => (Fl.out k hk).1); have gS : Hid (Fr (L.own w) w w4) := aH.yi cL.out cJ.out.drew eF (fun k hk => (Fl.out k hk).1); have U5 := aa ht4; have KP := aa (ku w4 L4 (S2.attach l true) h4 m agi.out y ((nl : Int) + 1) (by rw [NR.out.2.1, Zj.out]; exact gx) (by rw [NR.out.2.1, Zj.out]; exact kg)); rw [ht4] at KP; clear h4 ha4 yB hk4 eF hr4 ht4; dsimp only)
    refine hK.out _ _ (.inr ?_) (fun ix => ?_)
    ·first | exact ⟨s0', s1'⟩ | exact ap
    clear hK K
    try simp only [Act.put, q5, q6, q7]
    apply TB 1 [(10, [])]; kernel_rfl; rfl; · (repeat (apply ef; rfl; rfl; (· intro w aY; go_simp <;> with_reducible rfl); try simp only [Act.put, q5, q6, q7])); exact ee
    exact ix; intro ix
    refine R2 11 (by kernel_rfl) (by rfl) ix fun K hK ap => ?_
    (go_simp; refine KP.out.mono ?_; rintro e w5 ⟨⟨x5, rfl⟩, L5, h5, sP, dK⟩; dsimp only)
    refine hK.out _ _ (.inl rfl) (fun iw => ?_)
    clear hK K
    try simp only [Act.put, q5, q6, q7]
    refine az (by kernel_rfl) ?_ _
    refine NoPanic.normal ?_
    clear KP UU
    have mf : Hid (L.ext L5 w) := aH.aM tf.out sP gS.out.size
    have qj : Hid (Fr (L.own w) w w5) := aH.aI tf.out gS.out dK
    have H5 := aa h5
    clear h5 sP dK
    obtain ⟨-, -, -, -, -, -, -, -, -, -, -, b11, -⟩ := H5.out.cells
    rw [mf.out.1] at b11
    have f11 := H5.out.obj.frozen 11
    rw [mf.out.1] at f11
    have hm5 : ((S2.attach l true).put y ((nl : Int) + 1)).many = S.many := j3
    rw [hm5] at b11
    obtain ⟨mm, vO⟩ : ∃ mm, S.many = mm := ⟨_, rfl⟩
    rw [vO] at b11 hma vP
    have vn : IntKind.i64.wrap (mm + 1) = mm + 1 := IntWalk.i64_in _ (by omega)
    obtain ⟨g6, f6⟩ := H5.out.nE 11 (.int .i64 (mm + 1)) { ((S2.attach l true).put y ((nl : Int) + 1)) with many := mm + 1 } (by simp [m7]) ⟨rfl, rfl, rfl, rfl, rfl, rfl, rfl⟩
    rw [mf.out.1] at g6 f6
    obtain ⟨S6, vT⟩ : ∃ S6, ({ ((S2.attach l true).put y ((nl : Int) + 1)) with many := mm + 1 } : Sv) = S6 := ⟨_, rfl⟩
    have Ob : Hid (S6 = S2.bW l) := by rw [zD.out, j3, vO]; exact vT.symm
    have hb6 : S6.bump = S2.bump := by rw [← vT]; rfl
    rw [vT] at g6
    clear vT hm5
    go_upto_region 9 with fail
    go_wp2_with fail
    obtain ⟨w6, xd⟩ : ∃ w6, w5.setCell ⟨L.a, 11, none⟩ (.int .i64 (mm + 1)) = w6 := ⟨_, rfl⟩
    rw [xd] at g6 f6 ⊢
    have H6 := aa g6
    have iG := aa (aH.aI mf.out qj.out f6)
    clear xd g6 f6 b11 f11 vn vO
    obtain ⟨-, -, -, -, -, -, -, -, -, -, MT, -⟩ := H6.out.cells
    rw [mf.out.1] at MT
    have f10 := H6.out.obj.frozen 10
    rw [mf.out.1] at f10
    have Ew : S6.bump = S.bump := hb6.trans Bl
    rw [Ew] at MT
    obtain ⟨bb, Cu⟩ : ∃ bb, S.bump = bb := ⟨_, rfl⟩
    rw [Cu] at MT V6
    have Oh := aa (Ew.trans Cu)
    have rq := zU bb
    have O4 : IntKind.i64.wrap ((bb : Int) + ((bb / 16 : Nat) : Int)) = (bb : Int) + ((bb / 16 : Nat) : Int) := IntWalk.i64_in _ (by omega)
    have O3 : IntKind.i64.wrap ((bb : Int) + ((bb / 16 : Nat) : Int) + 1) = (bb : Int) + ((bb / 16 : Nat) : Int) + 1 := IntWalk.i64_in _ (by omega)
    clear Ew Cu rq
    rcases bl 1073741824 (bb + bb / 16 + 1) with TT | TT
    ·have TS : (1073741824 : Int) < (bb : Int) + ((bb / 16 : Nat) : Int) + 1 := by omega
     have ve : Hid (min (bb + bb / 16 + 1) 1073741824 = 1073741824) := Nat.min_eq_right (by omega)
     clear TT
     go_upto_region 10 with fail
     go_region
     obtain ⟨g7, f7⟩ := H6.out.nE 10 (.int .i64 ((1073741824 : Nat) : Int)) { S6 with bump := 1073741824 } (by simp [m7]) ⟨rfl, rfl, rfl, rfl, rfl, rfl, rfl⟩
     rw [mf.out.1] at g7 f7
     have h8 := g7.keep (Fr.refl [] _).drew
     have uw : ({ S6 with bump := 1073741824 } : Sv) = (S2.bW l).cX := by
      rw [← Ob.out]
      unfold Sv.cX
      rw [Oh.out, ve.out]
     rw [uw] at h8
     have FF : Hid (me (.bool true) (S2.bW l).cX L w (.returned (.bool true)) _) := ⟨rfl, L5, h8, mf.out, (aH.aI mf.out iG.out f7).drew⟩
     clear h8 f7 g7 uw MT f10 O4 O3
     go_wp2_with fail
     go_ret
     exact FF.out
    ·have TS : (bb : Int) + ((bb / 16 : Nat) : Int) + 1 ≤ (1073741824 : Int) := by omega
     have ve : Hid (min (bb + bb / 16 + 1) 1073741824 = bb + bb / 16 + 1) := iH (by omega)
     have Fh : Hid ((bb : Int) + (bb : Int) / 16 + 1 = ((bb + bb / 16 + 1 : Nat) : Int)) := by show _ = _; omega
     clear TT
     go_upto_region 10 with fail
     go_region
     rw [Fh.out]
     obtain ⟨g7, f7⟩ := H6.out.nE 10 (.int .i64 (((bb + bb / 16 + 1) : Nat) : Int)) { S6 with bump := (bb + bb / 16 + 1) } (by simp [m7]) ⟨rfl, rfl, rfl, rfl, rfl, rfl, rfl⟩
     rw [mf.out.1] at g7 f7
     have h8 := g7.keep (Fr.refl [] _).drew
     have uw : ({ S6 with bump := (bb + bb / 16 + 1) } : Sv) = (S2.bW l).cX := by
      rw [← Ob.out]
      unfold Sv.cX
      rw [Oh.out, ve.out]
     rw [uw] at h8
     have FF : Hid (me (.bool true) (S2.bW l).cX L w (.returned (.bool true)) _) := ⟨rfl, L5, h8, mf.out, (aH.aI mf.out iG.out f7).drew⟩
     clear h8 f7 g7 uw MT f10 O4 O3
     go_wp2_with fail
     go_ret
     exact FF.out
def ld (a b : Nat) : Nat → Nat → List Int → List Int
 | 0, _, ys => ys
 | n + 1, k, ys => ld a b n (k + 1) (cj ys (a + k) (b + k))
theorem GL {a b n k : Nat} (h : k < n) (ys : List Int) : ld a b (n - k) k ys = ld a b (n - (k + 1)) (k + 1) (cj ys (a + k) (b + k)) := by
 rw [show n - k = (n - (k + 1)) + 1 by omega, ld]
theorem J6 (a b n : Nat) (ys : List Int) : ld a b (n - n) n ys = ys := by rw [Nat.sub_self, ld]
def qE (q : Int → Int → Int) (a : Nat) : Nat → List Int → List Int
 | 0, ys => ys
 | j + 1, ys => if a < j + 1 ∧ q ys[j + 1]! ys[j]! < 0 then qE q a j (cj ys (j + 1) j) else ys
def mO (q : Int → Int → Int) (a : Nat) : Nat → Nat → List Int → List Int
 | 0, _, ys => ys
 | n + 1, i, ys => mO q a n (i + 1) (qE q a i ys)
theorem Hg {q : Int → Int → Int} {a b i : Nat} (h : i < b) (ys : List Int) : mO q a (b - i) i ys = mO q a (b - (i + 1)) (i + 1) (qE q a i ys) := by
 rw [show b - i = (b - (i + 1)) + 1 by omega, mO]
theorem K8 {q : Int → Int → Int} {a b i : Nat} (h : ¬ i < b) (ys : List Int) : mO q a (b - i) i ys = ys := by
 rw [show b - i = 0 by omega, mO]
theorem K6 {q : Int → Int → Int} {a j p : Nat} (hp : j - 1 = p) (h : a < j) {ys : List Int} (hq : q ys[j]! ys[p]! < 0) : qE q a j ys = qE q a p (cj ys j p) := by
 obtain rfl : j = p + 1 := by omega
 rw [qE, if_pos ⟨h, hq⟩]
theorem OX {q : Int → Int → Int} {a j p : Nat} (hp : j - 1 = p) (h : a < j) {ys : List Int} (hq : ¬ q ys[j]! ys[p]! < 0) : qE q a j ys = ys := by
 obtain rfl : j = p + 1 := by omega
 rw [qE, if_neg (fun e => hq e.2)]
theorem K7 {q : Int → Int → Int} {a j : Nat} (h : ¬ a < j) (ys : List Int) : qE q a j ys = ys := by
 cases j with
 | zero => rfl
 | succ j => rw [qE, if_neg (fun e => h e.1)]
def lS (m : Nat) : Nat → Nat → Nat → List Int → List Int
 | 0, _, _, ys => ys
 | f + 1, i, j, ys => if i < j then lS m f i (j - i) (ld (m - i) (m + j - i) i 0 ys) else if i = j then ld (m - i) m i 0 ys else lS m f (i - j) j (ld (m - i) m j 0 ys)
theorem OA {m f i j : Nat} (hf : 0 < f) (h : i < j) (ys : List Int) : lS m f i j ys = lS m (f - 1) i (j - i) (ld (m - i) (m + j - i) i 0 ys) := by
 obtain ⟨f, rfl⟩ : ∃ g, f = g + 1 := ⟨f - 1, by omega⟩
 rw [lS, if_pos h]
 rfl
theorem OC {m f i : Nat} (hf : 0 < f) (ys : List Int) : lS m f i i ys = ld (m - i) m i 0 ys := by
 obtain ⟨f, rfl⟩ : ∃ g, f = g + 1 := ⟨f - 1, by omega⟩
 rw [lS, if_neg (by omega), if_pos rfl]
theorem OB {m f i j : Nat} (hf : 0 < f) (h : j < i) (ys : List Int) : lS m f i j ys = lS m (f - 1) (i - j) j (ld (m - i) m j 0 ys) := by
 obtain ⟨f, rfl⟩ : ∃ g, f = g + 1 := ⟨f - 1, by omega⟩
 rw [lS, if_neg (by omega), if_neg (by omega)]
 rfl
def pV (t : Nat → Bool) : Nat → Nat → Nat → Nat
 | 0, i, _ => i
 | f + 1, i, j => if i < j then (if t ((i + j) / 2) = true then pV t f ((i + j) / 2 + 1) j else pV t f i ((i + j) / 2)) else i
theorem zc {t : Nat → Bool} {f i j h : Nat} (hf : 0 < f) (rt : i < j) (hh : (i + j) / 2 = h) (ht : t h = true) : pV t f i j = pV t (f - 1) (h + 1) j := by
 subst hh
 obtain ⟨f, rfl⟩ : ∃ g, f = g + 1 := ⟨f - 1, by omega⟩
 rw [pV, if_pos rt, if_pos ht]
 rfl
theorem EL {t : Nat → Bool} {f i j h : Nat} (hf : 0 < f) (rt : i < j) (hh : (i + j) / 2 = h) (ht : t h = false) : pV t f i j = pV t (f - 1) i h := by
 subst hh
 obtain ⟨f, rfl⟩ : ∃ g, f = g + 1 := ⟨f - 1, by omega⟩
 rw [pV, if_pos rt, if_neg (by rw [ht]; decide)]
 rfl
theorem zd {t : Nat → Bool} {f i j : Nat} (rt : ¬ i < j) : pV t f i j = i := by
 cases f with
 | zero => rfl
 | succ f => rw [pV, if_neg rt]
def nO : Nat → Nat → List Int → List Int
 | 0, _, ys => ys
 | n + 1, k, ys => nO n (k + 1) (cj ys k (k + 1))
def JM : Nat → Nat → List Int → List Int
 | 0, _, ys => ys
 | n + 1, k, ys => JM n (k - 1) (cj ys k (k - 1))
def iJ (q : Int → Int → Int) : Nat → List Int → Nat → Nat → Nat → List Int
 | 0, xs, _, _, _ => xs
 | N + 1, xs, a, m, b =>
  if m - a = 1 then nO (pV (fun h => decide (q xs[h]! xs[a]! < 0)) b m b - 1 - a) a xs
  else if b - m = 1 then JM (m - pV (fun h => !decide (q xs[m]! xs[h]! < 0)) b a m) m xs
  else
   let M := (a + b) / 2
   let n := M + m
   let s := pV (fun h => !decide (q xs[n - 1 - h]! xs[h]! < 0)) b (if M < m then n - b else a) (if M < m then M else m)
   let E := n - s
   let y1 := if s < m ∧ m < E then lS m (E - s) (m - s) (E - m) xs else xs
   let y2 := if a < s ∧ s < M then iJ q N y1 a s M else y1
   if M < E ∧ E < b then iJ q N y2 M E b else y2
theorem J3 {q : Int → Int → Int} {N : Nat} {xs : List Int} {a m b : Nat} (h : m - a = 1) : iJ q (N + 1) xs a m b = nO (pV (fun h => decide (q xs[h]! xs[a]! < 0)) b m b - 1 - a) a xs := by
 rw [iJ, if_pos h]
theorem J2 {q : Int → Int → Int} {N : Nat} {xs : List Int} {a m b : Nat} (h : m - a ≠ 1) (h2 : b - m = 1) : iJ q (N + 1) xs a m b = JM (m - pV (fun h => !decide (q xs[m]! xs[h]! < 0)) b a m) m xs := by
 rw [iJ, if_neg h, if_pos h2]
theorem JY {k p k1 : Nat} (h : k < p) (hk : k + 1 = k1) (ys : List Int) : nO (p - k) k ys = nO (p - k1) k1 (cj ys k k1) := by
 subst hk
 rw [show p - k = (p - (k + 1)) + 1 by omega, nO]
theorem On {k p : Nat} (h : ¬ k < p) (ys : List Int) : nO (p - k) k ys = ys := by
 rw [show p - k = 0 by omega, nO]
theorem MI {i k k1 : Nat} (h : i < k) (hk : k - 1 = k1) (ys : List Int) : JM (k - i) k ys = JM (k1 - i) k1 (cj ys k k1) := by
 subst hk
 rw [show k - i = (k - 1 - i) + 1 by omega, JM]
theorem Qv {i k : Nat} (h : ¬ i < k) (ys : List Int) : JM (k - i) k ys = ys := by
 rw [show k - i = 0 by omega, JM]
def J5 (xs : List Int) (s m E : Nat) : List Int := if s < m ∧ m < E then lS m (E - s) (m - s) (E - m) xs else xs
def xT (q : Int → Int → Int) (N : Nat) (y : List Int) (a s M : Nat) : List Int := if a < s ∧ s < M then iJ q N y a s M else y
theorem J4 {q : Int → Int → Int} {N : Nat} {xs : List Int} {a m b M n p s E : Nat} {t : Nat → Bool} (h : m - a ≠ 1) (h2 : b - m ≠ 1) (hM : (a + b) / 2 = M) (hn : M + m = n) (hp : n - 1 = p) (ht : (fun h => !decide (q xs[p - h]! xs[h]! < 0)) = t)
  (hs : pV t b (if M < m then n - b else a) (if M < m then M else m) = s) (hE : n - s = E) : iJ q (N + 1) xs a m b = xT q N (xT q N (J5 xs s m E) a s M) M E b := by
 subst hM hn hp ht hs hE
 rw [iJ, if_neg h, if_neg h2]
 rfl
def uV (q : Int → Int → Int) (n : Nat) : Nat → Nat → List Int → List Int
 | 0, _, ys => ys
 | f + 1, a, ys => if a + 20 ≤ n then uV q n f (a + 20) (mO q a (a + 20 - (a + 1)) (a + 1) ys) else mO q a (n - (a + 1)) (a + 1) ys
theorem MQ {q : Int → Int → Int} {n f a b : Nat} (hf : 0 < f) (hb : a + 20 = b) (h : b ≤ n) (ys : List Int) : uV q n f a ys = uV q n (f - 1) b (mO q a (b - (a + 1)) (a + 1) ys) := by
 subst hb
 obtain ⟨f, rfl⟩ : ∃ g, f = g + 1 := ⟨f - 1, by omega⟩
 rw [uV, if_pos h]
 rfl
theorem QE {q : Int → Int → Int} {n f a b : Nat} (hf : 0 < f) (hb : a + 20 = b) (h : ¬ b ≤ n) (ys : List Int) : uV q n f a ys = mO q a (n - (a + 1)) (a + 1) ys := by
 subst hb
 obtain ⟨f, rfl⟩ : ∃ g, f = g + 1 := ⟨f - 1, by omega⟩
 rw [uV, if_neg h]
def pz (q : Int → Int → Int) (n k : Nat) : Nat → Nat → List Int → List Int
 | 0, _, ys => ys
 | f + 1, a, ys => if a + 2 * k ≤ n then pz q n k f (a + 2 * k) (iJ q n ys a (a + k) (a + 2 * k)) else if a + k < n then iJ q n ys a (a + k) n else ys
theorem Kv {q : Int → Int → Int} {n k f a b m k2 : Nat} (hf : 0 < f) (hk : 2 * k = k2) (hb : a + k2 = b) (hm : a + k = m) (h : b ≤ n) (ys : List Int) : pz q n k f a ys = pz q n k (f - 1) b (iJ q n ys a m b) := by
 subst hk hb hm
 obtain ⟨f, rfl⟩ : ∃ g, f = g + 1 := ⟨f - 1, by omega⟩
 rw [pz, if_pos h]
 rfl
theorem Kw {q : Int → Int → Int} {n k f a b m k2 : Nat} (hf : 0 < f) (hk : 2 * k = k2) (hb : a + k2 = b) (hm : a + k = m) (h : ¬ b ≤ n) (h2 : m < n) (ys : List Int) : pz q n k f a ys = iJ q n ys a m n := by
 subst hk hb hm
 obtain ⟨f, rfl⟩ : ∃ g, f = g + 1 := ⟨f - 1, by omega⟩
 rw [pz, if_neg h, if_pos h2]
theorem OO {q : Int → Int → Int} {n k f a b m k2 : Nat} (hf : 0 < f) (hk : 2 * k = k2) (hb : a + k2 = b) (hm : a + k = m) (h : ¬ b ≤ n) (h2 : ¬ m < n) (ys : List Int) : pz q n k f a ys = ys := by
 subst hk hb hm
 obtain ⟨f, rfl⟩ : ∃ g, f = g + 1 := ⟨f - 1, by omega⟩
 rw [pz, if_neg h, if_neg h2]
def tS (q : Int → Int → Int) (n : Nat) : Nat → Nat → List Int → List Int
 | 0, _, ys => ys
 | f + 1, k, ys => if k < n then tS q n f (2 * k) (pz q n k (n + 1) 0 ys) else ys
theorem Ku {q : Int → Int → Int} {n f k k2 : Nat} (hf : 0 < f) (h : k < n) (hk : 2 * k = k2) (ys : List Int) : tS q n f k ys = tS q n (f - 1) k2 (pz q n k (n + 1) 0 ys) := by
 subst hk
 obtain ⟨f, rfl⟩ : ∃ g, f = g + 1 := ⟨f - 1, by omega⟩
 rw [tS, if_pos h]
 rfl
theorem ON {q : Int → Int → Int} {n f k : Nat} (h : ¬ k < n) (ys : List Int) : tS q n f k ys = ys := by
 cases f with
 | zero => rfl
 | succ f => rw [tS, if_neg h]
def Ov (q : Int → Int → Int) (xs : List Int) : List Int := tS q xs.length (xs.length + 1) 20 (uV q xs.length (xs.length + 1) 0 xs)
def B4 (S : Sv) (x y : Int) : Int := wrap64 ((S.rc x.toNat).act - (S.rc y.toNat).act)
def Sv.Mi (S : Sv) : List Nat := ((Ov (B4 S) (bv S.qk)).map Int.toNat).take (S.qk.length / 2)
def Sv.WJ (S : Sv) : Sv := S.Mi.foldl Sv.cu S
namespace Sv
def EU (S S' : Sv) : Prop := ∃ D : List Nat, D.Nodup ∧ (∀ n ∈ D, n ∈ S.qk) ∧ (D.length = S.qk.length / 2 ∧ D = S.Mi) ∧ S' = D.foldl cu S
theorem EU.eq {S S' : Sv} (h : EU S S') : S' = S.WJ := by
 obtain ⟨D, _, _, ⟨_, rfl⟩, rfl⟩ := h
 rfl
structure Small (S : Sv) : Prop where
 list : S.list.length < 2199023255552
 used : S.used < 2199023255552
 bump : S.bump ≤ 1073741824
 Ky : -1152921504606846976 ≤ S.many
 many1 : S.many ≤ 1152921504606846976
 lim : S.bU ≤ 2199023255552
 cO : S.T.levels.length ≤ 4398046511104
 core : S.core = []
def fl (S : Sv) : Sv := { S with bU := S.bU + (S.bU / 16 + 1) }
def zR (red : Bool) (S : Sv) (K : Sv → Prop) : Prop :=
 if (S.bU : Int) < S.many then (if red = true then ∀ S', EU S S' → K S'.fl else False) else K S
def MU (budget : Int) (n : Nat) (Q : Sv → Int → Prop) (K : Sv → Prop) : Option (Sv × Bool) → Prop
 | none => False
 | some (S2, false) => Q S2 2
 | some (S2, true) => if budget < (n + 1 : Nat) then Q S2 0 else K S2
def cw (S : Sv) : Sv := { S with used := S.used + 1 }
def hJ (red : Bool) (budget : Int) (us : List Int) (Q : Sv → Int → Prop) (K : Nat → Nat → Sv → Prop) : Nat → Nat → Nat → Sv → Prop
 | 0, _, _, _ => False
 | d + 1, next, n, S =>
  S.Small ∧ n < 2199023255552 ∧ next < 4398046511104 ∧
  match S.follow.2 with
  | some c => MU budget n Q (K next (n + 1)) (S.follow.1.cw.conflict c)
  | none => zR red (S.follow.1.cH n next) fun S3 =>
    if (S3.aS us).2 = 0 then hJ red budget us Q K d (if next ≤ n then n + 64 else next) n (S3.aS us).1 else Q (S3.aS us).1 (S3.aS us).2
def eB (red : Bool) (budget : Int) (us : List Int) (Q : Sv → Int → Prop) (D : Nat) : Nat → Nat → Nat → Sv → Prop
 | 0, _, _, _ => False
 | c + 1, next, n, S => hJ red budget us Q (eB red budget us Q D c) D next n S
theorem Fp {S : Sv} {n : Nat} (h : n ∈ S.qk) : n < S.list.length ∧ (S.rc n).jI = true ∧ 2 < (S.rc n).lits.length ∧ S.locked n = false := by
 unfold qk at h
 rw [List.mem_filter, gG] at h
 obtain ⟨h1, h2⟩ := h
 simp only [aD, decide_eq_true_eq, Bool.not_eq_true'] at h2
 exact ⟨h1, h2.1.1, h2.1.2, h2.2⟩
theorem kt (S : Sv) (n j : Nat) : (S.cu n).rc j = if n = j ∧ n < S.list.length then ⟨[], false, (S.rc n).act⟩ else S.rc j := du _ _ _ _
theorem Ok.cu {S : Sv} {m : Nat} (ok : S.Ok m) (n : Nat) : (S.cu n).Ok m := by
 have el : (S.cu n).list.length = S.list.length := by simp [Sv.cu]
 refine ⟨ok.vl, ok.tr, ok.hi, ok.hl, ok.ph, ok.wl, by rw [el]; exact ok.ll, fun c k hk => by rw [el]; exact ok.wb c k hk, by rw [el]; exact ok.wt, fun j x hx => ?_, fun j => ?_, fun j => ?_, ok.hd, fun v => by rw [el]; exact ok.rs v⟩
 ·rw [kt] at hx
  split at hx
  ·simp at hx
  ·exact ok.lr j x hx
 ·rw [kt]
  split
  ·simp
  ·exact ok.ln j
 ·rw [kt]
  split
  ·simp
  ·exact ok.lb j
theorem Ok.MG {m : Nat} : ∀ (D : List Nat) (S : Sv), S.Ok m → (D.foldl Sv.cu S).Ok m
 | [], S, ok => ok
 | n :: r, S, ok => Ok.MG r _ (ok.cu n)
theorem jD : ∀ (D : List Nat) (S : Sv), (D.foldl cu S).T = S.T ∧ (D.foldl cu S).vars = S.vars ∧ (D.foldl cu S).list.length = S.list.length ∧ (D.foldl cu S).core = S.core ∧ (D.foldl cu S).bU = S.bU ∧ (D.foldl cu S).many = S.many - D.length
 | [], S => ⟨rfl, rfl, rfl, rfl, rfl, by simp⟩
 | n :: r, S => by
  have h := jD r (S.cu n)
  refine ⟨h.1, h.2.1, h.2.2.1.trans (by simp [cu]), h.2.2.2.1, h.2.2.2.2.1, h.2.2.2.2.2.trans ?_⟩
  simp only [kV, cu]
  omega
theorem Ok.fl {S : Sv} {m : Nat} (ok : S.Ok m) : S.fl.Ok m := ⟨ok.vl, ok.tr, ok.hi, ok.hl, ok.ph, ok.wl, ok.ll, ok.wb, ok.wt, ok.lr, ok.ln, ok.lb, ok.hd, ok.rs⟩
theorem Ok.cw {S : Sv} {m : Nat} (ok : S.Ok m) : S.cw.Ok m := ⟨ok.vl, ok.tr, ok.hi, ok.hl, ok.ph, ok.wl, ok.ll, ok.wb, ok.wt, ok.lr, ok.ln, ok.lb, ok.hd, ok.rs⟩
theorem Ok.cH {S : Sv} {m : Nat} (ok : S.Ok m) (n next : Nat) : (S.cH n next).Ok m := by
 unfold Sv.cH
 split
 ·exact (ok.back 0).1
 ·exact ok
theorem qT {S : Sv} {m : Nat} (ok : S.Ok m) (n next : Nat) : (S.cH n next).vars = S.vars ∧ (S.cH n next).list = S.list ∧ (S.cH n next).core = S.core ∧ (S.cH n next).many = S.many ∧ (S.cH n next).bU = S.bU ∧ (S.cH n next).T.levels.length ≤ S.T.levels.length := by
 unfold Sv.cH
 split
 ·have h := jo S 0
  have h2 := ok.back 0
  exact ⟨h2.2.1, h2.2.2, h.1, h.2.2.1, h.2.2.2.1, h.2.2.2.2.2.1⟩
 ·exact ⟨rfl, rfl, rfl, rfl, rfl, ao _⟩
theorem Ok.conflict {S : Sv} (ok : S.Ok 0) (hl : S.list.length < 2199023255552) {n : Nat} {S' : Sv} {b : Bool} (h : S.conflict n = some (S', b)) : S'.Ok 0 ∧ S'.vars = S.vars := by
 unfold Sv.conflict at h
 split at h
 ·simp only [Option.some.injEq, Prod.mk.injEq] at h
  obtain ⟨rfl, rfl⟩ := h
  exact ⟨ok.xY true, rfl⟩
 ·cases hq : S.gO n with
  | none => rw [hq] at h; cases h
  | some q =>
   obtain ⟨S1, l, cO⟩ := q
   rw [hq] at h
   simp only [Option.some.injEq, Prod.mk.injEq] at h
   obtain ⟨rfl, rfl⟩ := h
   obtain ⟨Jr, eT, eV, eL, eU, l0, l1, lr, Xc, Xb⟩ := mL ok hq
   obtain ⟨WM, YT, R6⟩ := Jr.back cO.toNat
   have e2 : (S1.back cO.toNat).vars = S.vars := YT.trans eV
   have vq : (S1.back cO.toNat).list.length < 2199023255552 := by rw [R6, eL]; exact hl
   refine ⟨(WM.bW l0 l1 (by rw [e2]; exact lr) vq).cX, ?_⟩
   show ((S1.back cO.toNat).bW l).vars = _
   rw [← e2]
   unfold Sv.bW
   split
   ·rfl
   ·exact (ed _ l true).2.1
end Sv
end Go.Proofs.YtpjbaobgnhjgoaaGreat
