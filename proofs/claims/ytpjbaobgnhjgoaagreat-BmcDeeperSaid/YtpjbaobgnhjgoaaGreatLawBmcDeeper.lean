/- Parts of a proof. -/
import Derived.Test.YtpjbaobgnhjgoaaGreatGAR
import Derived.WalkKit
import Derived.ProofKit
import Derived.OpenShut
import Derived.Deep.Slices
import Derived.Carry
import Derived.SizedLaws
import Derived.Lib.SmallJoins
import Derived.Deep.Strs
set_option linter.unusedVariables false
set_option linter.unusedSimpArgs false
namespace Go.Proofs.YtpjbaobgnhjgoaaGreat
open Go.ChangeShapes Go.WideShapes Go.ChangeAt Go.RowKit
theorem CY {H : Type} {enc : TypeId × Value → H} {P : Program} {f : Func} {s : ChangeSpec} {apart fresh handsOn again : Bool} {W W' : World} {args : Array Value} {v : Value} {ds gs : List (DataW H)} {before pa pv : List MemPlace}
  (hW : DataW.Whole enc P f.params.toList s.vars apart W args.toList ds gs before)
  (fa : ∀ (b : Nat) (sp : Nat → Bool) (hd : Bool), DataW.TrodAll enc P W' b sp hd f.resultTypes.toList (v.resultList f.resultTypes.size) (s.fn H (ds ++ gs)).results [])
  (Mh : ∀ sp : Nat → Bool, (∀ p ∈ before, sp p.block = true) → DataW.TrodAll enc P W' 0 sp true f.params.toList args.toList (s.fn H (ds ++ gs)).args pa)
  (Ru : ∀ sp : Nat → Bool, (∀ p ∈ before, sp p.block = true) → DataW.TrodVars enc P W' sp s.vars (s.fn H (ds ++ gs)).vars pv)
  (hps : before = pa ++ pv) (hb : Below W.heap.size W W')
  (hok : ∀ (j : Nat) (t : TypeId) (r : Value), f.resultTypes[j]? = some t → (v.resultList f.resultTypes.size)[j]? = some r → Value.okWide P W' .any 0 t r) :
  s.post enc P f apart fresh handsOn again W args v W' := by
 have old : ∀ p ∈ before, p.block < W.heap.size := fun p hp => hW.lt p hp
 have Rq : ∀ p ∈ before, (fun b => decide (b < W.heap.size)) p.block = true := fun p hp => by simpa using old p hp
 refine ⟨ds, gs, before, [], pa, pv, hW, fa _ _ _, Mh _ Rq, Ru _ Rq, ?_, fun _ => ?_⟩
 ·refine World.keptBut_mono (fun p hp => ⟨hp, ?_⟩) (hb.frame (· ∈ before))
  rw [hps, aj] at hp
  exact Or.inr hp
 ·obtain ⟨_, _, _, _, _, hz, hn⟩ := hW
  refine ⟨hok, _, _, ([] ++ pa) ++ pv, ⟨[] ++ pa, pv, trodAll_append (Mh _ (fun _ _ => rfl)) (fa _ _ _), Ru _ (fun _ _ => rfl), rfl, ?_, ?_⟩, ?_⟩
  ·intro b off hp
   have oU : MemPlace.cell b off ∈ before := by rw [hps]; simpa using hp
   rw [hb.frozen (old _ oU)]
   exact hz b off oU
  ·intro ha
   have := hn ha
   rw [hps] at this
   simpa using this
  ·intro p hp _
   rw [hps]
   simpa using hp
end Go.Proofs.YtpjbaobgnhjgoaaGreat
namespace Go.Proofs.YtpjbaobgnhjgoaaGreat
open Go.ChangeShapes Go.WideShapes Go.ChangeAt Go.RowKit Go.Deep
theorem laid : laidOutB Tryz.prog = true := by kernel_rfl
theorem mN {H : Type} {enc : TypeId × Value → H} {t : TypeId} (hr : Tryz.prog.readableRec t = true) (fJ : t < Tryz.prog.types.size) {W W' : World} {v : Value} {d : DataW H} {ps : List MemPlace} {sp : Nat → Bool}
  (h : DataW.Trod enc Tryz.prog W 0 (fun _ => true) true t v d ps) (hb : Below W.heap.size W W') (bM : ∀ x ∈ ps, x.block < W.heap.size) (hs : ∀ p ∈ ps, sp p.block = true) :
  DataW.Trod enc Tryz.prog W' 0 sp true t v d ps :=
 WideElems.Trod_stays laid hr fJ h (fun x hx => hb.same (bM x hx)) hs
section
variable {H : Type} {enc : TypeId × Value → H} {P : Program} {w : World} {base : Nat} {spare : Nat → Bool} {held : Bool}
end
end Go.Proofs.YtpjbaobgnhjgoaaGreat
namespace Go.Proofs.YtpjbaobgnhjgoaaGreat
open Go.ChangeShapes Go.WideShapes Go.ChangeAt Go.RowKit Go.Deep Go.Joins
section
variable {H : Type} {enc : TypeId × Value → H} {w : World} {base : Nat} {spare : Nat → Bool} {held : Bool}
theorem ss : Tryz.prog.cellsOf 27 = 8 := by kernel_rfl
theorem vZ : Tryz.prog.cellsOf 62 = 3 := by kernel_rfl
theorem BM : Tryz.prog.cellsOf 69 = 3 := by kernel_rfl
theorem pS : Tryz.prog.cellsOf 122 = 3 := by kernel_rfl
theorem gD : Tryz.prog.cellsOf 3 = 1 := by kernel_rfl
theorem pT : Tryz.prog.cellsOf 22 = 1 := by kernel_rfl
theorem yY : Tryz.prog.cellsOf 23 = 1 := by kernel_rfl
theorem yZ : Tryz.prog.cellsOf 24 = 1 := by kernel_rfl
theorem BL : Tryz.prog.cellsOf 25 = 1 := by kernel_rfl
theorem uU : Tryz.prog.cellsOf 9 = 1 := by kernel_rfl
theorem BQ : Tryz.prog.bytesOf 3 = 8 := by kernel_rfl
theorem v8 : Tryz.prog.bytesOf 62 = 24 := by kernel_rfl
theorem BU : Tryz.prog.bytesOf 69 = 24 := by kernel_rfl
theorem y8 : Tryz.prog.bytesOf 122 = 40 := by kernel_rfl
theorem pw {a : Addr} {v : Value} (h : w.cell? a = some v) : ∃ b o, a = ⟨b, o, none⟩ := by
 obtain ⟨b, o, s⟩ := a
 unfold World.cell? at h
 split at h
 ·split at h
  ·cases h
  ·rename_i VU
   exact ⟨b, o, by cases s <;> simp_all⟩
 ·cases h
theorem Gp (a : Addr) : a.add 0 = a := by unfold Addr.add; exact if_pos rfl
theorem zj (b o n : Nat) : (Addr.mk b o none).add n = ⟨b, o + n, none⟩ := by unfold Addr.add; split <;> simp_all
theorem jx {n : Nat} {cs : List Value} {x : DataW H × List MemPlace} (h : DataW.trod enc Tryz.prog w base spare held n 22 cs = some x) (hb : ∀ n ∈ x.1.weights Tryz.prog 22, n ≤ reachBytes) :
  ∃ (A : Option Addr) (c : Nat) (l : List Int), cs = [.slice A l.length c] ∧ l.length ≤ c ∧ c ≤ maxLen ∧ Rd w A l ∧ Ra l ∧ l.length ≤ 17592186044416 ∧ (A = none → l.length = 0 ∧ c = 0) := by
 rcases open_ints Tryz.underlying22 Tryz.underlying3 gD h with ⟨e1, gP⟩ | ⟨a, len, cap, zs, e1, Cu, AV, hm, hz, gP, nW, hwf⟩
 ·exact ⟨none, 0, [], e1, ao _, by simp [maxLen], fun h => absurd h (aG _), fun j hj => absurd hj (aG _), by simp, fun _ => ⟨rfl, rfl⟩⟩
 ·have hle : len ≤ zs.length := by rw [hz]; split <;> omega
  have Rr : (zs.take len).length = len := by rw [bk]; omega
  refine ⟨some a, cap, zs.take len, by rw [e1, Rr], by omega, hm, fun hp => ?_, fun j hj => ?_, ?_, fun h => by cases h⟩
  ·rw [Rr] at hp
   obtain ⟨b, o, rfl⟩ := pw (nW 0 (by omega))
   refine ⟨b, o, rfl, fun j hj => ?_⟩
   rw [Rr] at hj
   have := nW j (by omega)
   rw [zj] at this
   rw [this]
   have P1 : j < zs.length := by omega
   simp [ae, hj]
  ·rw [Rr] at hj
   have P1 : j < zs.length := by omega
   have := Go.Joins.in64_of_wf (hwf zs[j] (List.getElem_mem P1))
   have e : (zs.take len)[j]! = zs[j] := by simp [ae, hj, P1]
   rw [e]
   exact this
  ·have h1 := hb ((len + (zs.length - len)) * 8) (by
    rw [gP]
    simp [DataW.weights, Tryz.underlying22, BQ, lits]
    omega)
   rw [Rr]
   simp only [reachBytes] at h1
   omega
theorem zW {t e : TypeId} {f0 f1 f2 : Field} (ht : Tryz.prog.underlying t = some (.slice e)) (he : Tryz.prog.underlying e = some (.struct #[f0, f1, f2])) (ce : Tryz.prog.cellsOf e = 3) (be : Tryz.prog.bytesOf e = 24)
  (o0 : f0.offset = 0 ∧ f0.type = 3) (o1 : f1.offset = 1 ∧ f1.type = 3) (o2 : f2.offset = 2 ∧ f2.type = 3)
  {n : Nat} {cs : List Value} {x : DataW H × List MemPlace} (h : DataW.trod enc Tryz.prog w base spare held n t cs = some x) (hb : ∀ n ∈ x.1.weights Tryz.prog t, n ≤ reachBytes) :
  ∃ (A : Option Addr) (c : Nat) (l : List T3), cs = [.slice A l.length c] ∧ R9 w A l ∧ Rt l ∧ l.length ≤ 5864062014635 ∧ (A = none → l.length = 0 ∧ c = 0) := by
 rcases open_slice ht h with ⟨h0, _⟩ | ⟨a, len, cap, m, n', D, Pl, h0, Cu, hl, hm, vO, sL, hx⟩
 ·exact ⟨none, 0, [], h0, fun h => absurd h (aG _), fun j hj => absurd hj (aG _), by simp, fun _ => ⟨rfl, rfl⟩⟩
 ·have JB : len ≤ m := by rw [vO]; split <;> omega
  have uo : ∀ i, i < len → ∃ z : T3, (dB z.a ∧ dB z.b ∧ dB z.c) ∧ w.cell? (a.add (i * 3)) = some (.int .i64 z.a) ∧ w.cell? ((a.add (i * 3)).add 1) = some (.int .i64 z.b) ∧ w.cell? ((a.add (i * 3)).add 2) = some (.int .i64 z.c) := by
   intro i hi
   obtain ⟨cs', hc, NZ⟩ := hx i (by omega)
   rw [ce] at hc
   obtain ⟨y0, y1, y2, n2, _, hlen, g0, g1, g2⟩ := trod_struct3 he NZ
   rw [ce] at hlen
   rw [o0.1, o0.2, gD] at g0
   rw [o1.1, o1.2, gD] at g1
   rw [o2.1, o2.2, gD] at g2
   match cs', hlen with
   | [v0, v1, v2], _ =>
    simp only [List.drop_zero, List.drop_succ_cons, List.take_succ_cons, List.take_zero] at g0 g1 g2
    obtain ⟨z0, e0, _, w0⟩ := DataW.trod_int Tryz.underlying3 g0
    obtain ⟨z1, e1, _, w1⟩ := DataW.trod_int Tryz.underlying3 g1
    obtain ⟨z2, e2, _, w2⟩ := DataW.trod_int Tryz.underlying3 g2
    cases e0
    cases e1
    cases e2
    obtain ⟨_, _, kk⟩ := World.cells?_some hc
    have a0 := kk 0 (by omega)
    have a1 := kk 1 (by omega)
    have a2 := kk 2 (by omega)
    rw [Gp] at a0
    exact ⟨⟨z0, z1, z2⟩, ⟨Go.Joins.in64_of_wf w0, Go.Joins.in64_of_wf w1, Go.Joins.in64_of_wf w2⟩, a0, a1, a2⟩
  obtain ⟨F, hF⟩ := choose_lt uo
  refine ⟨some a, cap, (List.range len).map F, by simp [h0], fun pH => ?_, fun j hj => ?_, ?_, fun h => by cases h⟩
  ·simp only [ax, cS] at pH
   have IE := (hF 0 pH).2.1
   rw [Nat.zero_mul] at IE
   rw [Gp] at IE
   obtain ⟨b, o, rfl⟩ := pw IE
   refine ⟨b, o, rfl, fun j hj => ?_⟩
   simp only [ax, cS] at hj
   have := (hF j hj).2
   simp only [zj] at this
   simp only [ae, bh, List.getElem?_range hj, dc, aq]
   exact this
  ·simp only [ax, cS] at hj
   simp only [ae, bh, List.getElem?_range hj, dc, aq]
   exact (hF j hj).1
  ·have h1 := hb ((len + (m - len)) * 24) (by
    rw [sL]
    simp [DataW.weights, ht, be])
   simp only [reachBytes] at h1
   simp only [ax, cS]
   omega
theorem Kn {n : Nat} {cs : List Value} {x : DataW H × List MemPlace} (h : DataW.trod enc Tryz.prog w base spare held n 25 cs = some x) (hb : ∀ n ∈ x.1.weights Tryz.prog 25, n ≤ reachBytes) :
  ∃ (A : Option Addr) (c : Nat) (l : List Nm), cs = [.slice A l.length c] ∧ UM w A l ∧ Rm l ∧ l.length ≤ 3518437208781 ∧ (A = none → l.length = 0 ∧ c = 0) := by
 rcases open_slice Tryz.underlying25 h with ⟨h0, _⟩ | ⟨a, len, cap, m, n', D, Pl, h0, Cu, hl, hm, vO, sL, hx⟩
 ·exact ⟨none, 0, [], h0, fun h => absurd h (aG _), fun j hj => absurd hj (aG _), by simp, fun _ => ⟨rfl, rfl⟩⟩
 ·have JB : len ≤ m := by rw [vO]; split <;> omega
  have uo : ∀ i, i < len → ∃ z : Nm, (z.k.size ≤ maxLen ∧ dB z.i ∧ z.t.size ≤ maxLen) ∧ w.cell? (a.add (i * 3)) = some (.string z.k) ∧ w.cell? ((a.add (i * 3)).add 1) = some (.int .i64 z.i) ∧ w.cell? ((a.add (i * 3)).add 2) = some (.string z.t) := by
   intro i hi
   obtain ⟨cs', hc, NZ⟩ := hx i (by omega)
   rw [pS] at hc
   obtain ⟨y0, y1, y2, n2, _, hlen, g0, g1, g2⟩ := trod_struct3 Tryz.underlying122 NZ
   rw [pS] at hlen
   simp only [gD, uU] at g0 g1 g2
   match cs', hlen with
   | [v0, v1, v2], _ =>
    simp only [List.drop_zero, List.drop_succ_cons, List.take_succ_cons, List.take_zero] at g0 g1 g2
    obtain ⟨z0, e0, _, w0⟩ := DataW.trod_string Tryz.underlying9 g0
    obtain ⟨z1, e1, _, w1⟩ := DataW.trod_int Tryz.underlying3 g1
    obtain ⟨z2, e2, _, w2⟩ := DataW.trod_string Tryz.underlying9 g2
    cases e0
    cases e1
    cases e2
    obtain ⟨_, _, kk⟩ := World.cells?_some hc
    have a0 := kk 0 (by omega)
    have a1 := kk 1 (by omega)
    have a2 := kk 2 (by omega)
    rw [Gp] at a0
    exact ⟨⟨z0, z1, z2⟩, ⟨w0, Go.Joins.in64_of_wf w1, w2⟩, a0, a1, a2⟩
  obtain ⟨F, hF⟩ := choose_lt uo
  refine ⟨some a, cap, (List.range len).map F, by simp [h0], fun pH => ?_, fun j hj => ?_, ?_, fun h => by cases h⟩
  ·simp only [ax, cS] at pH
   have IE := (hF 0 pH).2.1
   rw [Nat.zero_mul] at IE
   rw [Gp] at IE
   obtain ⟨b, o, rfl⟩ := pw IE
   refine ⟨b, o, rfl, fun j hj => ?_⟩
   simp only [ax, cS] at hj
   have := (hF j hj).2
   simp only [zj] at this
   simp only [ae, bh, List.getElem?_range hj, dc, aq]
   exact this
  ·simp only [ax, cS] at hj
   simp only [ae, bh, List.getElem?_range hj, dc, aq]
   exact (hF j hj).1
  ·have h1 := hb ((len + (m - len)) * 40) (by
    rw [sL]
    simp [DataW.weights, Tryz.underlying25, y8])
   simp only [reachBytes] at h1
   simp only [ax, cS]
   omega
theorem Rl {α : Type} {l : List α} (h : l.length = 8) : ∃ a b c d e f g h, l = [a, b, c, d, e, f, g, h] := by
 match l, h with
 | [a, b, c, d, e, f, g, h], _ => exact ⟨a, b, c, d, e, f, g, h, rfl⟩
theorem xM {P : Program} {t : TypeId} {f0 f1 f2 f3 f4 f5 f6 f7 : Field} {fuel : Nat} {cs : List Value} {x : DataW H × List MemPlace} (ht : P.underlying t = some (.struct #[f0, f1, f2, f3, f4, f5, f6, f7])) (h : DataW.trod enc P w base spare held fuel t cs = some x) :
  ∃ y0 y1 y2 y3 y4 y5 y6 y7 n, x.1 = .agg ([y0, y1, y2, y3, y4, y5, y6, y7].map (·.1)) ∧ cs.length = P.cellsOf t ∧ DataW.trod enc P w base spare held n f0.type ((cs.drop f0.offset).take (P.cellsOf f0.type)) = some y0 ∧ DataW.trod enc P w base spare held n f1.type ((cs.drop f1.offset).take (P.cellsOf f1.type)) = some y1 ∧ DataW.trod enc P w base spare held n f2.type ((cs.drop f2.offset).take (P.cellsOf f2.type)) = some y2 ∧ DataW.trod enc P w base spare held n f3.type ((cs.drop f3.offset).take (P.cellsOf f3.type)) = some y3 ∧ DataW.trod enc P w base spare held n f4.type ((cs.drop f4.offset).take (P.cellsOf f4.type)) = some y4 ∧ DataW.trod enc P w base spare held n f5.type ((cs.drop f5.offset).take (P.cellsOf f5.type)) = some y5 ∧ DataW.trod enc P w base spare held n f6.type ((cs.drop f6.offset).take (P.cellsOf f6.type)) = some y6 ∧ DataW.trod enc P w base spare held n f7.type ((cs.drop f7.offset).take (P.cellsOf f7.type)) = some y7 := by
 obtain ⟨xs, n, _, hx, hl, hlen, hf⟩ := DataW.trod_struct ht h
 obtain ⟨y0, y1, y2, y3, y4, y5, y6, y7, rfl⟩ := Rl (l := xs) hlen
 exact ⟨y0, y1, y2, y3, y4, y5, y6, y7, n, by rw [hx], hl, by simpa using hf 0 f0 rfl, by simpa using hf 1 f1 rfl, by simpa using hf 2 f2 rfl, by simpa using hf 3 f3 rfl, by simpa using hf 4 f4 rfl, by simpa using hf 5 f5 rfl, by simpa using hf 6 f6 rfl, by simpa using hf 7 f7 rfl⟩
set_option maxRecDepth 100000 in
theorem EH {n : Nat} {cs : List Value} {x : DataW H × List MemPlace} (h : DataW.trod enc Tryz.prog w base spare held n 27 cs = some x) (hb : ∀ n ∈ x.1.weights Tryz.prog 27, n ≤ reachBytes) :
  ∃ (Hh : Hd) (C : Pc), cs = (gH Hh C).toList ∧ iE w Hh C := by
 obtain ⟨y0, y1, y2, y3, y4, y5, y6, y7, n2, hx, hl, P8, cE, cd, cY, eF, dK, fZ, jl⟩ := xM Tryz.underlying27 h
 rw [ss] at hl
 obtain ⟨v0, v1, v2, v3, v4, v5, v6, v7, rfl⟩ := Rl hl
 simp only [gD, pT, yY, yZ, BL, List.drop_zero, List.drop_succ_cons, List.take_succ_cons, List.take_zero] at P8 cE cd cY eF dK fZ jl
 have hw : ∀ (j : Nat) (t : TypeId) (y : DataW H × List MemPlace), [3, 22, 23, 22, 22, 22, 24, 25][j]? = some t → [y0, y1, y2, y3, y4, y5, y6, y7][j]? = some y → ∀ n ∈ y.1.weights Tryz.prog t, n ≤ reachBytes := by
  intro j t y ht hy k hk
  refine hb k ?_
  rw [hx]
  have e : (DataW.agg ([y0, y1, y2, y3, y4, y5, y6, y7].map (·.1))).weights Tryz.prog 27 = DataW.weightsEach Tryz.prog [3, 22, 23, 22, 22, 22, 24, 25] ([y0, y1, y2, y3, y4, y5, y6, y7].map (·.1)) := by
   rw [DataW.weights, Tryz.underlying27]
   rfl
  rw [e]
  exact DataW.weights_mem_each (j := j) ht (by rw [bh, hy]; rfl) k hk
 obtain ⟨mx, e0, _, w0⟩ := DataW.trod_int Tryz.underlying3 P8
 obtain ⟨A1, c1, l1, e1, _, _, r1, q1, b1, n1⟩ := jx cE (hw 1 _ _ rfl rfl)
 obtain ⟨A2, c2, l2, e2, r2, q2, b2, n2'⟩ := zW Tryz.underlying23 Tryz.underlying62 vZ v8 ⟨rfl, rfl⟩ ⟨rfl, rfl⟩ ⟨rfl, rfl⟩ cd (hw 2 _ _ rfl rfl)
 obtain ⟨A3, c3, l3, e3, _, _, r3, q3, b3, n3⟩ := jx cY (hw 3 _ _ rfl rfl)
 obtain ⟨A4, c4, l4, e4, _, _, r4, q4, b4, n4⟩ := jx eF (hw 4 _ _ rfl rfl)
 obtain ⟨A5, c5, l5, e5, _, _, r5, q5, b5, n5⟩ := jx dK (hw 5 _ _ rfl rfl)
 obtain ⟨A6, c6, l6, e6, r6, q6, b6, n6⟩ := zW Tryz.underlying24 Tryz.underlying69 BM BU ⟨rfl, rfl⟩ ⟨rfl, rfl⟩ ⟨rfl, rfl⟩ fZ (hw 6 _ _ rfl rfl)
 obtain ⟨A7, c7, l7, e7, r7, q7, b7, n7⟩ := Kn jl (hw 7 _ _ rfl rfl)
 simp only [List.cons.injEq, and_true] at e0 e1 e2 e3 e4 e5 e6 e7
 subst e0 e1 e2 e3 e4 e5 e6 e7
 exact ⟨⟨A1, c1, A2, c2, A3, c3, A4, c4, A5, c5, A6, c6, A7, c7⟩, ⟨mx, l1, l2, l3, l4, l5, l6, l7⟩, rfl,
  ⟨r1, r2, r3, r4, r5, r6, r7, b1, b2, b3, b4, b5, b6, b7, Go.Joins.in64_of_wf w0, q1, q2, q3, q4, q5, q6, q7⟩⟩
theorem y9 : Tryz.prog.bytesOf 22 = 24 := by kernel_rfl
theorem mI {P : Program} {e : TypeId} {d : DataW H} {n : Nat} (hn : n ∈ d.weights P e) : ∀ {ds : List (DataW H)}, d ∈ ds → n ∈ DataW.weightsAll P e ds
 | [], h => by cases h
 | a :: r, h => by
  rw [DataW.weightsAll]
  rcases ay.1 h with h1 | h1
  ·rw [← h1]
   exact aW _ hn
  ·exact List.mem_append_right _ (mI hn h1)
theorem F7 {α : Type} [Inhabited α] {len j : Nat} {F : Nat → α} (hj : j < len) : ((List.range len).map F)[j]! = F j := by
 simp only [ae, bh, List.getElem?_range hj, dc, aq]
theorem Dl {n : Nat} {cs : List Value} {x : DataW H × List MemPlace} (h : DataW.trod enc Tryz.prog w base spare held n 28 cs = some x) (hb : ∀ n ∈ x.1.weights Tryz.prog 28, n ≤ reachBytes) :
  ∃ (A : Option Addr) (c : Nat) (hs : List Ls), cs = [.slice A hs.length c] ∧ CC w A hs ∧ hs.length ≤ 5864062014805 := by
 rcases open_slice1 Tryz.underlying28 pT h with ⟨h0, _⟩ | ⟨a, len, cap, m, n', V, D, Pl, h0, Cu, hl, hm, vO, sL, hx⟩
 ·exact ⟨none, 0, [], h0, ⟨fun h => absurd h (aG _), fun j hj => absurd hj (aG _)⟩, by simp⟩
 ·have JB : len ≤ m := by rw [vO]; split <;> omega
  have uo : ∀ i, i < len → ∃ L : Ls, w.cell? (a.add i) = some L.val ∧ N6 w L := by
   intro i hi
   obtain ⟨hc, NZ⟩ := hx i (by omega)
   obtain ⟨A1, k1, l1, h1, _, _, g1, g2, g3, g4⟩ := jx NZ (fun n hn => hb n (by
    rw [sL]
    simp only [DataW.weights, Tryz.underlying28]
    exact bR _ (aW _ (mI hn (bE.2 ⟨i, gG.2 hi, rfl⟩)))))
   simp only [List.cons.injEq, and_true] at h1
   exact ⟨⟨A1, k1, l1⟩, by rw [hc, h1]; rfl, g1, g2, g3, g4⟩
  obtain ⟨F, hF⟩ := choose_lt uo
  refine ⟨some a, cap, (List.range len).map F, by simp [h0], ⟨fun pH => ?_, fun j hj => ?_⟩, ?_⟩
  ·simp only [ax, cS] at pH
   have IE := (hF 0 pH).1
   obtain ⟨b, o, rfl⟩ := pw IE
   refine ⟨b, o, rfl, fun j hj => ?_⟩
   simp only [ax, cS] at hj
   rw [F7 hj]
   have := (hF j hj).1
   rwa [zj] at this
  ·simp only [ax, cS] at hj
   rw [F7 hj]
   exact (hF j hj).2
  ·have h1 := hb ((len + (m - len)) * 24) (by
    rw [sL]
    simp [DataW.weights, Tryz.underlying28, y9])
   simp only [reachBytes] at h1
   simp only [ax, cS]
   omega
end
end Go.Proofs.YtpjbaobgnhjgoaaGreat
namespace Go.Proofs.YtpjbaobgnhjgoaaGreat.bmcDeeper
open Go.ChangeShapes Go.WideShapes Go.ChangeAt Go.RowKit
theorem own : ownKnob Tryz.prog.godebug = none := by kernel_rfl
set_option maxRecDepth 100000 in
theorem lifted (os : Os) (started : os.Started) (H : Type) (enc : TypeId × Value → H) :
  ReturnsInHanded {} Tryz.checked os 3 .any (Rows.bmcDeeperSpec.pre6 enc Tryz.prog Tryz.f3 Rows.bmcDeeperRow.domain false) (Rows.bmcDeeperSpec.post enc Tryz.prog Tryz.f3 false true false false) := by
 refine returnsInHanded_of_change_sized (C := Tryz.checked) own started (by kernel_rfl) Tryz.func3
  (ChangeSpec.witness6 (enc := enc) (C := Tryz.checked) false ⟨#[], #[.agg #[.int .i64 0, .slice none 0 0, .slice none 0 0, .slice none 0 0, .slice none 0 0, .slice none 0 0, .slice none 0 0, .slice none 0 0], .slice none 0 0, .int .i64 0, .int .i64 0, .int .i64 0], []⟩ 8 (by kernel_rfl) (by kernel_rfl) (by kernel_rfl) (by kernel_rfl)) ?_
 intro W base args ds gs before Rw hW ami Xz _
 have pG : (DataW.weightsEach Tryz.prog (Tryz.f3.params.toList ++ Rows.bmcDeeperSpec.plain.varTypes Tryz.prog) (ds ++ gs)).all (· ≤ reachBytes) = true := Xz
 clear Xz
 have Ho : ∀ (j : Nat) t v, Tryz.f3.params[j]? = some t → args[j]? = some v → Value.okWide Tryz.prog W .any base t v := Rw
 have Us := hW
 obtain ⟨p, q, hA0, hV, rfl, rz, Cs⟩ := hW
 have hA : DataW.TrodAll enc Tryz.prog W 0 (fun _ => true) true Tryz.f3.params.toList args.toList ds p := hA0
 rw [Tryz.params3] at hA Ho pG
 obtain ⟨v0, vs0, d0, ds0, p0, q0, Mh, rfl, rfl, h0, r0⟩ := trodAll_cons hA
 obtain ⟨v1, vs1, d1, ds1, p1, q1, rfl, rfl, rfl, h1, r1⟩ := trodAll_cons r0
 obtain ⟨v2, vs2, d2, ds2, p2, q2, rfl, rfl, rfl, h2, r2⟩ := trodAll_cons r1
 obtain ⟨v3, vs3, d3, ds3, p3, q3, rfl, rfl, rfl, h3, r3⟩ := trodAll_cons r2
 obtain ⟨v4, vs4, d4, ds4, p4, q4, rfl, rfl, rfl, h4, r4⟩ := trodAll_cons r3
 obtain ⟨rfl, rfl, rfl⟩ := trodAll_nil r4
 obtain rfl : args = #[v0, v1, v2, v3, v4] := by cases args; simp_all
 obtain ⟨rfl, rfl⟩ := trodVars_none hV
 obtain ⟨a2, rfl, rfl, rfl, w2⟩ := open_int Tryz.underlying3 (Ho 2 3 v2 rfl rfl) h2
 obtain ⟨a3, rfl, rfl, rfl, w3⟩ := open_int Tryz.underlying3 (Ho 3 3 v3 rfl rfl) h3
 obtain ⟨a4, rfl, rfl, rfl, w4⟩ := open_int Tryz.underlying3 (Ho 4 3 v4 rfl rfl) h4
 obtain ⟨cs, rfl, vw⟩ := okWide_struct Tryz.underlying27 (Ho 0 27 v0 rfl rfl)
 obtain ⟨a1, adc, afg, rfl⟩ := okWide_slice Tryz.underlying28 (Ho 1 28 v1 rfl rfl)
 have Jv : ∀ n ∈ d0.weights Tryz.prog 27, n ≤ reachBytes := fun n hn => by
  have := List.all_eq_true.1 pG _ (DataW.weights_mem_each (j := 0) (t := 27) rfl rfl n hn)
  simpa using this
 have ep : ∀ n ∈ d1.weights Tryz.prog 28, n ≤ reachBytes := fun n hn => by
  have := List.all_eq_true.1 pG _ (DataW.weights_mem_each (j := 1) (t := 28) rfl rfl n hn)
  simpa using this
 have F6 := h0
 have vy := h1
 obtain ⟨ajz, P8⟩ := h0
 obtain ⟨ajy, cE⟩ := h1
 obtain ⟨Hh, C, hcv, Qk⟩ := EH P8 Jv
 obtain ⟨A, c, l, oD, vN, ug⟩ := Dl cE ep
 have aeo : cs = gH Hh C := by
  have : cs.toList = (gH Hh C).toList := by simpa [Value.cells] using hcv
  exact Array.ext' this
 have PU : Value.slice a1 adc afg = .slice A l.length c := by simpa [Value.cells] using oD
 subst aeo
 rw [PU] at vy ⊢
 clear hA0 Rw P8 cE
 have bM : ∀ x ∈ p0 ++ (p1 ++ ([] ++ ([] ++ ([] ++ [])))) ++ [], x.block < W.heap.size := fun x hx => by simpa using Us.lt x (by simpa using hx)
 refine (we W Hh C Qk A c l vN ug a2 (Go.Joins.in64_of_wf w2) a3 a4 (Go.Joins.in64_of_wf w3) (Go.Joins.in64_of_wf w4)).mono fun e W' ⟨he, hg⟩ => ?_
 subst he
 rw [PU] at Us
 exact ⟨_, rfl, CY (pa := p0 ++ (p1 ++ ([] ++ ([] ++ ([] ++ []))))) (pv := []) Us (fun _ _ _ => (trodAll_cons_mk (shut_bool Tryz.underlying4 _) trodAll_mk0))
  (fun sp VU => trodAll_cons_mk (mN (by kernel_rfl) (of_decide_eq_true (by kernel_rfl)) F6 hg.below (fun x hx => bM x (by simp [hx])) (fun p hp => VU p (by simp [hp])))
   (trodAll_cons_mk (mN (by kernel_rfl) (of_decide_eq_true (by kernel_rfl)) vy hg.below (fun x hx => bM x (by simp [hx])) (fun p hp => VU p (by simp [hp])))
   (trodAll_cons_mk (mN (by kernel_rfl) (of_decide_eq_true (by kernel_rfl)) h2 hg.below (fun x hx => by cases hx) (fun p hp => by cases hp))
   (trodAll_cons_mk (mN (by kernel_rfl) (of_decide_eq_true (by kernel_rfl)) h3 hg.below (fun x hx => by cases hx) (fun p hp => by cases hp))
   (trodAll_cons_mk (mN (by kernel_rfl) (of_decide_eq_true (by kernel_rfl)) h4 hg.below (fun x hx => by cases hx) (fun p hp => by cases hp)) trodAll_mk0))))) (fun _ _ => rfl) (by simp)
  hg.below (ok_one (by kernel_rfl) rfl (okWide_bool_mk Tryz.underlying4 _))⟩
theorem over : Rows.bmcDeeperRow.holds Tryz.pinned (OpenSpec.ofChange Rows.bmcDeeperSpec) :=
 OpenClaim.holds_of_wide 3 Tryz.f3 rfl rfl rfl rfl rfl rfl rfl ⟨rfl, rfl, rfl, rfl, rfl⟩ rfl rfl rfl rfl rfl (by kernel_rfl) Tryz.func3 (by kernel_rfl)
  (of_decide_eq_true (by kernel_rfl)) (by unfold Func.isWrapper; first | (rw [if_pos (by decide +kernel)]; kernel_rfl) | (rw [if_neg (by decide +kernel)]; exact ⟨rfl, rfl⟩))
  (fun os started H enc _ => lifted os started H enc)
theorem proved : Rows.BmcDeeperSaid :=
 over
end Go.Proofs.YtpjbaobgnhjgoaaGreat.bmcDeeper
