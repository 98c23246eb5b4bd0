/-  -/
import Derived.Test.YtjchilcpflfcnaaSgF
import Derived.Test.YtjchilcpflfcnaaSgA
import Derived.Laws.MakeOwn
set_option linter.unusedVariables false
set_option linter.unusedSimpArgs false
set_option maxHeartbeats 8000000
set_option maxRecDepth 100000
namespace Go.Proofs.Ytjchilcpflfcnaa
open Go.RowKit
theorem PC.len {V : Hp} (h : PC V) : V.items.length ≤ V.at_.length := by
 have hn : (V.items.map Int.toNat).Nodup := by
  unfold List.Nodup
  rw [List.pairwise_map, List.pairwise_iff_getElem]
  intro i j hi hj hij e
  have ri := h.rng i hi
  have rj := h.rng j hj
  have gi : V.items[i]! = V.items[i] := by simp [List.getElem!_eq_getElem?_getD, List.getElem?_eq_getElem hi]
  have gj : V.items[j]! = V.items[j] := by simp [List.getElem!_eq_getElem?_getD, List.getElem?_eq_getElem hj]
  have := h.inj hi hj (by rw [gi, gj]; rw [gi] at ri; rw [gj] at rj; omega)
  omega
 have := nodup_lt_len V.at_.length _ hn (fun x hx => by
  rw [List.mem_map] at hx
  obtain ⟨y, hy, rfl⟩ := hx
  obtain ⟨i, hi, e⟩ := List.getElem_of_mem hy
  have ri := h.rng i hi
  have gi : V.items[i]! = V.items[i] := by simp [List.getElem!_eq_getElem?_getD, List.getElem?_eq_getElem hi]
  rw [gi, e] at ri
  omega)
 simpa using this
theorem HpL.ext_refl (L : HpL) (w : World) : L.ext L w := ⟨rfl, fun _ h => .inl h, fun h => h⟩
theorem heap_pushC (w : World) (L : HpL) (H : Hp) (h : HpAt w L H) (hi : HI H) (hl : H.at_.length ≤ 262145) (x : Int) :
  Calls Try.prog 37 #[.pointer (some ⟨L.a, 0, none⟩), .int .i64 x] w fun e w' => ∃ b, e = .returned (.bool b) ∧ ∃ L', HpAt w' L' (Sv.pushC H x) ∧ L.ext L' w ∧ Fr L.fp w w' := by
 unfold Sv.pushC
 have hll := hi.pc.len
 by_cases hb : H.isB x = true ∧ H.pl x < 0
 ·rw [if_pos hb]
  refine (heap_push_yes w L H h hi.pc.rng x hb.1 hb.2 (by omega)).mono ?_
  rintro e w' ⟨rfl, L', h1, h2, h3⟩
  exact ⟨_, rfl, L', h1, h2, h3⟩
 ·rw [if_neg hb]
  refine (heap_push_no w L H h x ?_).mono ?_
  ·cases hc : H.isB x with
   | false => exact .inl rfl
   | true => exact .inr ⟨rfl, Int.not_lt.1 fun h => hb ⟨hc, h⟩⟩
  rintro e w' ⟨rfl, rfl⟩
  exact ⟨_, rfl, L, h, HpL.ext_refl _ _, Fr.refl _ _⟩
theorem heap_raiseC (w : World) (L : HpL) (H : Hp) (h : HpAt w L H) (hi : HI H) (x b : Int) :
  Calls Try.prog 96 #[.pointer (some ⟨L.a, 0, none⟩), .int .i64 x, .int .i64 b] w fun e w' => e = .returned (.tuple #[]) ∧ HpAt w' L (Sv.raiseC H x b) ∧ Fr L.fp w w' := by
 unfold Sv.raiseC
 by_cases hb : H.isB x = true ∧ 0 ≤ b ∧ b ≤ 1099511627776 ∧ H.sc x ≤ 1125899906842624 - b
 ·rw [if_pos hb]
  obtain ⟨h1, h2, h3, h4⟩ := hb
  have hx := Hp.isB_true h1
  have hs := hi.sc0 x.toNat (by rw [← hi.same]; omega)
  have hpl : H.pl x < H.items.length := by
   unfold Hp.pl
   by_cases h0 : 0 ≤ H.at_[x.toNat]!
   ·have := (hi.pc.inv x.toNat (by omega) h0).1
    omega
   ·omega
  exact heap_raise_yes w L H h hi.pc.rng x b h1 h2 h3 h4 hs hpl
 ·rw [if_neg hb]
  refine (heap_raise_no w L H h x b hb).mono ?_
  rintro e w' ⟨rfl, rfl⟩
  exact ⟨rfl, h, Fr.refl _ _⟩
theorem HI.pushC {H : Hp} (h : HI H) (x : Int) : HI (Sv.pushC H x) ∧ (Sv.pushC H x).at_.length = H.at_.length := by
 unfold Sv.pushC
 split
 ·rename_i hb
  have := h.push hb.1 hb.2
  exact ⟨this.1, this.2.2.2.1⟩
 ·exact ⟨h, rfl⟩
theorem SvAt.phset {w : World} {L : SvL} {S : Sv} (h : SvAt w L S) {v : Nat} (hv : v < S.phase.length) (b : Bool) :
  ∃ gp, L.pA = some ⟨gp, 0, none⟩ ∧ w.cell? ⟨gp, v, none⟩ = some (.bool S.phase[v]!) ∧ w.frozen? ⟨gp, v, none⟩ = false ∧ SvAt (w.setCell ⟨gp, v, none⟩ (.bool b)) L { S with phase := S.phase.set v b } ∧ Fr (L.own w) w (w.setCell ⟨gp, v, none⟩ (.bool b)) := by
 have r := h.rph
 unfold Bools at r
 obtain ⟨gp, hg, hgl⟩ : ∃ gp, L.pA = some ⟨gp, 0, none⟩ ∧ gp < w.heap.size := by
  rcases r.2 with ⟨_, h2⟩ | ⟨g, cap, cur, hv, _, hg, _⟩
  ·omega
  ·simp only [Value.slice.injEq, true_and] at hv
   exact ⟨g, hv.1, At.lt (t := 4) hg⟩
 rw [hg] at r
 have hlab : L.lab gp = (L.id, 5, 0) := h.t5 gp (by rw [hg]; simp [blks])
 have hf : Fr [gp] w (w.setCell ⟨gp, v, none⟩ (.bool b)) := (Fr.refl _ w).setCell (.inl (by simp)) _
 have o := h.off (P := (· = (5, 0))) hf (fun k hk hl => ⟨_, rfl, by simp at hk; subst hk; exact hlab⟩)
 have hst := (World.ownsRow.stored r v (.bool b)).1
 refine ⟨gp, hg, ?_, World.ownsRow.frozenAt r v, ⟨?_, o.tr (by decide), o.hp (by decide), h.hmade, h.ecs, h.ews, o.rcs (by decide), o.rws (by decide), ?_, o.rmo (by decide), o.rco (by decide), fun n hn => o.ech n hn (by simp), fun n hn => o.ewh n hn (by simp),
  h.t0, h.t1, h.t2, h.t3, h.t4, h.t5, h.t6, h.t7, h.t8, h.t9⟩, SvL.part_fr hf (fun k hk hl => by simp at hk; subst hk; rw [hlab])⟩
 ·rw [World.ownsRow.cellAt r v (by omega)]
  simp only [List.getElem?_map, List.getElem?_eq_getElem hv, Option.map_some, List.getElem!_eq_getElem?_getD, Option.getD_some]
 ·have := o.obj (by decide)
  simp only [scs, List.length_set] at this ⊢
  exact this
 ·unfold Bools
  simp only [List.length_set, List.map_set]
  rw [hg]
  exact hst
theorem SvAt.phcell {w : World} {L : SvL} {S : Sv} (h : SvAt w L S) {v : Nat} (hv : v < S.phase.length) :
  ∃ gp, L.pA = some ⟨gp, 0, none⟩ ∧ w.cell? ⟨gp, v, none⟩ = some (.bool S.phase[v]!) ∧ w.frozen? ⟨gp, v, none⟩ = false := by
 obtain ⟨gp, h1, h2, h3, _⟩ := h.phset hv false
 exact ⟨gp, h1, h2, h3⟩
namespace Sv
def back1 (S : Sv) (l : Int) : Sv := { S with phase := S.phase.set (tv l).toNat (decide (0 < l)), H := pushC S.H (tv l) }
theorem backL_go {S : Sv} {level l : Int} {r : List Int} (h : ¬ S.T.levB (tv l) ≤ level) : backL level (l :: r) S = backL level r (S.back1 l) := by
 simp only [backL]
 rw [if_neg h]
 rfl
theorem backL_stop {S : Sv} {level l : Int} {r : List Int} (h : S.T.levB (tv l) ≤ level) : backL level (l :: r) S = S := by
 simp only [backL]
 rw [if_pos h]
theorem Ok.back1 {S : Sv} {m : Nat} (ok : S.Ok m) (l : Int) : (S.back1 l).Ok m := by
 obtain ⟨h1, h2⟩ := ok.hi.pushC (tv l)
 exact ⟨ok.vl, ok.tr, h1, by show (Sv.pushC S.H (tv l)).at_.length = _; rw [h2]; exact ok.hl, by show (S.phase.set _ _).length = _; rw [List.length_set]; exact ok.ph, ok.wl, ok.ll, ok.wb, ok.wt, ok.lr, ok.ln, ok.lb, ok.hd, ok.rs⟩
theorem Ok.cut {S : Sv} {m : Nat} (ok : S.Ok m) (level : Nat) (hl : level < S.T.levels.length) :
  ({ S with T := S.T.backF level, head := min S.head (S.T.backF level).lits.length } : Sv).Ok m ∧ (S.T.backF level).levels.length = level := by
 obtain ⟨R, hR⟩ := ok.tr
 have hb := hR.back level hl
 have hd := hb.dep
 have hb2 : TRep (S.T.backF level) S.vars (R.filter (fun e : St => decide (e.l ≤ (level : Int)))) (S.T.backF level).levels.length := by
  rw [hd]
  exact hb
 refine ⟨⟨ok.vl, ⟨_, hb2⟩, ok.hi, ok.hl, ok.ph, ok.wl, ok.ll, ok.wb, ok.wt, ok.lr, ok.ln, ok.lb, Nat.min_le_right _ _, fun v => ?_⟩, hd⟩
 have e := hb.reaB v
 have e0 := hR.reaB v
 have hok := ok.rs v
 show 0 ≤ (S.T.backF level).reaB v ∧ (S.T.backF level).reaB v ≤ _
 rw [e]
 cases hk : look (R.filter (fun e : St => decide (e.l ≤ (level : Int)))) v with
 | none => simp
 | some x =>
  obtain ⟨hm, hv⟩ := look_some hk
  have hx := look_mem hR.nd (List.mem_filter.1 hm).1
  rw [hv] at hx
  rw [hx] at e0
  simp only at e0 ⊢
  rw [← e0]
  exact hok
theorem backL_same (level : Int) : ∀ (r : List Int) (S : Sv) (m : Nat), S.Ok m → (backL level r S).Ok m ∧ (backL level r S).T = S.T ∧ (backL level r S).head = S.head ∧ (backL level r S).vars = S.vars ∧ (backL level r S).list = S.list
 | [], S, m, ok => ⟨ok, rfl, rfl, rfl, rfl⟩
 | l :: r, S, m, ok => by
  by_cases h : S.T.levB (tv l) ≤ level
  ·rw [backL_stop h]
   exact ⟨ok, rfl, rfl, rfl, rfl⟩
  ·rw [backL_go h]
   exact backL_same level r _ m (ok.back1 l)
theorem Ok.back {S : Sv} {m : Nat} (ok : S.Ok m) (level : Nat) : (S.back level).Ok m ∧ (S.back level).vars = S.vars ∧ (S.back level).list = S.list := by
 unfold Sv.back
 split
 ·exact ⟨ok, rfl, rfl⟩
 ·rename_i h
  obtain ⟨h1, h2, h3, h4, h5⟩ := backL_same (level : Int) S.T.lits.reverse S m ok
  have := (h1.cut level (by rw [h2]; omega)).1
  exact ⟨this, h4, h5⟩
end Sv
theorem max_tv {x : Int} (h : -9223372036854775808 < x) : (if x < -x then -x else x) = tv x := by
 by_cases h0 : x < 0
 ·rw [if_pos (by omega), tv_neg h0 h]
 ·rw [if_neg (by omega), tv_nat (by omega)]
theorem rev_take {l : List Int} {n : Nat} (h : n < l.length) : (l.take (n + 1)).reverse = l[n]! :: (l.take n).reverse := by
 rw [List.take_add_one, List.reverse_append]
 simp only [List.getElem!_eq_getElem?_getD, List.getElem?_eq_getElem h, Option.toList_some, List.reverse_cons, List.reverse_nil, List.nil_append, List.cons_append, Option.getD_some]
theorem Sv.Ok.set_lit {S : Sv} {m : Nat} (ok : S.Ok m) {i : Nat} (h : i < S.T.lits.length) : 1 ≤ tv S.T.lits[i]! ∧ tv S.T.lits[i]! ≤ S.vars ∧ -(S.vars : Int) ≤ S.T.lits[i]! ∧ S.T.lits[i]! ≤ S.vars ∧ S.T.lits[i]! ≠ 0 := by
 obtain ⟨R, hR⟩ := ok.tr
 have hm : S.T.lits[i]! ∈ S.T.lits := get_mem h
 generalize S.T.lits[i]! = x at hm ⊢
 rw [hR.lits, List.mem_map] at hm
 obtain ⟨e, he, rfl⟩ := hm
 have hb := hR.bound e he
 have hv := ok.vl
 refine ⟨hb.2.2.1, hb.2.2.2, ?_⟩
 have h3 := hb.2.2.1
 have h4 := hb.2.2.2
 unfold tv at h3 h4
 split at h3
 ·omega
 ·split at h3
  ·rename_i h5 h6
   rw [if_neg h5, if_pos h6] at h4
   omega
  ·rename_i h5 h6
   rw [if_neg h5, if_neg h6] at h4
   omega
theorem Sv.Ok.tinv {S : Sv} {m : Nat} (ok : S.Ok m) : S.T.Inv := by
 obtain ⟨R, hR⟩ := ok.tr
 exact hR.inv
theorem Sv.Ok.len_le {S : Sv} {m : Nat} (ok : S.Ok m) : S.T.lits.length ≤ S.vars := by
 obtain ⟨R, hR⟩ := ok.tr
 have := hR.len_le
 rw [hR.lits, List.length_map]
 exact this
theorem atB_nat {T : Tr} {i : Nat} (h : i < T.lits.length) : T.atB (i : Int) = T.lits[i]! := by
 unfold Tr.atB
 rw [if_pos (by omega), Int.toNat_natCast]
theorem ext_wid {L L' : SvL} {w w' : World} (h : L.ext L' w') (hs : w.heap.size ≤ w'.heap.size) : L.ext L' w := ⟨h.1, h.2.1, fun k hk e => h.2.2 k (Nat.lt_of_lt_of_le hk hs) e⟩
theorem back_calls (w : World) (L : SvL) (S : Sv) (h : SvAt w L S) (m : Nat) (ok : S.Ok m) (level : Nat) (hlv : level < 4611686018427387904) :
  Calls Try.prog 34 #[.pointer (some ⟨L.a, 0, none⟩), .int .i64 level] w (SvP (.tuple #[]) (S.back level) L w) := by
 have HH := Lib.hid h
 have HOK := Lib.hid ok
 have hvl := ok.vl
 have hln := ok.len_le
 obtain ⟨c0, -⟩ := h.cells
 have e0 := Ext.cell c0
 have KD := Lib.hid (trail_depth w L.tL S.T h.tr)
 have KL := Lib.hid (trail_len w L.tL S.T h.tr)
 by_cases hs : S.T.levels.length ≤ level
 ·have hb : S.back level = S := by unfold Sv.back; rw [if_pos hs]
  rw [hb]
  have FIN : Hid (SvP (.tuple #[]) S L w (.returned (.tuple #[])) w) := ⟨rfl, L, h, SvL.ext_refl _ _, Fr.refl _ _⟩
  have hd : decide ((S.T.levels.length : Int) ≤ (level : Int)) = true := decide_eq_true (by omega)
  clear h ok hb
  go_enter Try.func34, Try.ntmps34
  go_wp2_with fail
  refine KD.out.mono ?_
  rintro e w1 ⟨rfl, rfl⟩
  go_wp2_with fail
  refine bodyPost_ret (results_none rfl _ _ _) rfl ?_
  exact FIN.out
 ·have hd : decide ((S.T.levels.length : Int) ≤ (level : Int)) = false := decide_eq_false (by omega)
  obtain ⟨Q, hQ⟩ : ∃ Q, Sv.backL (level : Int) S.T.lits.reverse S = Q := ⟨_, rfl⟩
  have hb : S.back level = { Q with T := Q.T.backF level, head := min Q.head (Q.T.backF level).lits.length } := by unfold Sv.back; rw [if_neg hs, hQ]
  have hQs := Sv.backL_same (level : Int) S.T.lits.reverse S m ok
  rw [hQ] at hQs
  obtain ⟨B, hB⟩ : ∃ B, S.back level = B := ⟨_, rfl⟩
  rw [hB] at hb ⊢
  have HB := Lib.hid hb
  have HQ := Lib.hid hQ
  have HQS := Lib.hid hQs
  have HT0 : Hid (S.T.lits.take S.T.lits.length = S.T.lits) := List.take_length
  have HLV := Lib.hid (Nat.lt_of_not_le hs)
  clear h ok hb hQ hB hQs e0
  go_enter Try.func34, Try.ntmps34
  go_wp2_with fail
  refine KD.out.mono ?_
  rintro e w1 ⟨rfl, rfl⟩
  go_wp2_with fail
  refine KL.out.mono ?_
  rintro e w1 ⟨rfl, rfl⟩
  clear KD KL
  go_wp2_with fail
  clear c0
  go_loopg [4] S.T.lits.length (fun g x4 wr => ∃ (S1 : Sv) (L1 : SvL), g ≤ S.T.lits.length ∧ x4 = .int .i64 ((g : Int) - 1) ∧ Hid (Sv.backL (level : Int) (S.T.lits.take g).reverse S1 = Q) ∧ Hid (S1.T = S.T ∧ S1.vars = S.vars ∧ S1.head = S.head) ∧ Hid (S1.Ok m) ∧ Hid (SvAt wr L1 S1) ∧ Hid (L.ext L1 w) ∧ Hid (Fr (L.own w) w wr))
  case atStart => exact ⟨S, L, Nat.le_refl _, by go_num, by rw [HT0.out]; exact HQ.out, ⟨rfl, rfl, rfl⟩, HOK.out, HH.out, SvL.ext_refl _ _, Fr.refl _ _⟩
  case round =>
   obtain ⟨S1, L1, hg, rfl, HB1, HSM, HO1, H1, HE1, HF1⟩ := hrel
   have hea : L1.a = L.a := HE1.out.1
   obtain ⟨c0, c1, -, -, -, c5, -, -, c8, -⟩ := H1.out.cells
   rw [hea] at c0 c1 c5 c8
   have HC0 := Lib.hid c0
   have HC1 := Lib.hid c1
   have HC5 := Lib.hid c5
   have HC8 := Lib.hid c8
   have HEA := Lib.hid hea
   clear hea
   by_cases hg0 : gk = 0
   ·subst hg0
    have HQ1 : Hid (S1 = Q) := HB1.out
    have hdl : decide ((0 : Int) ≤ (((0 : Nat) : Int) - 1)) = false := by decide
    clear c0 c1 c5 c8
    
    have KB := trail_back wr L1.tL S1.T H1.out.tr HO1.out.tinv (level : Int)
    rw [Int.toNat_natCast, HSM.out.1] at KB
    have KB := Lib.hid KB
    have c0 := HC0.out
    go_wp2_with fail
    refine KB.out.mono ?_
    clear KB
    rintro e w2 ⟨rfl, ht2, hf2⟩
    obtain ⟨L2, g2, ge2, gf2⟩ := H1.out.trail ht2 (TrL.ext_refl _ _) hf2
    have hta : S1.T.backF level = Q.T.backF level := by rw [HQ1.out]
    rw [HSM.out.1.symm.trans (by rw [HSM.out.1]) ] at g2
    have G2 : Hid (SvAt w2 L2 { Q with T := Q.T.backF level }) := by
     have e1 : S.T = Q.T := by rw [← HQ1.out, HSM.out.1]
     rw [← e1, ← HQ1.out]
     exact g2
    have HE2 := Lib.hid (SvL.ext_trans HE1.out ge2 HF1.out.size)
    have HF2 := Lib.hid (SvL.own_then HE1.out HF1.out gf2)
    have HEA2 : Hid (L2.a = L.a) := HE2.out.1
    have hcs := G2.out.cells
    rw [HEA2.out] at hcs
    obtain ⟨d0, -, -, -, -, -, -, -, d8, -⟩ := hcs
    have HD0 := Lib.hid d0
    have HD8 := Lib.hid d8
    have hfz := G2.out.obj.frozen 8
    rw [HEA2.out] at hfz
    have HFZ := Lib.hid hfz
    have KL := Lib.hid (fun W (hW : Fr [] w2 W) => trail_len W L2.tL (Q.T.backF level) (G2.out.tr.fr hW (by simp)))
    have hmin : (if (Q.T.backF level).lits.length < Q.head then ((Q.T.backF level).lits.length : Int) else (Q.head : Int)) = ((min Q.head (Q.T.backF level).lits.length : Nat) : Int) := by
     rw [Nat.min_def]
     split <;> split <;> omega
    clear c0 ht2 hf2 g2 ge2 gf2 hta d0 d8 hfz
    go_upto_region 10 with fail
    refine wp_region_noPanic ?_
    refine wp_region_C (fun w' : World => Fr [] w2 w') 13 (by kernel_rfl) ((Fr.refl [] w2).drew) (fun hT0 => ?_)
    refine T0 (i := 0) (oi := ?or10u1) (v := ?vr10u1) (by rfl) (by kernel_rfl) (by rfl) ?yr10u1 hT0 ?_
    case yr10u1 => (intro w; go_simp <;> with_reducible rfl)
    try simp only [Act.put, q5, q6, q7]
    refine T0 (i := 1) (oi := ?or10u2) (v := ?vr10u2) (by rfl) (by kernel_rfl) (by rfl) ?yr10u2 (hT0.more 0) ?_
    case yr10u2 => (intro w; go_simp <;> with_reducible rfl)
    try simp only [Act.put, q5, q6, q7]
    refine T0 (i := 2) (oi := ?or10u3) (v := ?vr10u3) (by rfl) (by kernel_rfl) (by rfl) ?yr10u3 ((hT0.more 0).more 1) ?_
    case yr10u3 => (intro w; go_simp <;> with_reducible rfl)
    try simp only [Act.put, q5, q6, q7]
    refine T0 (i := 3) (oi := ?or10u4) (v := ?vr10u4) (by rfl) (by kernel_rfl) (by rfl) ?yr10u4 (((hT0.more 0).more 1).more 2) ?_
    case yr10u4 => (intro w; go_simp <;> with_reducible rfl)
    try simp only [Act.put, q5, q6, q7]
    refine T1 (i := 4) (oi := ?or10u5) (v := ?vr10u5) [4, 13] (by rfl) (by kernel_rfl) (by rfl) ?yr10u5 (((((hT0.more 0).more 1).more 2).more 3).resolve_left (by decide)) ?_
    case yr10u5 => (intro w hSw; (have s8 := hSw.cellS HD8.out; have s0 := hSw.cellS HD0.out); go_simp <;> with_reducible rfl)
    try simp only [Act.put, q5, q6, q7]
    refine T0 (i := 5) (oi := ?or10u6) (v := ?vr10u6) (by rfl) (by kernel_rfl) (by rfl) ?yr10u6 (((((hT0.more 0).more 1).more 2).more 3).more 4) ?_
    case yr10u6 => (intro w; go_simp <;> with_reducible rfl)
    try simp only [Act.put, q5, q6, q7]
    refine T0 (i := 6) (oi := ?or10u7) (v := ?vr10u7) (by rfl) (by kernel_rfl) (by rfl) ?yr10u7 ((((((hT0.more 0).more 1).more 2).more 3).more 4).more 5) ?_
    case yr10u7 => (intro w; go_simp <;> with_reducible rfl)
    try simp only [Act.put, q5, q6, q7]
    refine T0 (i := 7) (oi := ?or10u8) (v := ?vr10u8) (by rfl) (by kernel_rfl) (by rfl) ?yr10u8 (((((((hT0.more 0).more 1).more 2).more 3).more 4).more 5).more 6) ?_
    case yr10u8 => (intro w; go_simp <;> with_reducible rfl)
    try simp only [Act.put, q5, q6, q7]
    refine T1 (i := 8) (oi := ?or10u9) (v := ?vr10u9) [8, 13] (by rfl) (by kernel_rfl) (by rfl) ?yr10u9 (((((((((hT0.more 0).more 1).more 2).more 3).more 4).more 5).more 6).more 7).resolve_left (by decide)) ?_
    case yr10u9 => (intro w hSw; (have s8 := hSw.cellS HD8.out; have s0 := hSw.cellS HD0.out); go_simp <;> with_reducible rfl)
    try simp only [Act.put, q5, q6, q7]
    have hSx := (((((((((hT0.more 0).more 1).more 2).more 3).more 4).more 5).more 6).more 7).more 8).resolve_left (by decide)
    refine R1 (i := 9) (o := ?or10u10) (by kernel_rfl) (by rfl) ?_
    intro K hK
    (go_simp; refine (KL.out _ hSx).mono ?_; rintro e w5 ⟨rfl, rfl⟩; dsimp only)
    refine hK.out _ _ (.inr ?_) (fun hT10 => ?_)
    ·exact hSx
    clear hK K
    try simp only [Act.put, q5, q6, q7]
    refine T0 (i := 10) (oi := ?or10u11) (v := ?vr10u11) (by rfl) (by kernel_rfl) (by rfl) ?yr10u11 hT10 ?_
    case yr10u11 => (intro w; go_simp <;> with_reducible rfl)
    try simp only [Act.put, q5, q6, q7]
    refine T0 (i := 11) (oi := ?or10u12) (v := ?vr10u12) (by rfl) (by kernel_rfl) (by rfl) ?yr10u12 (hT10.more 10) ?_
    case yr10u12 => (intro w; go_simp <;> with_reducible rfl)
    try simp only [Act.put, q5, q6, q7]
    refine T0 (i := 12) (oi := ?or10u13) (v := ?vr10u13) (by rfl) (by kernel_rfl) (by rfl) ?yr10u13 ((hT10.more 10).more 11) ?_
    case yr10u13 => (intro w; go_simp <;> with_reducible rfl)
    try simp only [Act.put, q5, q6, q7]
    have hSx := (((hT10.more 10).more 11).more 12).resolve_left (by decide)
    refine R1 (i := 13) (o := ?or10u14) (by kernel_rfl) (by rfl) ?_
    intro K hK
    (have sb := hSx.cellS HD8.out; have fb : World.frozen? _ _ = _ := (World.frozen?_of_block (hSx.block L.a (lt_of_cell HD8.out) (by simp))).trans HFZ.out; go_simp)
    refine hK.out _ _ (.inl rfl) (fun hT14 => ?_)
    clear hK K
    try simp only [Act.put, q5, q6, q7]
    refine wpAnyC_done (by kernel_rfl) ?_ _
    refine NoPanic.normal ?_
    have g5 := G2.out.sethead (min Q.head (Q.T.backF level).lits.length)
    rw [HEA2.out] at g5
    try simp only [hmin]
    have h6 := g5.1.keep (Fr.refl [] _).drew
    have f6 := g5.2.drew
    have hF : Fr (L.own w) w _ := SvL.own_then HE2.out HF2.out f6
    have FF : Hid (SvP (.tuple #[]) B L w (.returned (.tuple #[])) _) := ⟨rfl, L2, by rw [HB.out]; exact h6, HE2.out, hF⟩
    go_wp2_with fail
    go_end0
    exact FF.out
   ·obtain ⟨i, rfl⟩ : ∃ i, gk = i + 1 := ⟨gk - 1, by omega⟩
    have hil : i < S.T.lits.length := by omega
    have hei : ((i + 1 : Nat) : Int) - 1 = (i : Int) := by omega
    rw [hei]
    have hdl : decide ((0 : Int) ≤ (i : Int)) = true := decide_eq_true (by omega)
    obtain ⟨x, hx⟩ : ∃ x, S.T.lits[i]! = x := ⟨_, rfl⟩
    have hb1 := HB1.out
    rw [rev_take hil, hx] at hb1
    have HBX := Lib.hid hb1
    have hxr := HOK.out.set_lit hil
    rw [hx] at hxr
    obtain ⟨hx1, hx2, hx3, hx4, hx5⟩ := hxr
    have KA := Lib.hid (trail_at wr L1.tL S1.T H1.out.tr (i : Int))
    rw [HSM.out.1, atB_nat hil, hx] at KA
    have KV := Lib.hid (trail_level wr L1.tL S1.T H1.out.tr (tv x))
    obtain ⟨lv, hlv1⟩ : ∃ lv, S1.T.levB (tv x) = lv := ⟨_, rfl⟩
    rw [hlv1] at KV
    have HLX := Lib.hid hlv1
    have hmx := max_tv (x := x) (by omega)
    obtain ⟨v, hv⟩ : ∃ v : Nat, tv x = v := ⟨(tv x).toNat, by omega⟩
    rw [hv] at hx1 hx2 KV hmx
    have HV := Lib.hid hv
    have hw1 : IntKind.i64.wrap (-x) = -x := IntWalk.i64_in _ (by omega)
    clear hb1 hx hlv1 hv HB1
    go_wp2_with fail
    refine KA.out.mono ?_
    rintro e w1 ⟨rfl, rfl⟩
    clear KA
    by_cases hle : lv ≤ (level : Int)
    ·have hd2 : decide (lv ≤ (level : Int)) = true := decide_eq_true hle
     have HQ1 : Hid (S1 = Q) := by
      have := HBX.out
      rw [Sv.backL_stop (by rw [HLX.out]; exact hle)] at this
      exact this
     go_wp2_with fail
     refine KV.out.mono ?_
     rintro e w1 ⟨rfl, rfl⟩
     clear KV
     clear c0 c1 c5 c8
     have KB := trail_back wr L1.tL S1.T H1.out.tr HO1.out.tinv (level : Int)
     rw [Int.toNat_natCast, HSM.out.1] at KB
     have KB := Lib.hid KB
     have c0 := HC0.out
     go_wp2_with fail
     refine KB.out.mono ?_
     clear KB
     rintro e w2 ⟨rfl, ht2, hf2⟩
     obtain ⟨L2, g2, ge2, gf2⟩ := H1.out.trail ht2 (TrL.ext_refl _ _) hf2
     have hta : S1.T.backF level = Q.T.backF level := by rw [HQ1.out]
     rw [HSM.out.1.symm.trans (by rw [HSM.out.1]) ] at g2
     have G2 : Hid (SvAt w2 L2 { Q with T := Q.T.backF level }) := by
      have e1 : S.T = Q.T := by rw [← HQ1.out, HSM.out.1]
      rw [← e1, ← HQ1.out]
      exact g2
     have HE2 := Lib.hid (SvL.ext_trans HE1.out ge2 HF1.out.size)
     have HF2 := Lib.hid (SvL.own_then HE1.out HF1.out gf2)
     have HEA2 : Hid (L2.a = L.a) := HE2.out.1
     have hcs := G2.out.cells
     rw [HEA2.out] at hcs
     obtain ⟨d0, -, -, -, -, -, -, -, d8, -⟩ := hcs
     have HD0 := Lib.hid d0
     have HD8 := Lib.hid d8
     have hfz := G2.out.obj.frozen 8
     rw [HEA2.out] at hfz
     have HFZ := Lib.hid hfz
     have KL := Lib.hid (fun W (hW : Fr [] w2 W) => trail_len W L2.tL (Q.T.backF level) (G2.out.tr.fr hW (by simp)))
     have hmin : (if (Q.T.backF level).lits.length < Q.head then ((Q.T.backF level).lits.length : Int) else (Q.head : Int)) = ((min Q.head (Q.T.backF level).lits.length : Nat) : Int) := by
      rw [Nat.min_def]
      split <;> split <;> omega
     clear c0 ht2 hf2 g2 ge2 gf2 hta d0 d8 hfz
     go_upto_region 10 with fail
     refine wp_region_noPanic ?_
     refine wp_region_C (fun w' : World => Fr [] w2 w') 13 (by kernel_rfl) ((Fr.refl [] w2).drew) (fun hT0 => ?_)
     refine T0 (i := 0) (oi := ?or10bu1) (v := ?vr10bu1) (by rfl) (by kernel_rfl) (by rfl) ?yr10bu1 hT0 ?_
     case yr10bu1 => (intro w; go_simp <;> with_reducible rfl)
     try simp only [Act.put, q5, q6, q7]
     refine T0 (i := 1) (oi := ?or10bu2) (v := ?vr10bu2) (by rfl) (by kernel_rfl) (by rfl) ?yr10bu2 (hT0.more 0) ?_
     case yr10bu2 => (intro w; go_simp <;> with_reducible rfl)
     try simp only [Act.put, q5, q6, q7]
     refine T0 (i := 2) (oi := ?or10bu3) (v := ?vr10bu3) (by rfl) (by kernel_rfl) (by rfl) ?yr10bu3 ((hT0.more 0).more 1) ?_
     case yr10bu3 => (intro w; go_simp <;> with_reducible rfl)
     try simp only [Act.put, q5, q6, q7]
     refine T0 (i := 3) (oi := ?or10bu4) (v := ?vr10bu4) (by rfl) (by kernel_rfl) (by rfl) ?yr10bu4 (((hT0.more 0).more 1).more 2) ?_
     case yr10bu4 => (intro w; go_simp <;> with_reducible rfl)
     try simp only [Act.put, q5, q6, q7]
     refine T1 (i := 4) (oi := ?or10bu5) (v := ?vr10bu5) [4, 13] (by rfl) (by kernel_rfl) (by rfl) ?yr10bu5 (((((hT0.more 0).more 1).more 2).more 3).resolve_left (by decide)) ?_
     case yr10bu5 => (intro w hSw; (have s8 := hSw.cellS HD8.out; have s0 := hSw.cellS HD0.out); go_simp <;> with_reducible rfl)
     try simp only [Act.put, q5, q6, q7]
     refine T0 (i := 5) (oi := ?or10bu6) (v := ?vr10bu6) (by rfl) (by kernel_rfl) (by rfl) ?yr10bu6 (((((hT0.more 0).more 1).more 2).more 3).more 4) ?_
     case yr10bu6 => (intro w; go_simp <;> with_reducible rfl)
     try simp only [Act.put, q5, q6, q7]
     refine T0 (i := 6) (oi := ?or10bu7) (v := ?vr10bu7) (by rfl) (by kernel_rfl) (by rfl) ?yr10bu7 ((((((hT0.more 0).more 1).more 2).more 3).more 4).more 5) ?_
     case yr10bu7 => (intro w; go_simp <;> with_reducible rfl)
     try simp only [Act.put, q5, q6, q7]
     refine T0 (i := 7) (oi := ?or10bu8) (v := ?vr10bu8) (by rfl) (by kernel_rfl) (by rfl) ?yr10bu8 (((((((hT0.more 0).more 1).more 2).more 3).more 4).more 5).more 6) ?_
     case yr10bu8 => (intro w; go_simp <;> with_reducible rfl)
     try simp only [Act.put, q5, q6, q7]
     refine T1 (i := 8) (oi := ?or10bu9) (v := ?vr10bu9) [8, 13] (by rfl) (by kernel_rfl) (by rfl) ?yr10bu9 (((((((((hT0.more 0).more 1).more 2).more 3).more 4).more 5).more 6).more 7).resolve_left (by decide)) ?_
     case yr10bu9 => (intro w hSw; (have s8 := hSw.cellS HD8.out; have s0 := hSw.cellS HD0.out); go_simp <;> with_reducible rfl)
     try simp only [Act.put, q5, q6, q7]
     have hSx := (((((((((hT0.more 0).more 1).more 2).more 3).more 4).more 5).more 6).more 7).more 8).resolve_left (by decide)
     refine R1 (i := 9) (o := ?or10bu10) (by kernel_rfl) (by rfl) ?_
     intro K hK
     (go_simp; refine (KL.out _ hSx).mono ?_; rintro e w5 ⟨rfl, rfl⟩; dsimp only)
     refine hK.out _ _ (.inr ?_) (fun hT10 => ?_)
     ·exact hSx
     clear hK K
     try simp only [Act.put, q5, q6, q7]
     refine T0 (i := 10) (oi := ?or10bu11) (v := ?vr10bu11) (by rfl) (by kernel_rfl) (by rfl) ?yr10bu11 hT10 ?_
     case yr10bu11 => (intro w; go_simp <;> with_reducible rfl)
     try simp only [Act.put, q5, q6, q7]
     refine T0 (i := 11) (oi := ?or10bu12) (v := ?vr10bu12) (by rfl) (by kernel_rfl) (by rfl) ?yr10bu12 (hT10.more 10) ?_
     case yr10bu12 => (intro w; go_simp <;> with_reducible rfl)
     try simp only [Act.put, q5, q6, q7]
     refine T0 (i := 12) (oi := ?or10bu13) (v := ?vr10bu13) (by rfl) (by kernel_rfl) (by rfl) ?yr10bu13 ((hT10.more 10).more 11) ?_
     case yr10bu13 => (intro w; go_simp <;> with_reducible rfl)
     try simp only [Act.put, q5, q6, q7]
     have hSx := (((hT10.more 10).more 11).more 12).resolve_left (by decide)
     refine R1 (i := 13) (o := ?or10bu14) (by kernel_rfl) (by rfl) ?_
     intro K hK
     (have sb := hSx.cellS HD8.out; have fb : World.frozen? _ _ = _ := (World.frozen?_of_block (hSx.block L.a (lt_of_cell HD8.out) (by simp))).trans HFZ.out; go_simp)
     refine hK.out _ _ (.inl rfl) (fun hT14 => ?_)
     clear hK K
     try simp only [Act.put, q5, q6, q7]
     refine wpAnyC_done (by kernel_rfl) ?_ _
     refine NoPanic.normal ?_
     have g5 := G2.out.sethead (min Q.head (Q.T.backF level).lits.length)
     rw [HEA2.out] at g5
     try simp only [hmin]
     have h6 := g5.1.keep (Fr.refl [] _).drew
     have f6 := g5.2.drew
     have hF : Fr (L.own w) w _ := SvL.own_then HE2.out HF2.out f6
     have FF : Hid (SvP (.tuple #[]) B L w (.returned (.tuple #[])) _) := ⟨rfl, L2, by rw [HB.out]; exact h6, HE2.out, hF⟩
     go_wp2_with fail
     go_end0
     exact FF.out
    ·have hd2 : decide (lv ≤ (level : Int)) = false := decide_eq_false hle
     have HB2 : Hid (Sv.backL (level : Int) (S.T.lits.take i).reverse (S1.back1 x) = Q) := by
      have := HBX.out
      rw [Sv.backL_go (by rw [HLX.out]; exact hle)] at this
      exact this
     have hvp : v < S1.phase.length := by
      rw [HO1.out.ph, HSM.out.2.1]
      omega
     obtain ⟨gp, hgp, sp, fp, h2, hf2⟩ := H1.out.phset hvp (decide (0 < x))
     have c1' := h2.cells.2.1
     rw [HEA.out] at c1'
     have c0' := h2.cells.1
     rw [HEA.out] at c0'
     rw [hgp] at c5
     have hvl2 : (v : Int) < (S1.phase.length : Int) := by omega
     go_wp2_with fail
     refine KV.out.mono ?_
     rintro e w1 ⟨rfl, rfl⟩
     clear KV
     go_upto_region 8 with fail
     obtain ⟨W2, hW2⟩ : ∃ W, wr.setCell ⟨gp, v, none⟩ (.bool (decide (0 < x))) = W := ⟨_, rfl⟩
     rw [hW2] at h2 hf2 c0' c1' ⊢
     have hhl : S1.H.at_.length ≤ 262145 := by rw [HO1.out.hl, HSM.out.2.1]; omega
     have KP := Lib.hid (heap_pushC W2 L1.hL S1.H h2.hp HO1.out.hi hhl (v : Int))
     have H2 := Lib.hid h2
     have HF2 := Lib.hid hf2
     clear c0 c1 c5 c8 sp fp hW2 h2 hf2 hgp hd2 hmx hw1 c0'
     go_wp2_with fail
     refine KP.out.mono ?_
     clear KP
     rintro e w3 ⟨b, rfl, hL3, h3, he3, hf3⟩
     obtain ⟨L3, g3, ge3, gf3⟩ := H2.out.heap h3 he3 hf3
     have G3 : Hid (SvAt w3 L3 (S1.back1 x)) := by
      unfold Sv.back1
      rw [HV.out, Int.toNat_natCast]
      exact g3
     have HF3 : Hid (Fr (L1.own wr) wr w3) := HF2.out.trans gf3 (fun k hk => by
      rw [SvL.mem_own] at hk
      rcases Nat.lt_or_ge k wr.heap.size with hl | hl
      ·exact .inl (SvL.mem_own.2 ⟨hl, hk.2⟩)
      ·exact .inr hl)
     have GE3 := Lib.hid (ext_wid ge3 HF2.out.size)
     clear g3 h3 he3 hf3 ge3 gf3 c1'
     go_wp2_with fail
     go_roundg i
     case measure => omega
     case rel => exact ⟨S1.back1 x, L3, by omega, by go_num, HB2.out, ⟨HSM.out.1, HSM.out.2.1, HSM.out.2.2⟩, HO1.out.back1 x, G3.out, SvL.ext_trans HE1.out GE3.out HF1.out.size, SvL.own_then HE1.out HF1.out HF3.out⟩
theorem infoBool : (Try.prog.info? 4).map (fun i => (i.zero, i.size, i.bytes)) = some (some (.bool false), 1, 1) := by kernel_rfl
theorem run_make_bool (W : World) (z : Int) (h0 : 0 ≤ z) (h1 : z ≤ 1099511627776) :
  (Instr.makeSlice 23 (.int .i64 z) (.int .i64 z)).run Try.prog W = .ok (.slice (some ⟨W.heap.size, 0, none⟩) z.toNat z.toNat) (W.alloc (.cells (madeCells #[.bool false] z.toNat) 4)) := by
 obtain ⟨i0, hi, hz0, hz1, hz2⟩ := info_parts infoBool
 obtain ⟨n, rfl⟩ := Int.eq_ofNat_of_zero_le h0
 have hr := run_make (P := Try.prog) W 23 4 i0 (.bool false) Try.underlying23 hi hz0 .i64 .i64 n n (by omega) (Int.le_refl _) (by rw [hz2]; omega) (by omega)
 simp only [Int.toNat_natCast] at hr ⊢
 rw [hz1, Nat.mul_one] at hr
 exact hr
theorem made_bools (W : World) (n : Nat) (h : n ≤ maxLen) : Bools (W.alloc (.cells (madeCells #[.bool false] n) 4)) (some ⟨W.heap.size, 0, none⟩) n (List.replicate n false) := by
 have := World.ownsRow_lit (base := 0) (e := 4) (size := 1) W (madeCells #[.bool false] n) n (Nat.zero_le _) h (by rw [size_madeCells]; omega)
 rw [toList_madeCells_one] at this
 unfold Bools
 rw [List.length_replicate, List.map_replicate]
 exact this
theorem SvAt.setc {w : World} {L : SvL} {S : Sv} (h : SvAt w L S) (i : Nat) (v : Value) (S' : Sv) (he : (scs L S).setIfInBounds i v = scs L S')
  (hS : S'.T = S.T ∧ S'.H = S.H ∧ S'.list = S.list ∧ S'.watch = S.watch ∧ S'.phase = S.phase ∧ S'.model = S.model ∧ S'.core = S.core) :
  SvAt (w.setCell ⟨L.a, i, none⟩ v) L S' ∧ Fr (L.own w) w (w.setCell ⟨L.a, i, none⟩ v) := by
 have hf : Fr [L.a] w (w.setCell ⟨L.a, i, none⟩ v) := (Fr.refl _ w).setCell (.inl (by simp)) _
 obtain ⟨h1, _, h3⟩ := h.top (L' := L) (S' := S') hf (by have := h.obj.set_ i v; rw [he] at this; exact this) ⟨rfl, rfl, rfl, rfl, rfl, rfl, rfl, rfl, rfl, rfl, rfl, rfl, rfl, rfl, rfl, rfl, rfl⟩ hS
 exact ⟨h1, h3⟩
theorem SvAt.model {w w1 : World} {L : SvL} {S : Sv} (h : SvAt w L S) {g n : Nat} {ms : List Bool} (hr : Bools w1 (some ⟨g, 0, none⟩) n ms) (hg : w.heap.size ≤ g) (hf : Fr [] w w1) :
  ∃ L', SvAt (w1.setCell ⟨L.a, 6, none⟩ (.slice (some ⟨g, 0, none⟩) ms.length n)) L' { S with model := ms } ∧ L.ext L' w ∧ Fr (L.own w) w (w1.setCell ⟨L.a, 6, none⟩ (.slice (some ⟨g, 0, none⟩) ms.length n)) ∧
   L' = { L with mA := some ⟨g, 0, none⟩, mC := n, lab := L.re w (6, 0) } := by
 have hf2 : Fr [L.a] w (w1.setCell ⟨L.a, 6, none⟩ (.slice (some ⟨g, 0, none⟩) ms.length n)) := (hf.mono (fun k hk => by cases hk)).setCell (.inl (by simp)) _
 have hF : ∀ k, k ∈ [L.a] → k < w.heap.size → L.lab k = (L.id, 0, 0) := fun k hk _ => by simp at hk; subst hk; exact h.t0
 have o := h.off (P := (· = (0, 0))) hf2 (fun k hk hl => ⟨_, rfl, hF k hk hl⟩)
 have gt := h.tags (6, 0)
 have hne : L.a ≠ g := by have := h.obj.lt; omega
 refine ⟨{ L with mA := some ⟨g, 0, none⟩, mC := n, lab := L.re w (6, 0) }, ⟨?_, o.tr (by decide), o.hp (by decide), h.hmade, h.ecs, h.ews, o.rcs (by decide), o.rws (by decide), o.rph (by decide), ?_, o.rco (by decide), fun n hn => o.ech n hn (by simp), fun n hn => o.ewh n hn (by simp),
  gt.t0, gt.t1, gt.t2, gt.t3, gt.t4, gt.t5, fun k hk => ?_, gt.t7, gt.t8, gt.t9⟩, ⟨rfl, rfl, fun k hk e => SvL.re_own hk e⟩, SvL.part_fr hf2 (fun k hk hl => by rw [hF k hk hl]), rfl⟩
 ·have := (hf.at_ h.obj (by simp)).set_ 6 (.slice (some ⟨g, 0, none⟩) ms.length n)
  simpa [scs] using this
 ·have hf3 : Fr [L.a] w1 (w1.setCell ⟨L.a, 6, none⟩ (.slice (some ⟨g, 0, none⟩) ms.length n)) := (Fr.refl _ w1).setCell (.inl (by simp)) _
  refine wild_fr hr hf3 (fun k hk hm => ?_)
  simp [blks] at hk hm
  omega
 ·simp [blks] at hk
  subst hk
  exact SvL.re_new hg
theorem SvAt.moset {w : World} {L : SvL} {S : Sv} (h : SvAt w L S) {v : Nat} (hv : v < S.model.length) (b : Bool) :
  ∃ gp, L.mA = some ⟨gp, 0, none⟩ ∧ w.cell? ⟨gp, v, none⟩ = some (.bool S.model[v]!) ∧ w.frozen? ⟨gp, v, none⟩ = false ∧ SvAt (w.setCell ⟨gp, v, none⟩ (.bool b)) L { S with model := S.model.set v b } ∧ Fr (L.own w) w (w.setCell ⟨gp, v, none⟩ (.bool b)) := by
 have r := h.rmo
 unfold Bools at r
 obtain ⟨gp, hg, hgl⟩ : ∃ gp, L.mA = some ⟨gp, 0, none⟩ ∧ gp < w.heap.size := by
  rcases r.2 with ⟨_, h2⟩ | ⟨g, cap, cur, hv, _, hg, _⟩
  ·omega
  ·simp only [Value.slice.injEq, true_and] at hv
   exact ⟨g, hv.1, At.lt (t := 4) hg⟩
 rw [hg] at r
 have hlab : L.lab gp = (L.id, 6, 0) := h.t6 gp (by rw [hg]; simp [blks])
 have hf : Fr [gp] w (w.setCell ⟨gp, v, none⟩ (.bool b)) := (Fr.refl _ w).setCell (.inl (by simp)) _
 have o := h.off (P := (· = (6, 0))) hf (fun k hk hl => ⟨_, rfl, by simp at hk; subst hk; exact hlab⟩)
 have hst := (World.ownsRow.stored r v (.bool b)).1
 refine ⟨gp, hg, ?_, World.ownsRow.frozenAt r v, ⟨?_, o.tr (by decide), o.hp (by decide), h.hmade, h.ecs, h.ews, o.rcs (by decide), o.rws (by decide), o.rph (by decide), ?_, o.rco (by decide), fun n hn => o.ech n hn (by simp), fun n hn => o.ewh n hn (by simp),
  h.t0, h.t1, h.t2, h.t3, h.t4, h.t5, h.t6, h.t7, h.t8, h.t9⟩, SvL.part_fr hf (fun k hk hl => by simp at hk; subst hk; rw [hlab])⟩
 ·rw [World.ownsRow.cellAt r v (by omega)]
  simp only [List.getElem?_map, List.getElem?_eq_getElem hv, Option.map_some, List.getElem!_eq_getElem?_getD, Option.getD_some]
 ·have := o.obj (by decide)
  simp only [scs, List.length_set] at this ⊢
  exact this
 ·unfold Bools
  simp only [List.length_set, List.map_set]
  rw [hg]
  exact hst
namespace Sv
def pop (S : Sv) : Sv := { S with H := S.H.popF }
theorem Ok.pop {S : Sv} {m : Nat} (ok : S.Ok m) (h0 : 0 < S.H.items.length) : S.pop.Ok m := by
 have h := ok.hi.pop h0
 exact ⟨ok.vl, ok.tr, h.1, by show S.H.popF.at_.length = _; rw [h.2.2.2.1]; exact ok.hl, ok.ph, ok.wl, ok.ll, ok.wb, ok.wt, ok.lr, ok.ln, ok.lb, ok.hd, ok.rs⟩
theorem pickF_no {S : Sv} {f : Nat} (h : S.H.items.length = 0) : pickF f S = (S, 0) := by
 cases f with
 | zero => rfl
 | succ f => simp only [pickF]; rw [if_pos h]
theorem pickF_go {S : Sv} {f : Nat} (h : S.H.items.length ≠ 0) (hv : S.val (S.H.it 0) ≠ 0) : pickF (f + 1) S = pickF f S.pop := by
 simp only [pickF]
 rw [if_neg h, if_pos (by exact hv)]
 rfl
theorem pickF_yes {S : Sv} {f : Nat} (h : S.H.items.length ≠ 0) (hv : S.val (S.H.it 0) = 0) : pickF (f + 1) S = (S.pop, if S.phase[(S.H.it 0).toNat]! = true then S.H.it 0 else -(S.H.it 0)) := by
 simp only [pickF]
 rw [if_neg h, if_neg (by exact not_not_intro hv)]
 rfl
theorem Ok.pickF {m : Nat} : ∀ (f : Nat) (S : Sv), S.Ok m → (pickF f S).1.Ok m ∧ (Sv.pickF f S).1.T = S.T ∧ (Sv.pickF f S).1.vars = S.vars ∧ (Sv.pickF f S).1.list = S.list ∧ (Sv.pickF f S).1.head = S.head ∧ -(S.vars : Int) ≤ (Sv.pickF f S).2 ∧ (Sv.pickF f S).2 ≤ S.vars
 | 0, S, ok => ⟨ok, rfl, rfl, rfl, rfl, by simp only [Sv.pickF]; omega, by simp only [Sv.pickF]; omega⟩
 | f + 1, S, ok => by
  by_cases h : S.H.items.length = 0
  ·rw [pickF_no h]
   exact ⟨ok, rfl, rfl, rfl, rfl, by simp only; omega, by simp only; omega⟩
  ·have hp := ok.pop (by omega)
   by_cases hv : S.val (S.H.it 0) = 0
   ·rw [pickF_yes h hv]
    have hr := ok.hi.pc.rng 0 (by omega)
    have hl := ok.hl
    have e : S.H.it 0 = S.H.items[0]! := it_nat S.H 0
    refine ⟨hp, rfl, rfl, rfl, rfl, ?_⟩
    simp only
    split <;> omega
   ·rw [pickF_go h hv]
    exact Ok.pickF f S.pop hp
theorem Ok.pick {S : Sv} {m : Nat} (ok : S.Ok m) : S.pick.1.Ok m ∧ S.pick.1.T = S.T ∧ S.pick.1.vars = S.vars ∧ S.pick.1.list = S.list ∧ S.pick.1.head = S.head ∧ -(S.vars : Int) ≤ S.pick.2 ∧ S.pick.2 ≤ S.vars := Ok.pickF _ _ ok
end Sv
theorem pick_calls (w : World) (L : SvL) (S : Sv) (h : SvAt w L S) (m : Nat) (ok : S.Ok m) :
  Calls Try.prog 70 #[.pointer (some ⟨L.a, 0, none⟩)] w (SvP (.int .i64 S.pick.2) S.pick.1 L w) := by
 obtain ⟨RES, hRES⟩ : ∃ RES, S.pick = RES := ⟨_, rfl⟩
 have HRES : Hid (Sv.pickF (S.H.items.length + 1) S = RES) := hRES
 rw [hRES]
 have FIN : Hid (∀ (S' : Sv) (r : Int), RES = (S', r) → ∀ W L', SvAt W L' S' → L.ext L' w → Fr (L.own w) w W → SvP (.int .i64 RES.2) RES.1 L w (.returned (.int .i64 r)) W) := fun S' r e W L' g1 g2 g3 => by
  subst e
  exact ⟨rfl, L', g1, g2, g3⟩
 have HH := Lib.hid h
 have HOK := Lib.hid ok
 have hvl := ok.vl
 clear hRES h ok
 go_enter Try.func70, Try.ntmps70
 go_wp2_with fail
 go_loopg [] (S.H.items.length + 1) (fun g wr => ∃ (S1 : Sv) (L1 : SvL), Hid (Sv.pickF g S1 = RES) ∧ S1.H.items.length + 1 ≤ g ∧ Hid (S1.T = S.T ∧ S1.vars = S.vars) ∧ Hid (S1.Ok m) ∧ Hid (SvAt wr L1 S1) ∧ Hid (L.ext L1 w) ∧ Hid (Fr (L.own w) w wr))
 case atStart => exact ⟨S, L, HRES.out, Nat.le_refl _, ⟨rfl, rfl⟩, HOK.out, HH.out, SvL.ext_refl _ _, Fr.refl _ _⟩
 case round =>
  obtain ⟨S1, L1, HR1, hg, HSM, HO1, H1, HE1, HF1⟩ := hrel
  have HG := Lib.hid hg
  have hea : L1.a = L.a := HE1.out.1
  obtain ⟨-, c1, -⟩ := H1.out.cells
  rw [hea] at c1
  have HEA := Lib.hid hea
  have hll := HO1.out.hi.pc.len
  have hhl := HO1.out.hl
  have hsv : S1.vars = S.vars := HSM.out.2
  clear hea hg
  by_cases h0 : S1.H.items.length = 0
  ·have hn : S1.H.items = [] := List.eq_nil_of_length_eq_zero h0
   have KP := Lib.hid (heap_pop_no wr L1.hL S1.H H1.out.hp hn)
   have HK : Hid (RES = (S1, 0)) := by
    have := HR1.out
    rw [Sv.pickF_no h0] at this
    exact this.symm
   clear hn
   go_wp2_with fail
   refine KP.out.mono ?_
   rintro e w2 ⟨rfl, rfl⟩
   clear c1
   have FF := Lib.hid (FIN.out S1 0 HK.out _ L1 H1.out HE1.out HF1.out)
   go_wp2_with fail
   go_ret
   exact FF.out
  ·obtain ⟨f, rfl⟩ : ∃ f, gk = f + 1 := ⟨gk - 1, by have := HG.out; omega⟩
   obtain ⟨n, hn⟩ : ∃ n, S1.H.items.length = n + 1 := ⟨S1.H.items.length - 1, by omega⟩
   have KP := Lib.hid (heap_pop_yes wr L1.hL S1.H H1.out.hp HO1.out.hi.pc.rng n hn (by omega))
   have hr := HO1.out.hi.pc.rng 0 (by omega)
   have hev : S1.H.it 0 = S1.H.items[0]! := it_nat S1.H 0
   rw [← hev] at hr
   obtain ⟨v, hv⟩ : ∃ v : Nat, S1.H.it 0 = v := ⟨(S1.H.it 0).toNat, by omega⟩
   rw [hv] at hr KP
   have HP := Lib.hid (HO1.out.hi.pop (by omega))
   have HV := Lib.hid hv
   have HN := Lib.hid hn
   have HOP := Lib.hid (HO1.out.pop (by omega))
   clear hev hv hn
   go_wp2_with fail
   refine KP.out.mono ?_
   clear KP c1
   rintro e w2 ⟨rfl, hp2, hf2⟩
   obtain ⟨L2, g2, ge2, gf2⟩ := H1.out.heap hp2 (HpL.ext_refl _ _) hf2
   have G2 : Hid (SvAt w2 L2 S1.pop) := g2
   have HE2 := Lib.hid (SvL.ext_trans HE1.out ge2 HF1.out.size)
   have HF2 := Lib.hid (SvL.own_then HE1.out HF1.out gf2)
   have hea2 : L2.a = L.a := HE2.out.1
   obtain ⟨c0, -, -, -, -, c5, -⟩ := G2.out.cells
   rw [hea2] at c0 c5
   have hvp : v < S1.pop.phase.length := by rw [HOP.out.ph]; show v < S1.vars + 1; omega
   obtain ⟨gp, hgp, sp, fp⟩ := G2.out.phcell hvp
   rw [hgp] at c5
   obtain ⟨b, hb⟩ : ∃ b, S1.pop.phase[v]! = b := ⟨_, rfl⟩
   rw [hb] at sp
   have HB := Lib.hid hb
   have hvl2 : (v : Int) < (S1.pop.phase.length : Int) := by omega
   obtain ⟨pl, hpl⟩ : ∃ pl, S1.pop.phase.length = pl := ⟨_, rfl⟩
   rw [hpl] at c5 hvl2 hvp
   have KV := trail_value w2 L2.tL S1.pop.T G2.out.tr (v : Int) (by omega) (by omega) HOP.out.small
   obtain ⟨y, hy⟩ : ∃ y, S1.pop.T.valF (v : Int) = y := ⟨_, rfl⟩
   rw [hy] at KV
   have KV := Lib.hid KV
   have HY := Lib.hid hy
   have hw1 : IntKind.i64.wrap (-(v : Int)) = -(v : Int) := IntWalk.i64_in _ (by omega)
   clear hb hy hpl g2 ge2 gf2 hf2 hp2 hea2 hgp fp
   by_cases hy0 : y = 0
   ·have hd : decide (y ≠ 0) = false := by simp [hy0]
    have hd2 : (y != 0) = false := by simp [hy0]
    have HK : Hid (RES = (S1.pop, if b = true then (v : Int) else -(v : Int))) := by
     have := HR1.out
     rw [Sv.pickF_yes h0 (by rw [HV.out]; exact HY.out.trans hy0), HV.out, Int.toNat_natCast] at this
     rw [← HB.out]
     exact this.symm
    subst hy0
    cases b with
    | true =>
     have FF := Lib.hid (FIN.out S1.pop (v : Int) HK.out _ L2 G2.out HE2.out HF2.out)
     go_wp2_with fail
     refine KV.out.mono ?_
     rintro e w3 ⟨rfl, rfl⟩
     clear KV
     go_wp2_with fail
     go_ret
     exact FF.out
    | false =>
     have FF := Lib.hid (FIN.out S1.pop (-(v : Int)) HK.out _ L2 G2.out HE2.out HF2.out)
     go_wp2_with fail
     refine KV.out.mono ?_
     rintro e w3 ⟨rfl, rfl⟩
     clear KV
     go_wp2_with fail
     go_ret
     exact FF.out
   ·have hd2 : (y != 0) = true := by simp [hy0]
    have HK : Hid (Sv.pickF f S1.pop = RES) := by
     have := HR1.out
     rw [Sv.pickF_go h0 (by rw [HV.out]; exact fun h => hy0 (HY.out.symm.trans h))] at this
     exact this
    go_wp2_with fail
    refine KV.out.mono ?_
    rintro e w3 ⟨rfl, rfl⟩
    clear KV
    go_wp2_with fail
    go_roundg f
    case measure => omega
    case rel => exact ⟨S1.pop, L2, HK.out, by have := HG.out; have := HP.out.2.2.1; have e : S1.pop.H.items.length = S1.H.popF.items.length := rfl; omega, ⟨HSM.out.1, HSM.out.2⟩, HOP.out, G2.out, HE2.out, HF2.out⟩
theorem Sv.Ok.keep {S : Sv} {m : Nat} (ok : S.Ok m) : S.keep.Ok m :=
 ⟨ok.vl, ok.tr, ok.hi, ok.hl, ok.ph, ok.wl, ok.ll, ok.wb, ok.wt, ok.lr, ok.ln, ok.lb, ok.hd, ok.rs⟩
theorem keep_calls (w : World) (L : SvL) (S : Sv) (h : SvAt w L S) (m : Nat) (ok : S.Ok m) :
  Calls Try.prog 71 #[.pointer (some ⟨L.a, 0, none⟩)] w (SvP (.tuple #[]) S.keep L w) := by
 have HH := Lib.hid h
 have HOK := Lib.hid ok
 have hvl := ok.vl
 obtain ⟨-, -, c2, -, -, -, d6, -⟩ := h.cells
 obtain ⟨n, hn⟩ : ∃ n, ((S.vars : Int) + 1).toNat = n := ⟨_, rfl⟩
 have hn1 : n = S.vars + 1 := by omega
 have hmk := fun W => run_make_bool W ((S.vars : Int) + 1) (by omega) (by omega)
 simp only [hn] at hmk
 have hw1 : IntKind.i64.wrap ((S.vars : Int) + 1) = (S.vars : Int) + 1 := IntWalk.i64_in _ (by omega)
 have HN := Lib.hid hn1
 have hf6 := (h.obj.alloc (.cells (madeCells #[.bool false] n) 4)).frozen 6
 have hs6 := (box_fr' w (.cells (madeCells #[.bool false] n) 4)).cellS d6
 obtain ⟨L1, g1, ge1, gf1, gl1⟩ := h.model (made_bools w n (by unfold maxLen; omega)) (Nat.le_refl _) ((Fr.refl [] w).alloc _)
 rw [List.length_replicate] at g1 gf1
 obtain ⟨W1, hW1⟩ : ∃ W, (w.alloc (.cells (madeCells #[.bool false] n) 4)).setCell ⟨L.a, 6, none⟩ (.slice (some ⟨w.heap.size, 0, none⟩) n n) = W := ⟨_, rfl⟩
 have HW1 := Lib.hid hW1
 rw [hW1] at g1 gf1
 have G1 := Lib.hid g1
 have GE1 := Lib.hid ge1
 have GF1 := Lib.hid gf1
 have hea : L1.a = L.a := ge1.1
 have hc6 := g1.cells.2.2.2.2.2.2.1
 rw [gl1] at hc6
 simp only [List.length_replicate] at hc6
 have HC6 := Lib.hid hc6
 clear g1 ge1 gf1 gl1 hW1 hn hn1 h ok hea hc6 d6
 go_enter Try.func71, Try.ntmps71
 go_upto_region 1 with fail
 rw [HW1.out]
 clear hmk hw1 hf6 c2 hs6
 have c6 := HC6.out
 go_wp2_with fail
 clear c6
 go_loopg [17] n (fun g x17 wr => ∃ (i : Nat) (L2 : SvL) (ms : List Bool), i + g = n ∧ x17 = .int .i64 i ∧ Hid (ms.length = n) ∧ Hid (∀ j : Nat, j < i → ms[j]! = decide (0 < S.val (j : Int))) ∧ Hid (SvAt wr L2 { S with model := ms }) ∧ Hid (L.ext L2 w) ∧ Hid (Fr (L.own w) w wr))
 case atStart => exact ⟨0, L1, List.replicate n false, by omega, rfl, List.length_replicate, fun j hj => absurd hj (Nat.not_lt_zero _), G1.out, GE1.out, GF1.out⟩
 case round =>
  obtain ⟨i, L2, ms, hi, rfl, HML, HMS, H2, HE2, HF2⟩ := hrel
  have HI := Lib.hid hi
  have hin : i ≤ n := by omega
  have hea : L2.a = L.a := HE2.out.1
  clear hi
  by_cases hlt : i < n
  ·obtain ⟨gp, hgp, sp, fp, h3, hf3⟩ := H2.out.moset (v := i) (by show i < ms.length; rw [HML.out]; exact hlt) (decide (0 < S.val (i : Int)))
   obtain ⟨c0, -, -, -, -, -, c6, -⟩ := H2.out.cells
   rw [hea] at c0 c6
   simp only [HML.out] at c6
   rw [hgp] at c6
   have HC0 := Lib.hid c0
   have HC6' := Lib.hid c6
   have HSP := Lib.hid sp
   have HFP := Lib.hid fp
   have H3 := Lib.hid h3
   have HF3 := Lib.hid hf3
   have hd : decide ((i : Int) < (n : Int)) = true := decide_eq_true (by omega)
   have hnb : n ≤ 262144 := by have := HN.out; omega
   have hlt2 : (i : Int) < (n : Int) := by omega
   obtain ⟨y, hy⟩ : ∃ y, S.T.valF (i : Int) = y := ⟨_, rfl⟩
   have KV := Lib.hid (fun W (hW : Fr [] wr W) => trail_value W L2.tL S.T (H2.out.tr.fr hW (by simp)) (i : Int) (by omega) (by omega) HOK.out.small)
   simp only [hy] at KV
   have HY : Hid (S.val (i : Int) = y) := hy
   rw [HY.out] at H3 HF3
   clear hgp sp fp h3 hf3 c0 c6 hea hy
   go_upto_region 4 with fail
   refine wp_region_noPanic ?_
   refine wp_region_C (fun w' : World => Fr [] wr w') 13 (by kernel_rfl) ((Fr.refl [] wr).drew) (fun hT0 => ?_)
   refine T0 (i := 0) (oi := ?or4u1) (v := ?vr4u1) (by rfl) (by kernel_rfl) (by rfl) ?yr4u1 hT0 ?_
   case yr4u1 => (intro w; go_simp <;> with_reducible rfl)
   try simp only [Act.put, q5, q6, q7]
   refine T0 (i := 1) (oi := ?or4u2) (v := ?vr4u2) (by rfl) (by kernel_rfl) (by rfl) ?yr4u2 (hT0.more 0) ?_
   case yr4u2 => (intro w; go_simp <;> with_reducible rfl)
   try simp only [Act.put, q5, q6, q7]
   refine T0 (i := 2) (oi := ?or4u3) (v := ?vr4u3) (by rfl) (by kernel_rfl) (by rfl) ?yr4u3 ((hT0.more 0).more 1) ?_
   case yr4u3 => (intro w; go_simp <;> with_reducible rfl)
   try simp only [Act.put, q5, q6, q7]
   refine T1 (i := 3) (oi := ?or4u4) (v := ?vr4u4) [3, 13] (by rfl) (by kernel_rfl) (by rfl) ?yr4u4 ((((hT0.more 0).more 1).more 2).resolve_left (by decide)) ?_
   case yr4u4 => (intro w hSw; (have s0 := hSw.cellS HC0.out; have s6 := hSw.cellS HC6'.out); go_simp <;> with_reducible rfl)
   try simp only [Act.put, q5, q6, q7]
   refine T0 (i := 4) (oi := ?or4u5) (v := ?vr4u5) (by rfl) (by kernel_rfl) (by rfl) ?yr4u5 ((((hT0.more 0).more 1).more 2).more 3) ?_
   case yr4u5 => (intro w; go_simp <;> with_reducible rfl)
   try simp only [Act.put, q5, q6, q7]
   refine T0 (i := 5) (oi := ?or4u6) (v := ?vr4u6) (by rfl) (by kernel_rfl) (by rfl) ?yr4u6 (((((hT0.more 0).more 1).more 2).more 3).more 4) ?_
   case yr4u6 => (intro w; go_simp <;> with_reducible rfl)
   try simp only [Act.put, q5, q6, q7]
   refine T0 (i := 6) (oi := ?or4u7) (v := ?vr4u7) (by rfl) (by kernel_rfl) (by rfl) ?yr4u7 ((((((hT0.more 0).more 1).more 2).more 3).more 4).more 5) ?_
   case yr4u7 => (intro w; go_simp <;> with_reducible rfl)
   try simp only [Act.put, q5, q6, q7]
   refine T0 (i := 7) (oi := ?or4u8) (v := ?vr4u8) (by rfl) (by kernel_rfl) (by rfl) ?yr4u8 (((((((hT0.more 0).more 1).more 2).more 3).more 4).more 5).more 6) ?_
   case yr4u8 => (intro w; go_simp <;> with_reducible rfl)
   try simp only [Act.put, q5, q6, q7]
   refine T1 (i := 8) (oi := ?or4u9) (v := ?vr4u9) [8, 13] (by rfl) (by kernel_rfl) (by rfl) ?yr4u9 (((((((((hT0.more 0).more 1).more 2).more 3).more 4).more 5).more 6).more 7).resolve_left (by decide)) ?_
   case yr4u9 => (intro w hSw; (have s0 := hSw.cellS HC0.out; have s6 := hSw.cellS HC6'.out); go_simp <;> with_reducible rfl)
   try simp only [Act.put, q5, q6, q7]
   refine T0 (i := 9) (oi := ?or4u10) (v := ?vr4u10) (by rfl) (by kernel_rfl) (by rfl) ?yr4u10 (((((((((hT0.more 0).more 1).more 2).more 3).more 4).more 5).more 6).more 7).more 8) ?_
   case yr4u10 => (intro w; go_simp <;> with_reducible rfl)
   try simp only [Act.put, q5, q6, q7]
   have hSx := ((((((((((hT0.more 0).more 1).more 2).more 3).more 4).more 5).more 6).more 7).more 8).more 9).resolve_left (by decide)
   refine R1 (i := 10) (o := ?or4u11) (by kernel_rfl) (by rfl) ?_
   intro K hK
   (go_simp; refine (KV.out _ hSx).mono ?_; rintro e w5 ⟨rfl, rfl⟩; dsimp only)
   refine hK.out _ _ (.inr ?_) (fun hT11 => ?_)
   ·exact hSx
   clear hK K
   try simp only [Act.put, q5, q6, q7]
   refine T0 (i := 11) (oi := ?or4u12) (v := ?vr4u12) (by rfl) (by kernel_rfl) (by rfl) ?yr4u12 hT11 ?_
   case yr4u12 => (intro w; go_simp <;> with_reducible rfl)
   try simp only [Act.put, q5, q6, q7]
   refine T0 (i := 12) (oi := ?or4u13) (v := ?vr4u13) (by rfl) (by kernel_rfl) (by rfl) ?yr4u13 (hT11.more 11) ?_
   case yr4u13 => (intro w; go_simp <;> with_reducible rfl)
   try simp only [Act.put, q5, q6, q7]
   have hSx := ((hT11.more 11).more 12).resolve_left (by decide)
   refine R1 (i := 13) (o := ?or4u14) (by kernel_rfl) (by rfl) ?_
   intro K hK
   (have sb := hSx.cellS HSP.out; have fb : World.frozen? _ _ = _ := (World.frozen?_of_block (hSx.block gp (lt_of_cell HSP.out) (by simp))).trans HFP.out; go_simp)
   refine hK.out _ _ (.inl rfl) (fun hT14 => ?_)
   clear hK K
   try simp only [Act.put, q5, q6, q7]
   refine wpAnyC_done (by kernel_rfl) ?_ _
   refine NoPanic.normal ?_
   have h5 := H3.out.keep (Fr.refl [] _).drew
   have f5 := HF3.out.drew
   have HMS2 : Hid (∀ j : Nat, j < i + 1 → (ms.set i (decide (0 < y)))[j]! = decide (0 < S.val (j : Int))) := fun j hj => by
    rw [getB_set]
    by_cases e : i = j
    ·subst e
     rw [if_pos ⟨rfl, by rw [HML.out]; exact hlt⟩, HY.out]
    ·rw [if_neg (fun x => e x.1)]
     exact HMS.out j (by omega)
   obtain ⟨W5, hW5⟩ : ∃ W, ((wr.setCell ⟨gp, i, none⟩ (.bool (decide (0 < y)))).drew) = W := ⟨_, rfl⟩
   rw [hW5] at h5 f5
   have H5 := Lib.hid h5
   have F5 := Lib.hid f5
   try rw [hW5]
   clear h5 f5 hW5
   go_wp2_with fail
   go_roundg (n - (i + 1))
   case measure => have := HI.out; omega
   case rel => exact ⟨i + 1, L2, ms.set i (decide (0 < y)), by omega, by go_num, (by rw [List.length_set]; exact HML.out), HMS2.out, H5.out, HE2.out, SvL.own_then HE2.out HF2.out F5.out⟩
  ·obtain rfl : i = n := by omega
   have hd : decide ((i : Int) < (i : Int)) = false := by simp
   have f14 := H2.out.obj.frozen 14
   rw [hea] at f14
   obtain ⟨-, -, -, -, -, -, -, -, -, -, -, -, -, -, s14⟩ := H2.out.cells
   rw [hea] at s14
   obtain ⟨h3, hf3⟩ := H2.out.setc 14 (.bool true) ({ S with model := ms, has := true } : Sv) rfl ⟨rfl, rfl, rfl, rfl, rfl, rfl, rfl⟩
   rw [hea] at h3 hf3
   have hK : ({ S with model := ms, has := true } : Sv) = S.keep := by
    unfold Sv.keep
    congr 1
    apply List.ext_getElem
    ·rw [HML.out, List.length_map, List.length_range, HN.out]
    ·intro j h1 h2
     have := HMS.out j (by rw [HML.out] at h1; exact h1)
     simp only [List.getElem_map, List.getElem_range]
     rw [← this]
     simp [List.getElem!_eq_getElem?_getD, List.getElem?_eq_getElem h1]
   rw [hK] at h3
   have FF : Hid (SvP (.tuple #[]) S.keep L w (.returned (.tuple #[])) _) := ⟨rfl, L2, h3, HE2.out, SvL.own_then HE2.out HF2.out hf3⟩
   clear h3 hf3 hK
   go_wp2_with fail
   go_end0
   exact FF.out
end Go.Proofs.Ytjchilcpflfcnaa
