/-  -/
import Derived.Test.YtjchilcpflfcnaaSgG
import Derived.Test.YtjchilcpflfcnaaSgJ
import Derived.Test.YtjchilcpflfcnaaSgA
set_option linter.unusedVariables false
set_option linter.unusedSimpArgs false
namespace Go.Proofs.Ytjchilcpflfcnaa
open Go.RowKit
theorem TRep.canon {T : Tr} {vars : Nat} {R : List St} {d : Nat} (h : TRep T vars R d) : R = T.lits.map fun x => (⟨x, T.levB (tv x), T.reaB (tv x)⟩ : St) := by
 rw [h.lits, List.map_map]
 have : ∀ e ∈ R, ((fun x => (⟨x, T.levB (tv x), T.reaB (tv x)⟩ : St)) ∘ fun e : St => e.x) e = e := fun e he => by
  simp only [Function.comp_apply]
  rw [h.levB, h.reaB, look_mem h.nd he]
 exact (List.map_id R).symm.trans (List.map_congr_left fun e he => (this e he).symm)
namespace Sv
def R (S : Sv) : List St := S.T.lits.map fun x => (⟨x, S.T.levB (tv x), S.T.reaB (tv x)⟩ : St)
theorem Ok.rep {S : Sv} {m : Nat} (ok : S.Ok m) : TRep S.T S.vars S.R S.T.levels.length := by
 obtain ⟨R, hR⟩ := ok.tr
 have := hR.canon
 unfold Sv.R
 rw [← this]
 exact hR
theorem R_len (S : Sv) : S.R.length = S.T.lits.length := by simp [R]
theorem R_of {S : Sv} {R : List St} {d : Nat} (h : TRep S.T S.vars R d) : S.R = R := h.canon.symm
theorem R_congr {S S' : Sv} (h : S'.T = S.T) : S'.R = S.R := by unfold R; rw [h]
theorem val_pos {S : Sv} {m : Nat} (ok : S.Ok m) (x : Int) : 0 < S.val x ↔ ∃ e ∈ S.R, e.x = x := by
 have h := ok.rep
 unfold val
 rw [h.valF]
 cases hk : look S.R (tv x) with
 | none =>
  simp only [Int.lt_irrefl, false_iff]
  rintro ⟨e, he, rfl⟩
  exact look_none hk e he rfl
 | some e =>
  obtain ⟨h1, h2⟩ := look_some hk
  simp only
  constructor
  ·intro h3
   split at h3
   ·rename_i h4; exact ⟨e, h1, h4⟩
   ·omega
  ·rintro ⟨e', he', rfl⟩
   rw [look_mem h.nd he'] at hk
   cases hk
   rw [if_pos rfl]
   omega
theorem val_range {S : Sv} {m : Nat} (ok : S.Ok m) (x : Int) : S.val x = 0 ∨ S.val x = 1 ∨ S.val x = -1 := by
 have h := ok.rep
 unfold val
 rw [h.valF]
 cases look S.R (tv x) with
 | none => exact .inl rfl
 | some e =>
  simp only
  split
  ·exact .inr (.inl rfl)
  ·exact .inr (.inr rfl)
theorem tv_same {x y : Int} (h : tv x = tv y) (h1 : 1 ≤ tv x) : x = y ∨ x = -y := by
 unfold tv at h h1
 split at h1
 ·omega
 ·rename_i e1
  rw [if_neg e1] at h
  split at h
  ·split at h
   ·omega
   ·split at h <;> omega
  ·split at h
   ·omega
   ·split at h <;> omega
theorem tv_opp (x : Int) (h : 1 ≤ tv x) (h2 : tv x ≤ 4611686018427387904) : tv (-x) = tv x := by
 have h3 : x = tv x ∨ x = -tv x := by
  unfold tv at *
  split at h
  ·omega
  ·rename_i e1
   rw [if_neg e1]
   split at h
   ·rename_i e2; rw [if_pos e2]; omega
   ·rename_i e2; rw [if_neg e2]; omega
 generalize tv x = t at *
 rcases h3 with rfl | rfl
 ·rw [tv_neg (by omega) (by omega)]; omega
 ·rw [Int.neg_neg, tv_nat (by omega)]
theorem R_rng {S : Sv} {m : Nat} (ok : S.Ok m) {e : St} (he : e ∈ S.R) : 1 ≤ tv e.x ∧ tv e.x ≤ S.vars ∧ 0 ≤ e.l ∧ e.l ≤ S.T.levels.length := by
 have := ok.rep.bound e he
 exact ⟨this.2.2.1, this.2.2.2, this.1, this.2.1⟩
theorem val_neg {S : Sv} {m : Nat} (ok : S.Ok m) {x : Int} : S.val x < 0 ↔ ∃ e ∈ S.R, e.x = -x := by
 have h := ok.rep
 have hvl := ok.vl
 have hop : ∀ e ∈ S.R, e.x = -x → tv e.x = tv x := fun e he hx => by
  have hb := h.bound e he
  have := tv_opp e.x hb.2.2.1 (by omega)
  rw [← this, hx, Int.neg_neg]
 unfold val
 rw [h.valF]
 cases hk : look S.R (tv x) with
 | none =>
  simp only [Int.lt_irrefl, false_iff]
  rintro ⟨e, he, hx⟩
  exact look_none hk e he (hop e he hx)
 | some e =>
  obtain ⟨h1, h2⟩ := look_some hk
  have hb := h.bound e h1
  simp only
  constructor
  ·intro h3
   split at h3
   ·omega
   ·rename_i h4
    rcases tv_same h2 hb.2.2.1 with h5 | h5
    ·exact absurd h5 h4
    ·exact ⟨e, h1, h5⟩
  ·rintro ⟨e', he', hx⟩
   have h7 := hop e' he' hx
   have h8 := look_mem h.nd he'
   rw [h7, hk] at h8
   cases h8
   rw [if_neg (by
    intro h9
    rw [hx] at h9
    have h10 : x = 0 := by omega
    have h11 := hb.2.2.1
    rw [hx, h10, tv_nat (by omega)] at h11
    omega)]
   omega
theorem lev_of {S : Sv} {m : Nat} (ok : S.Ok m) {e : St} (he : e ∈ S.R) : S.T.levB (tv e.x) = e.l ∧ S.T.reaB (tv e.x) = e.r := by
 have h := ok.rep
 rw [h.levB, h.reaB, look_mem h.nd he]
 exact ⟨rfl, rfl⟩
theorem R_put {S : Sv} {m : Nat} (ok : S.Ok m) {x r : Int} (hb : S.T.putB x = true) : (S.put x r).R = S.R ++ [⟨x, S.T.levels.length, r⟩] := by
 have h := ok.rep.put x r hb
 have e : (S.put x r).T = S.T.putF x r := by unfold put; simp only; rw [if_pos hb]
 have : TRep (S.put x r).T (S.put x r).vars (S.R ++ [⟨x, S.T.levels.length, r⟩]) S.T.levels.length := by
  rw [e]; exact h
 exact R_of this
theorem putB_of {S : Sv} {m : Nat} (ok : S.Ok m) {x : Int} (h1 : 1 ≤ tv x) (h2 : tv x ≤ S.vars) (hv : S.val x = 0) : S.T.putB x = true := by
 have h := ok.rep
 rw [h.putB]
 simp only [Bool.and_eq_true, decide_eq_true_eq, Option.isNone_iff_eq_none]
 refine ⟨⟨h1, h2⟩, ?_⟩
 unfold val at hv
 rw [h.valF] at hv
 cases hk : look S.R (tv x) with
 | none => rfl
 | some e =>
  rw [hk] at hv
  simp only at hv
  split at hv <;> omega
theorem R_deep {S : Sv} {m : Nat} (ok : S.Ok m) : S.deep.R = S.R := by
 have h := ok.rep.deep
 exact R_of (S := S.deep) h
theorem R_back {S : Sv} {m : Nat} (ok : S.Ok m) (level : Nat) (hl : level < S.T.levels.length) : (S.back level).R = S.R.filter (fun e : St => decide (e.l ≤ (level : Int))) := by
 have h := ok.rep.back level hl
 have hq := backL_same (level : Int) S.T.lits.reverse S m ok
 have e : (S.back level).T = S.T.backF level ∧ (S.back level).vars = S.vars := by
  unfold back
  rw [if_neg (by omega)]
  exact ⟨by simp only; rw [hq.2.1], hq.2.2.2.1⟩
 refine R_of (d := level) ?_
 rw [e.1, e.2]
 exact h
end Sv
def Tru (a : Nat → Bool) (x : Int) : Prop := (a x.natAbs = true ↔ 0 < x)
theorem Tru.neg {a : Nat → Bool} {x : Int} (h : x ≠ 0) : Tru a (-x) ↔ ¬ Tru a x := by
 unfold Tru
 have h2 : (0 < -x) ↔ ¬ 0 < x := by omega
 rw [Int.natAbs_neg, h2]
 cases a x.natAbs <;> by_cases hp : 0 < x <;> simp [hp]
def Sat1 (a : Nat → Bool) (l : List Int) : Prop := ∃ y ∈ l, Tru a y
namespace Sv
def Rsn (S : Sv) : Prop := ∀ A e B, S.R = A ++ e :: B → e.r ≠ 0 → ∃ n : Nat, e.r = (n : Int) + 1 ∧ ∃ ls, (S.rc n).lits = e.x :: ls ∧ ∀ y ∈ ls, ∃ e' ∈ A, e'.x = -y
def Dec (S : Sv) : Prop := ∀ A e B, S.R = A ++ e :: B → e.r = 0 → e.l = 0 ∨ ∀ e' ∈ A, e'.l < e.l
def Hd (S : Sv) : Prop := ∀ e ∈ S.R.drop S.head, e.l = S.T.levels.length
def Cfl (S : Sv) (n : Nat) : Prop := (∀ y ∈ (S.rc n).lits, ∃ e ∈ S.R, e.x = -y) ∧ ∃ y ∈ (S.rc n).lits, ∃ e ∈ S.R, e.x = -y ∧ e.l = S.T.levels.length
def Good (S : Sv) (a : Nat → Bool) : Prop := (∀ n : Nat, (S.rc n).lits ≠ [] → Sat1 a (S.rc n).lits) ∧ ∀ e ∈ S.R, e.l = 0 → Tru a e.x
def cnt (d : Int) (seen : List Int) (Q : List St) : Nat := Q.countP fun e => decide (e.l = d) && decide (tv e.x ∈ seen)
theorem cnt_none {d : Int} {seen : List Int} {Q : List St} {v : Int} (h : ∀ e ∈ Q, tv e.x = v → e.l ≠ d) : cnt d (v :: seen) Q = cnt d seen Q := by
 unfold cnt
 apply List.countP_congr
 intro e he
 by_cases hv : tv e.x = v
 ·simp [h e he hv]
 ·simp [hv]
theorem cnt_one {d : Int} {seen : List Int} {v : Int} : ∀ {Q : List St}, (Q.map fun e : St => tv e.x).Nodup → v ∉ seen → (∃ e ∈ Q, tv e.x = v ∧ e.l = d) → cnt d (v :: seen) Q = cnt d seen Q + 1
 | [], _, _, h => by obtain ⟨e, he, _⟩ := h; cases he
 | e :: Q, hn, hv, h => by
  rw [List.map_cons, List.nodup_cons] at hn
  by_cases he : tv e.x = v
  ·have hl : e.l = d := by
    obtain ⟨e', he', h1, h2⟩ := h
    rcases List.mem_cons.1 he' with rfl | he'
    ·exact h2
    ·exact absurd (by rw [he, ← h1]; exact List.mem_map_of_mem (f := fun e : St => tv e.x) he') hn.1
   have h0 : cnt d (v :: seen) Q = cnt d seen Q := cnt_none (fun e' he' h1 => absurd (by rw [he, ← h1]; exact List.mem_map_of_mem (f := fun e : St => tv e.x) he') hn.1)
   unfold cnt at *
   rw [List.countP_cons, List.countP_cons, h0]
   simp [hl, he, hv]
  ·have ih := cnt_one (d := d) hn.2 hv (by
    obtain ⟨e', he', h1, h2⟩ := h
    rcases List.mem_cons.1 he' with rfl | he'
    ·exact absurd h1 he
    ·exact ⟨e', he', h1, h2⟩)
   unfold cnt at *
   rw [List.countP_cons, List.countP_cons, ih]
   simp only [List.mem_cons, he, false_or]
   omega
theorem cnt_pos {d : Int} {seen : List Int} {Q : List St} (h : 0 < cnt d seen Q) : ∃ e ∈ Q, e.l = d ∧ tv e.x ∈ seen := by
 unfold cnt at h
 rw [List.countP_pos_iff] at h
 obtain ⟨e, he, h1⟩ := h
 simp only [Bool.and_eq_true, decide_eq_true_eq] at h1
 exact ⟨e, he, h1⟩
structure LI (S : Sv) (d : Int) (G : Gr) (Q D : List St) : Prop where
 split : S.R = Q.reverse ++ D
 T : G.S.T = S.T
 lits : ∀ m, (G.S.rc m).lits = (S.rc m).lits
 opn : G.opn = (cnt d G.seen Q : Nat)
 lrn : ∀ y ∈ G.learn.tail, tv y ∈ G.seen ∧ ∃ e ∈ S.R, e.x = -y ∧ 1 ≤ e.l ∧ e.l < d
 low : ∀ e ∈ S.R, tv e.x ∈ G.seen → e.l < d → -e.x ∈ G.learn.tail
 nd : (G.learn.tail.map tv).Nodup
 l0 : 0 < G.learn.length
 pos : ∀ e ∈ S.R, tv e.x ∈ G.seen → 1 ≤ e.l
theorem R_uniq {S : Sv} {m : Nat} (ok : S.Ok m) {e e' : St} (h : e ∈ S.R) (h' : e' ∈ S.R) (ht : tv e.x = tv e'.x) : e = e' := by
 have h1 := look_mem ok.rep.nd h
 have h2 := look_mem ok.rep.nd h'
 rw [ht, h2] at h1
 cases h1
 rfl
theorem opp_tv {S : Sv} {m : Nat} (ok : S.Ok m) {e : St} (h : e ∈ S.R) {y : Int} (hy : e.x = -y) : tv y = tv e.x ∧ y = -e.x := by
 have hb := R_rng ok h
 have hv := ok.vl
 have : y = -e.x := by omega
 exact ⟨by rw [this]; exact tv_opp _ hb.1 (by omega), this⟩
theorem LI.meet {S : Sv} {m : Nat} (ok : S.Ok m) {G : Gr} {Q D : List St} (h : LI S S.T.levels.length G Q D) {y : Int} {e : St} (he : e ∈ Q) (hy : e.x = -y) :
  LI S S.T.levels.length (meet G y) Q D ∧ (∀ v ∈ G.seen, v ∈ (meet G y).seen) ∧ (e.l ≤ 0 ∨ tv y ∈ (meet G y).seen) ∧ (∀ z ∈ G.learn.tail, z ∈ (meet G y).learn.tail) := by
 have hR : e ∈ S.R := by rw [h.split]; exact List.mem_append_left _ (List.mem_reverse.2 he)
 obtain ⟨ht, hy'⟩ := opp_tv ok hR hy
 have hl := (lev_of ok hR).1
 have hrg := R_rng ok hR
 by_cases h1 : tv y ∈ G.seen ∨ G.S.T.levB (tv y) ≤ 0
 ·rw [meet_no h1]
  refine ⟨h, fun v hv => hv, ?_, fun z hz => hz⟩
  rcases h1 with h1 | h1
  ·exact .inr h1
  ·left
   rw [h.T, ht, hl] at h1
   exact h1
 ·have hns : tv y ∉ G.seen := fun e => h1 (.inl e)
  have hp : 1 ≤ e.l := by
   have : ¬ G.S.T.levB (tv y) ≤ 0 := fun e => h1 (.inr e)
   rw [h.T, ht, hl] at this
   omega
  have hpos : ∀ e' ∈ S.R, tv e'.x ∈ tv y :: G.seen → 1 ≤ e'.l := fun e' he' hs => by
   rcases List.mem_cons.1 hs with hs | hs
   ·rw [ht] at hs
    rw [R_uniq ok he' hR hs]
    exact hp
   ·exact h.pos e' he' hs
  have hndQ : (Q.map fun e : St => tv e.x).Nodup := by
   have h5 := ok.rep.nd
   rw [h.split, List.map_append, List.nodup_append, List.map_reverse] at h5
   have h6 := h5.1
   unfold List.Nodup at h6 ⊢
   rw [List.pairwise_reverse] at h6
   exact h6.imp (fun h e => h e.symm)
  by_cases h2 : G.S.T.levB (tv y) = G.S.T.levels.length
  ·rw [meet_open h1 h2]
   have hel : e.l = S.T.levels.length := by rw [h.T, ht, hl] at h2; exact h2
   refine ⟨⟨h.split, h.T, h.lits, ?_, fun z hz => ⟨List.mem_cons_of_mem _ (h.lrn z hz).1, (h.lrn z hz).2⟩, fun e' he' hs hlt => ?_, h.nd, h.l0, hpos⟩, fun v hv => List.mem_cons_of_mem _ hv, .inr List.mem_cons_self, fun z hz => hz⟩
   ·show G.opn + 1 = _
    rw [cnt_one hndQ hns ⟨e, he, ht.symm, hel⟩, h.opn]
    rfl
   ·rcases List.mem_cons.1 hs with hs | hs
    ·rw [ht] at hs
     rw [R_uniq ok he' hR hs] at hlt
     omega
    ·exact h.low e' he' hs hlt
  ·rw [meet_low h1 h2]
   have hel : e.l ≠ S.T.levels.length := by rw [h.T, ht, hl] at h2; exact h2
   have htl : (G.learn ++ [y]).tail = G.learn.tail ++ [y] := tail_app h.l0
   refine ⟨⟨h.split, h.T, h.lits, ?_, fun z hz => ?_, fun e' he' hs hlt => ?_, ?_, by simp, hpos⟩, fun v hv => List.mem_cons_of_mem _ hv, .inr List.mem_cons_self, fun z hz => ?_⟩
   ·show G.opn = _
    rw [cnt_none, h.opn]
    intro e' he' hs
    rw [ht] at hs
    rw [R_uniq ok (by rw [h.split]; exact List.mem_append_left _ (List.mem_reverse.2 he')) hR hs]
    exact hel
   ·have hz : z ∈ (G.learn ++ [y]).tail := hz
    rw [htl] at hz
    rcases List.mem_append.1 hz with hz | hz
    ·exact ⟨List.mem_cons_of_mem _ (h.lrn z hz).1, (h.lrn z hz).2⟩
    ·rw [List.mem_singleton.1 hz]
     exact ⟨List.mem_cons_self, e, hR, hy, hp, by omega⟩
   ·show -e'.x ∈ (G.learn ++ [y]).tail
    rw [htl]
    rcases List.mem_cons.1 hs with hs | hs
    ·rw [ht] at hs
     rw [R_uniq ok he' hR hs, ← hy']
     simp
    ·exact List.mem_append_left _ (h.low e' he' hs hlt)
   ·show ((G.learn ++ [y]).tail.map tv).Nodup
    rw [htl, List.map_append, List.nodup_append]
    refine ⟨h.nd, by simp, fun a ha b hb => ?_⟩
    rw [List.mem_map] at ha
    obtain ⟨z, hz, rfl⟩ := ha
    simp only [List.map_cons, List.map_nil, List.mem_singleton] at hb
    rw [hb]
    intro e9
    exact hns (by rw [← e9]; exact (h.lrn z hz).1)
   ·show z ∈ (G.learn ++ [y]).tail
    rw [htl]
    exact List.mem_append_left _ hz
theorem LI.meets {S : Sv} {m : Nat} (ok : S.Ok m) {Q D : List St} (skip : Int) : ∀ (ls : List Int) (G : Gr), LI S S.T.levels.length G Q D → (∀ y ∈ ls, y ≠ skip → ∃ e ∈ Q, e.x = -y) →
  LI S S.T.levels.length (meets skip ls G) Q D ∧ (∀ v ∈ G.seen, v ∈ (meets skip ls G).seen) ∧ (∀ y ∈ ls, y ≠ skip → ∀ e ∈ Q, e.x = -y → e.l ≤ 0 ∨ tv y ∈ (meets skip ls G).seen) ∧ (∀ z ∈ G.learn.tail, z ∈ (meets skip ls G).learn.tail)
 | [], G, h, _ => ⟨h, fun v hv => hv, (fun y hy => by cases hy), fun z hz => hz⟩
 | y :: r, G, h, hl => by
  rw [Sv.meets]
  by_cases hs : y ≠ skip
  ·rw [if_pos hs]
   obtain ⟨e, he, hy⟩ := hl y List.mem_cons_self hs
   obtain ⟨h1, h2, h3, h4⟩ := h.meet ok he hy
   obtain ⟨k1, k2, k3, k4⟩ := LI.meets ok skip r _ h1 (fun z hz => hl z (List.mem_cons_of_mem _ hz))
   refine ⟨k1, fun v hv => k2 v (h2 v hv), fun z hz hzs e' he' hz' => ?_, fun z hz => k4 z (h4 z hz)⟩
   rcases List.mem_cons.1 hz with rfl | hz
   ·have : e' = e := by
     have h5 := opp_tv ok (by rw [h.split]; exact List.mem_append_left _ (List.mem_reverse.2 he)) hy
     have h6 := opp_tv ok (by rw [h.split]; exact List.mem_append_left _ (List.mem_reverse.2 he')) hz'
     exact R_uniq ok (by rw [h.split]; exact List.mem_append_left _ (List.mem_reverse.2 he')) (by rw [h.split]; exact List.mem_append_left _ (List.mem_reverse.2 he)) (h6.1.symm.trans h5.1)
    rw [this]
    exact h3.imp id (fun h5 => k2 _ h5)
   ·exact k3 z hz hzs e' he' hz'
  ·rw [if_neg hs]
   obtain ⟨k1, k2, k3, k4⟩ := LI.meets ok skip r _ h (fun z hz => hl z (List.mem_cons_of_mem _ hz))
   refine ⟨k1, k2, fun z hz hzs => ?_, k4⟩
   rcases List.mem_cons.1 hz with rfl | hz
   ·exact absurd hzs hs
   ·exact k3 z hz hzs
def Sm (d : Int) (G : Gr) (Q : List St) (a : Nat → Bool) : Prop := (∃ y ∈ G.learn.tail, Tru a y) ∨ ∃ e ∈ Q, e.l = d ∧ tv e.x ∈ G.seen ∧ ¬ Tru a e.x
structure Done (S : Sv) (GE : Gr) (xe : Int) : Prop where
 T : GE.S.T = S.T
 lits : ∀ m, (GE.S.rc m).lits = (S.rc m).lits
 lrn : ∀ y ∈ GE.learn.tail, ∃ e ∈ S.R, e.x = -y ∧ 1 ≤ e.l ∧ e.l < S.T.levels.length
 nd : (GE.learn.tail.map tv).Nodup
 l0 : 0 < GE.learn.length
 top : ∃ e ∈ S.R, e.x = xe ∧ e.l = S.T.levels.length
 sem : ∀ a, S.Good a → (∃ y ∈ GE.learn.tail, Tru a y) ∨ ¬ Tru a xe
theorem learnL_spec {S : Sv} {m : Nat} (ok : S.Ok m) (hr : S.Rsn) (hd : S.Dec) : ∀ (f : Nat) (G : Gr) (n : Nat) (skip : Int) (Q D : List St), Q.length < f → LI S S.T.levels.length G Q D →
  (∀ y ∈ (S.rc n).lits, y ≠ skip → ∃ e ∈ Q, e.x = -y) → (0 < cnt S.T.levels.length G.seen Q ∨ (0 < S.T.levels.length ∧ ∃ y ∈ (S.rc n).lits, y ≠ skip ∧ ∃ e ∈ Q, e.x = -y ∧ e.l = S.T.levels.length)) →
  (∀ a, S.Good a → Sm S.T.levels.length G Q a ∨ ∃ y ∈ (S.rc n).lits, y ≠ skip ∧ Tru a y) →
  ∃ GE xe, learnL f G n skip (Q.map (·.x)) = some (GE, xe) ∧ Done S GE xe
 | 0, _, _, _, _, _, h, _, _, _, _ => absurd h (Nat.not_lt_zero _)
 | f + 1, G, n, skip, Q, D, hf, h, hc, hp, hs => by
  rw [learnL_eq]
  have e1 : learn1 G (n : Int) skip = meets skip (S.rc n).lits { G with S := G.S.acted n } := by
   unfold learn1
   rw [if_pos (by omega), Int.toNat_natCast, h.lits]
  have h0 : LI S S.T.levels.length { G with S := G.S.acted n } Q D := ⟨h.split, h.T, fun k => (rc_acted G.S n k).1.trans (h.lits k), h.opn, h.lrn, h.low, h.nd, h.l0, h.pos⟩
  obtain ⟨g1, g2, g3, g4⟩ := h0.meets ok skip (S.rc n).lits _ hc
  rw [e1]
  generalize meets skip (S.rc n).lits { G with S := G.S.acted n } = G1 at g1 g2 g3 g4
  have hmono : ∀ (A : List St), cnt S.T.levels.length G.seen A ≤ cnt S.T.levels.length G1.seen A := fun A => by
   unfold cnt
   apply List.countP_mono_left
   intro e _ h5
   simp only [Bool.and_eq_true, decide_eq_true_eq] at h5 ⊢
   exact ⟨h5.1, g2 _ h5.2⟩
  have hpos : 0 < cnt S.T.levels.length G1.seen Q := by
   rcases hp with hp | ⟨hd0, y, hy, hys, e, he, hye, hel⟩
   ·have := hmono Q; omega
   ·unfold cnt
    rw [List.countP_pos_iff]
    refine ⟨e, he, ?_⟩
    simp only [Bool.and_eq_true, decide_eq_true_eq]
    refine ⟨hel, ?_⟩
    have h5 := g3 y hy hys e he hye
    rw [(opp_tv ok (by rw [h.split]; exact List.mem_append_left _ (List.mem_reverse.2 he)) hye).1] at h5
    rcases h5 with h5 | h5
    ·omega
    ·exact h5
  have hsem : ∀ a, S.Good a → Sm S.T.levels.length G1 Q a := fun a ha => by
   rcases hs a ha with h5 | ⟨y, hy, hys, hyt⟩
   ·rcases h5 with ⟨y, hy, hyt⟩ | ⟨e, he, hel, hes, het⟩
    ·exact .inl ⟨y, g4 y hy, hyt⟩
    ·exact .inr ⟨e, he, hel, g2 _ hes, het⟩
   ·obtain ⟨e, he, hye⟩ := hc y hy hys
    have hR : e ∈ S.R := by rw [h.split]; exact List.mem_append_left _ (List.mem_reverse.2 he)
    obtain ⟨ht, hy'⟩ := opp_tv ok hR hye
    have hrg := R_rng ok hR
    have hne : e.x ≠ 0 := tv_pos hrg.1
    have hef : ¬ Tru a e.x := by
     have := (Tru.neg (a := a) hne).1 (by rw [← hy']; exact hyt)
     exact this
    rcases g3 y hy hys e he hye with h5 | h5
    ·exact absurd (ha.2 e hR (by omega)) hef
    ·rw [ht] at h5
     by_cases hel : e.l < S.T.levels.length
     ·left
      have := g1.low e hR h5 hel
      rw [← hy'] at this
      exact ⟨y, this, hyt⟩
     ·exact .inr ⟨e, he, by omega, h5, hef⟩
  -- the last one that was seen
  obtain ⟨em, hem, heml, hems⟩ := cnt_pos hpos
  have hex : ∃ P e0 Q', Q = P ++ e0 :: Q' ∧ (∀ e ∈ P, tv e.x ∉ G1.seen) ∧ tv e0.x ∈ G1.seen := by
   clear hmono hpos hsem hs hp hc h0 g1 g3 g4 e1 hf h heml
   induction Q with
   | nil => cases hem
   | cons e Q ih =>
    by_cases he : tv e.x ∈ G1.seen
    ·exact ⟨[], e, Q, rfl, (fun _ h => by cases h), he⟩
    ·rcases List.mem_cons.1 hem with rfl | hem
     ·exact absurd hems he
     ·obtain ⟨P, e0, Q', h1, h2, h3⟩ := ih hem
      exact ⟨e :: P, e0, Q', by rw [h1]; rfl, fun e' he' => by
       rcases List.mem_cons.1 he' with rfl | he'
       ·exact he
       ·exact h2 e' he', h3⟩
  obtain ⟨P, e0, Q', hQ, hP, he0⟩ := hex
  have hdw : (Q.map (·.x)).dropWhile (fun x => decide (tv x ∉ G1.seen)) = e0.x :: Q'.map (·.x) := by
   rw [hQ, List.map_append, List.map_cons]
   clear hQ
   induction P with
   | nil => rw [List.map_nil, List.nil_append, List.dropWhile_cons, if_neg (by simpa using he0)]
   | cons e P ih =>
    rw [List.map_cons, List.cons_append, List.dropWhile_cons, if_pos (by simpa using hP e List.mem_cons_self)]
    exact ih (fun e' he' => hP e' (List.mem_cons_of_mem _ he'))
  have hR0 : S.R = Q'.reverse ++ e0 :: (P.reverse ++ D) := by
   rw [h.split, hQ]
   simp
  have he0R : e0 ∈ S.R := by rw [hR0]; simp
  have hsort := ok.rep.sorted
  rw [hR0] at hsort
  have hle0 : ∀ e ∈ Q', e.l ≤ e0.l := fun e he => (List.pairwise_append.1 hsort).2.2 e (List.mem_reverse.2 he) e0 List.mem_cons_self
  have he0l : e0.l = S.T.levels.length := by
   have h5 := (R_rng ok he0R).2.2.2
   rw [hQ] at hem
   rcases List.mem_append.1 hem with h6 | h6
   ·exact absurd hems (hP em h6)
   ·rcases List.mem_cons.1 h6 with rfl | h6
    ·exact heml
    ·have := hle0 em h6
     omega
  have hcnt : cnt S.T.levels.length G1.seen Q = cnt S.T.levels.length G1.seen Q' + 1 := by
   have hP0 : cnt S.T.levels.length G1.seen P = 0 := by
    unfold cnt
    rw [List.countP_eq_zero]
    intro e he
    simp [hP e he]
   rw [hQ]
   unfold cnt at *
   rw [List.countP_append, hP0, List.countP_cons]
   simp [he0l, he0]
  have hopn : G1.opn - 1 = (cnt S.T.levels.length G1.seen Q' : Nat) := by rw [g1.opn, hcnt]; omega
  have hsem2 : ∀ a, S.Good a → (∃ y ∈ G1.learn.tail, Tru a y) ∨ (¬ Tru a e0.x) ∨ ∃ e ∈ Q', e.l = S.T.levels.length ∧ tv e.x ∈ G1.seen ∧ ¬ Tru a e.x := fun a ha => by
   rcases hsem a ha with h5 | ⟨e, he, hel, hes, het⟩
   ·exact .inl h5
   ·rw [hQ] at he
    rcases List.mem_append.1 he with h6 | h6
    ·exact absurd hes (hP e h6)
    ·rcases List.mem_cons.1 h6 with rfl | h6
     ·exact .inr (.inl het)
     ·exact .inr (.inr ⟨e, h6, hel, hes, het⟩)
  by_cases hz : cnt S.T.levels.length G1.seen Q' = 0
  ·refine ⟨{ G1 with opn := G1.opn - 1 }, e0.x, ?_, ⟨g1.T, g1.lits, fun y hy => (g1.lrn y hy).2, g1.nd, g1.l0, ⟨e0, he0R, rfl, he0l⟩, fun a ha => ?_⟩⟩
   ·unfold learn2
    rw [hdw]
    simp only
    rw [if_pos (by rw [hopn, hz]; rfl)]
   ·rcases hsem2 a ha with h5 | h5 | ⟨e, he, hel, hes, _⟩
    ·exact .inl h5
    ·exact .inr h5
    ·exfalso
     unfold cnt at hz
     rw [List.countP_eq_zero] at hz
     exact hz e he (by simp [hel, hes])
  ·obtain ⟨eb, heb, hebl, _⟩ := cnt_pos (Nat.pos_of_ne_zero hz)
   have hr0 : e0.r ≠ 0 := fun h5 => by
    rcases hd _ _ _ hR0 h5 with h6 | h6
    ·have := g1.pos e0 he0R he0
     omega
    ·have := h6 eb (List.mem_reverse.2 heb)
     omega
   obtain ⟨n', hn', ls, hls, hlf⟩ := hr _ _ _ hR0 hr0
   have hrea := (lev_of ok he0R).2
   have hlits' : ∀ y ∈ (S.rc n').lits, y ≠ e0.x → ∃ e ∈ Q', e.x = -y := fun y hy hne => by
    rw [hls] at hy
    rcases List.mem_cons.1 hy with rfl | hy
    ·exact absurd rfl hne
    ·obtain ⟨e', he', h5⟩ := hlf y hy
     exact ⟨e', List.mem_reverse.1 he', h5⟩
   have g5 : LI S S.T.levels.length { G1 with opn := G1.opn - 1 } Q' (e0 :: (P.reverse ++ D)) := ⟨hR0, g1.T, g1.lits, hopn, g1.lrn, g1.low, g1.nd, g1.l0, g1.pos⟩
   obtain ⟨GE, xe, k1, k2⟩ := learnL_spec ok hr hd f { G1 with opn := G1.opn - 1 } n' e0.x Q' (e0 :: (P.reverse ++ D)) (by rw [hQ] at hf; simp at hf; omega) g5 hlits' (.inl (Nat.pos_of_ne_zero hz)) (fun a ha => by
    rcases hsem2 a ha with h5 | h5 | h5
    ·exact .inl (.inl h5)
    ·right
     obtain ⟨y, hy, hyt⟩ := ha.1 n' (by rw [hls]; simp)
     exact ⟨y, hy, fun e9 => h5 (e9 ▸ hyt), hyt⟩
    ·exact .inl (.inr h5))
   refine ⟨GE, xe, ?_, k2⟩
   unfold learn2
   rw [hdw]
   simp only
   rw [if_neg (by rw [hopn]; omega), g1.T, hrea, hn', show (n' : Int) + 1 - 1 = (n' : Int) from by omega]
   exact k1
end Sv
theorem getE {l : List Int} {i : Nat} (h : i < l.length) : l[i]! = l[i] := by simp only [List.getElem!_eq_getElem?_getD, List.getElem?_eq_getElem h, Option.getD_some]
theorem swp2_perm {l : List Int} {i j : Nat} (hi : i < l.length) (hj : j < l.length) : (swp2 l i j).Perm l := by
 unfold swp2
 rw [getE hi, getE hj]
 exact List.set_set_perm hi hj
theorem second_spec {T : Tr} : ∀ (f k : Nat) (l : List Int) (lev : Int), l.length ≤ f + k → 1 ≤ k → (0 < lev → T.levB (tv l[1]!) = lev) → (∀ j, 1 ≤ j → j < k → j < l.length → T.levB (tv l[j]!) ≤ lev) →
  (Sv.second T f k l lev).1.Perm l ∧ (Sv.second T f k l lev).1[0]! = l[0]! ∧ (0 < (Sv.second T f k l lev).2 → T.levB (tv (Sv.second T f k l lev).1[1]!) = (Sv.second T f k l lev).2) ∧ (∀ j, 1 ≤ j → j < l.length → T.levB (tv (Sv.second T f k l lev).1[j]!) ≤ (Sv.second T f k l lev).2)
 | 0, k, l, lev, hf, hk, h1, h2 => ⟨List.Perm.refl _, rfl, h1, fun j hj hl => h2 j hj (by omega) hl⟩
 | f + 1, k, l, lev, hf, hk, h1, h2 => by
  rw [Sv.second]
  by_cases hkl : k < l.length
  ·rw [if_pos hkl]
   by_cases hv : lev < T.levB (tv l[k]!)
   ·rw [if_pos hv]
    have hg := fun j (hj : j < l.length) => swp2_get (l := l) (i := 1) (j := k) (k := j) (by omega) hkl hj
    have ih := second_spec (T := T) f (k + 1) (swp2 l 1 k) (T.levB (tv l[k]!)) (by rw [swp2_len]; omega) (by omega) (fun _ => by
     rw [hg 1 (by omega)]
     split
     ·rename_i e; rw [← e]
     ·rw [if_pos rfl]) (fun j hj hj2 hj3 => by
     rw [swp2_len] at hj3
     rw [hg j hj3]
     split
     ·by_cases e1 : 1 = k
      ·rw [e1]; exact Int.le_refl _
      ·have := h2 1 (by omega) (by omega) (by omega); omega
     ·split
      ·exact Int.le_refl _
      ·have := h2 j hj (by omega) hj3; omega)
    rw [swp2_len] at ih
    refine ⟨ih.1.trans (swp2_perm (by omega) hkl), ?_, ih.2.2.1, ih.2.2.2⟩
    rw [ih.2.1, hg 0 (by omega), if_neg (by omega), if_neg (by omega)]
   ·rw [if_neg hv]
    exact second_spec f (k + 1) l lev (by omega) (by omega) h1 (fun j hj hj2 hj3 => by
     by_cases e : j = k
     ·rw [e]; omega
     ·exact h2 j hj (by omega) hj3)
  ·rw [if_neg hkl]
   exact ⟨List.Perm.refl _, rfl, h1, fun j hj hl => h2 j hj (by omega) hl⟩
namespace Sv
def skel (S : Sv) : Tr × Nat × List (List Nat) × List Bool × List Bool × List Int × Nat × Nat × Nat × Int × Nat × Bool × Bool × List (List Int × Bool) :=
 (S.T, S.vars, S.watch, S.phase, S.model, S.core, S.head, S.used, S.bump, S.many, S.limit, S.bad, S.has, S.list.map fun c => (c.lits, c.lrn))
theorem skel_acted (S : Sv) (n : Nat) : (S.acted n).skel = S.skel := by
 unfold skel acted
 simp only [List.map_set]
 congr 14
 by_cases h : n < S.list.length
 ·have : (S.list.map fun c => (c.lits, c.lrn))[n]? = some ((S.rc n).lits, (S.rc n).lrn) := by
   rw [List.getElem?_map, List.getElem?_eq_getElem h]
   simp only [Option.map_some, rc, List.getElem!_eq_getElem?_getD, List.getElem?_eq_getElem h, Option.getD_some]
  exact set_idem this
 ·rw [List.set_eq_of_length_le (by simp; omega)]
theorem skel_meet (G : Gr) (l : Int) : (meet G l).S.skel = G.S.skel := by
 by_cases h : tv l ∈ G.seen ∨ G.S.T.levB (tv l) ≤ 0
 ·rw [meet_no h]
 ·by_cases h2 : G.S.T.levB (tv l) = G.S.T.levels.length
  ·rw [meet_open h h2]; rfl
  ·rw [meet_low h h2]; rfl
theorem skel_meets (skip : Int) : ∀ (ls : List Int) (G : Gr), (meets skip ls G).S.skel = G.S.skel
 | [], G => rfl
 | l :: r, G => by
  rw [meets]
  split
  ·rw [skel_meets skip r, skel_meet]
  ·exact skel_meets skip r G
theorem skel_learnL : ∀ (f : Nat) (G : Gr) (n skip : Int) (rest : List Int) (GE : Gr) (xe : Int), learnL f G n skip rest = some (GE, xe) → GE.S.skel = G.S.skel
 | 0, G, n, skip, rest, GE, xe, h => by rw [learnL_zero] at h; cases h
 | f + 1, G, n, skip, rest, GE, xe, h => by
  rw [learnL_eq] at h
  have hk : (learn1 G n skip).S.skel = G.S.skel := by
   unfold learn1
   split
   ·rw [skel_meets]; exact skel_acted G.S n.toNat
   ·rfl
  generalize learn1 G n skip = G1 at h hk
  unfold learn2 at h
  cases hq : rest.dropWhile (fun x => decide (tv x ∉ G1.seen)) with
  | nil => rw [hq] at h; cases h
  | cons x r =>
   rw [hq] at h
   simp only at h
   split at h
   ·simp only [Option.some.injEq, Prod.mk.injEq] at h
    obtain ⟨rfl, rfl⟩ := h
    exact hk
   ·exact (skel_learnL f _ _ _ _ GE xe h).trans hk
theorem skel_rc {S S' : Sv} (h : S'.skel = S.skel) (n : Nat) : (S'.rc n).lits = (S.rc n).lits ∧ (S'.rc n).lrn = (S.rc n).lrn := by
 have hl : S'.list.map (fun c => (c.lits, c.lrn)) = S.list.map fun c => (c.lits, c.lrn) := by
  have := congrArg (fun x => x.2.2.2.2.2.2.2.2.2.2.2.2.2) h
  exact this
 have e : ∀ S : Sv, ((S.rc n).lits, (S.rc n).lrn) = ((S.list.map fun c => (c.lits, c.lrn))[n]?).getD ([], false) := fun S => by
  rw [List.getElem?_map]
  unfold rc
  rw [List.getElem!_eq_getElem?_getD]
  cases h : S.list[n]? with
  | none => rfl
  | some c => rfl
 have h1 := e S
 rw [← hl, ← e S'] at h1
 exact ⟨(congrArg Prod.fst h1).symm, (congrArg Prod.snd h1).symm⟩
structure Lrd (S : Sv) (l : List Int) (lev : Int) : Prop where
 l0 : 0 < l.length
 top : ∃ e ∈ S.R, l[0]! = -e.x ∧ e.l = S.T.levels.length
 tail : ∀ k, 1 ≤ k → k < l.length → ∃ e ∈ S.R, e.x = -l[k]! ∧ 1 ≤ e.l ∧ e.l ≤ lev
 lt : 0 ≤ lev ∧ lev < S.T.levels.length
 one : l.length = 1 → lev = 0
 two : 2 ≤ l.length → ∃ e ∈ S.R, e.x = -l[1]! ∧ e.l = lev
 nd : (l.map tv).Nodup
 sem : ∀ a, S.Good a → Sat1 a l
theorem learned_spec {S : Sv} {m : Nat} (ok : S.Ok m) (hr : S.Rsn) (hd : S.Dec) {n : Nat} (hc : S.Cfl n) (hdep : 0 < S.T.levels.length) (hn : ((S.rc n).lits) ≠ []) :
  ∃ S1 l lev, S.learned n = some (S1, l, lev) ∧ S1.skel = S.skel ∧ S.Lrd l lev := by
 have hrev : S.T.lits.reverse = S.R.reverse.map (·.x) := by
  rw [ok.rep.lits, List.map_reverse]
 obtain ⟨hc1, yc, hyc, ec, hec, hecx, hecl⟩ := hc
 have hyne : ∀ y ∈ (S.rc n).lits, y ≠ 0 := fun y hy => (ok.lr n y hy).1
 obtain ⟨GE, xe, h1, h2⟩ := learnL_spec ok hr hd (S.T.lits.length + 1) ⟨S, [], 0, [0]⟩ n 0 S.R.reverse [] (by rw [List.length_reverse, R_len]; omega)
  ⟨by simp, rfl, fun _ => rfl, by simp [cnt], fun y hy => by simp at hy, fun e _ he => by simp at he, by simp, by simp, fun e _ he => by simp at he⟩
  (fun y hy _ => by
   obtain ⟨e, he, h5⟩ := hc1 y hy
   exact ⟨e, List.mem_reverse.2 he, h5⟩)
  (.inr ⟨hdep, yc, hyc, hyne yc hyc, ec, List.mem_reverse.2 hec, hecx, hecl⟩)
  (fun a ha => .inr (by
   obtain ⟨y, hy, hyt⟩ := ha.1 n hn
   exact ⟨y, hy, hyne y hy, hyt⟩))
 rw [← hrev] at h1
 have hk := skel_learnL _ _ _ _ _ GE xe h1
 obtain ⟨et, het, hetx, hetl⟩ := h2.top
 have hrt := R_rng ok het
 have hvl := ok.vl
 cases hg : GE.learn with
 | nil => have := h2.l0; rw [hg] at this; simp at this
 | cons z0 tl =>
  have hlrn := h2.lrn
  have hnd := h2.nd
  have hsem := h2.sem
  rw [hg] at hlrn hnd hsem
  simp only [List.tail_cons] at hlrn hnd hsem
  have hset : GE.learn.set 0 (-xe) = -xe :: tl := by rw [hg]; rfl
  have hlev1 : ∀ y ∈ tl, 1 ≤ S.T.levB (tv y) ∧ S.T.levB (tv y) < S.T.levels.length := fun y hy => by
   obtain ⟨e, he, h5, h6, h7⟩ := hlrn y hy
   rw [(opp_tv ok he h5).1, (lev_of ok he).1]
   exact ⟨h6, h7⟩
  have hsp := second_spec (T := GE.S.T) (-xe :: tl).length 1 (-xe :: tl) 0 (by omega) (Nat.le_refl 1) (fun h => by omega) (fun j hj hj2 _ => by omega)
  obtain ⟨lr, hlr⟩ : ∃ lr, Sv.second GE.S.T (-xe :: tl).length 1 (-xe :: tl) 0 = lr := ⟨_, rfl⟩
  rw [hlr, h2.T] at hsp
  obtain ⟨hp, hp0, hp1, hp2⟩ := hsp
  have hlv := second_lev (T := GE.S.T) (D := S.T.levels.length) (fun v => by rw [h2.T]; exact (lev_le ok v).2) (-xe :: tl).length 1 (-xe :: tl) 0
  rw [hlr] at hlv
  have hlen := hp.length_eq
  have hin : ∀ k, 1 ≤ k → k < lr.1.length → lr.1[k]! ∈ tl := fun k hk hkl => by
   have hndl : ((-xe :: tl).map tv).Nodup := by
    rw [List.map_cons, List.nodup_cons]
    refine ⟨fun hm => ?_, hnd⟩
    rw [List.mem_map] at hm
    obtain ⟨y, hy, h5⟩ := hm
    have h6 := hlev1 y hy
    rw [h5, ← hetx, tv_opp et.x hrt.1 (by omega), (lev_of ok het).1, hetl] at h6
    omega
   have hndr : (lr.1.map tv).Nodup := (hp.map tv).nodup_iff.2 hndl
   have hm : lr.1[k]! ∈ -xe :: tl := hp.mem_iff.1 (mem_get hkl)
   rcases List.mem_cons.1 hm with h5 | h5
   ·exfalso
    have h6 : lr.1[0]! = -xe := hp0
    have h7 : (lr.1.map tv)[0]'(by simp; omega) = (lr.1.map tv)[k]'(by simpa using hkl) := by
     rw [List.getElem_map, List.getElem_map, ← getE hkl, ← getE (by omega : 0 < lr.1.length), h5, h6]
    exact (List.pairwise_iff_getElem.1 hndr) 0 k _ _ (by omega) h7
   ·exact h5
  refine ⟨GE.S, lr.1, lr.2, ?_, hk, ?_⟩
  ·unfold learned
   rw [h1]
   simp only
   rw [hset, hlr]
  ·refine ⟨by rw [hlen]; simp, ⟨et, het, by rw [hp0, hetx]; rfl, hetl⟩, fun k hk hkl => ?_, ⟨hlv.1, ?_⟩, fun h5 => ?_, fun h5 => ?_, ?_, fun a ha => ?_⟩
   ·obtain ⟨e, he, h5, h6, h7⟩ := hlrn _ (hin k hk hkl)
    refine ⟨e, he, h5, h6, ?_⟩
    have h8 := hp2 k hk (by omega)
    rw [(opp_tv ok he h5).1, (lev_of ok he).1] at h8
    exact h8
   ·by_cases h0 : lr.2 = 0
    ·omega
    ·have h6 := hp1 (by omega)
     by_cases h7 : 1 < lr.1.length
     ·have h8 := hlev1 _ (hin 1 (Nat.le_refl 1) h7)
      omega
     ·exfalso
      -- with one literal alone the level is 0
      have h9 : tl = [] := by
       have : lr.1.length = tl.length + 1 := by rw [hlen]; rfl
       exact List.eq_nil_of_length_eq_zero (by omega)
      rw [h9] at hlr
      have : Sv.second GE.S.T [-xe].length 1 [-xe] 0 = ([-xe], 0) := second_stop (by simp)
      rw [this] at hlr
      exact h0 (by rw [← hlr])
   ·have h9 : tl = [] := by
     have : lr.1.length = tl.length + 1 := by rw [hlen]; rfl
     exact List.eq_nil_of_length_eq_zero (by omega)
    rw [h9] at hlr
    have : Sv.second GE.S.T [-xe].length 1 [-xe] 0 = ([-xe], 0) := second_stop (by simp)
    rw [this] at hlr
    rw [← hlr]
   ·obtain ⟨e, he, h6, h7, h8⟩ := hlrn _ (hin 1 (Nat.le_refl 1) (by omega))
    refine ⟨e, he, h6, ?_⟩
    have h9 := hp2 1 (Nat.le_refl 1) (by omega)
    rw [(opp_tv ok he h6).1, (lev_of ok he).1] at h9
    have h10 := hp1 (by omega)
    rw [(opp_tv ok he h6).1, (lev_of ok he).1] at h10
    exact h10
   ·rw [(hp.map tv).nodup_iff, List.map_cons, List.nodup_cons]
    refine ⟨fun hm => ?_, hnd⟩
    rw [List.mem_map] at hm
    obtain ⟨y, hy, h5⟩ := hm
    have h6 := hlev1 y hy
    rw [h5, ← hetx, tv_opp et.x hrt.1 (by omega), (lev_of ok het).1, hetl] at h6
    omega
   ·rcases hsem a ha with ⟨y, hy, hyt⟩ | h5
    ·exact ⟨y, hp.mem_iff.2 (List.mem_cons_of_mem _ hy), hyt⟩
    ·refine ⟨-xe, hp.mem_iff.2 List.mem_cons_self, ?_⟩
     rw [← hetx] at h5 ⊢
     exact (Tru.neg (tv_pos hrt.1)).2 h5
end Sv
theorem lcode_inj {x y : Int} (h : lcode x = lcode y) : x = y := by
 unfold lcode at h
 split at h <;> split at h <;> omega
theorem snoc_split {α : Type} {A B R : List α} {e e1 : α} (h : A ++ e :: B = R ++ [e1]) : (B = [] ∧ A = R ∧ e = e1) ∨ ∃ B', B = B' ++ [e1] ∧ R = A ++ e :: B' := by
 rcases List.eq_nil_or_concat B with rfl | ⟨B', b, rfl⟩
 ·left
  have := List.append_inj' h rfl
  exact ⟨rfl, this.1, by simpa using this.2⟩
 ·right
  rw [List.concat_eq_append, ← List.cons_append, ← List.append_assoc] at h
  have := List.append_inj' h rfl
  refine ⟨B', ?_, this.1.symm⟩
  rw [List.concat_eq_append, show b = e1 by simpa using this.2]
theorem getE_ne {l : List Int} (hn : (l.map tv).Nodup) {i j : Nat} (hi : i < l.length) (hj : j < l.length) (hij : i ≠ j) : tv l[i]! ≠ tv l[j]! := by
 have hp := List.pairwise_iff_getElem.1 hn
 rw [getE hi, getE hj]
 rcases Nat.lt_or_gt_of_ne hij with h | h
 ·have := hp i j (by simpa using hi) (by simpa using hj) h
  simpa using this
 ·have := hp j i (by simpa using hj) (by simpa using hi) h
  intro e
  exact this (by simpa using e.symm)
namespace Sv
def W (S : Sv) (off : Int) (L : List Nat) (c : Nat) : List Nat := if c = lcode off then L else S.wat c
structure WI (S : Sv) (V : Nat → List Nat) : Prop where
 nd : ∀ c, (V c).Nodup
 wd : ∀ c n, n ∈ V c → (S.rc n).lits ≠ [] → lcode (S.rc n).lits[0]! = c ∨ lcode (S.rc n).lits[1]! = c
 wc : ∀ n, (S.rc n).lits ≠ [] → n ∈ V (lcode (S.rc n).lits[0]!) ∧ n ∈ V (lcode (S.rc n).lits[1]!)
def WT1 (S : Sv) (D : List St) (n : Nat) : Prop := (S.rc n).lits ≠ [] → ∀ e ∈ D,
 (e.x = -(S.rc n).lits[0]! → ∃ e' ∈ S.R, e'.x = (S.rc n).lits[1]! ∧ e'.l ≤ e.l) ∧ (e.x = -(S.rc n).lits[1]! → ∃ e' ∈ S.R, e'.x = (S.rc n).lits[0]! ∧ e'.l ≤ e.l)
structure Inv (S : Sv) : Prop where
 ok : S.Ok 0
 dist : ∀ n, ((S.rc n).lits.map tv).Nodup
 rsn : S.Rsn
 dec : S.Dec
 hd : S.Hd
 wi : S.WI S.wat
 wt : ∀ n, S.WT1 (S.R.take S.head) n
structure VI (S : Sv) (e0 : St) (todo keep : List Nat) : Prop where
 ok : S.Ok (keep.length + todo.length)
 dist : ∀ n, ((S.rc n).lits.map tv).Nodup
 rsn : S.Rsn
 dec : S.Dec
 hd : S.Hd
 at_ : S.R[S.head]? = some e0
 off0 : S.wat (lcode (-e0.x)) = []
 wi : S.WI (S.W (-e0.x) (keep ++ todo))
 wt : ∀ n, S.WT1 (S.R.take S.head) n
 wk : ∀ n ∈ keep, S.WT1 [e0] n
theorem W_on (S : Sv) (off : Int) (L : List Nat) : S.W off L (lcode off) = L := if_pos rfl
theorem W_off (S : Sv) {off : Int} (L : List Nat) {c : Nat} (h : c ≠ lcode off) : S.W off L c = S.wat c := if_neg h
theorem two_of {S : Sv} {m : Nat} (ok : S.Ok m) {n : Nat} (h : (S.rc n).lits ≠ []) : 2 ≤ (S.rc n).lits.length := by
 have h1 := ok.ln n
 have h2 : (S.rc n).lits.length ≠ 0 := fun e => h (List.eq_nil_of_length_eq_zero e)
 omega
theorem in_list {S : Sv} {n : Nat} (h : (S.rc n).lits ≠ []) : n < S.list.length := by
 by_cases hn : n < S.list.length
 ·exact hn
 ·rw [rc_out (by omega)] at h
  exact absurd rfl h
theorem VI.at (S : Sv) {e0 : St} {todo keep : List Nat} (h : S.VI e0 todo keep) : e0 ∈ S.R ∧ S.head < S.R.length ∧ e0.l = S.T.levels.length := by
 have h1 := h.at_
 obtain ⟨h2, h3⟩ := List.getElem?_eq_some_iff.1 h1
 refine ⟨List.mem_of_getElem? h1, h2, h.hd e0 ?_⟩
 rw [List.drop_eq_getElem_cons h2, h3]
 exact List.mem_cons_self
theorem not_both {S : Sv} {m : Nat} (ok : S.Ok m) {e e' : St} (h : e ∈ S.R) (h' : e' ∈ S.R) (hx : e.x = -e'.x) : False := by
 obtain ⟨h1, h2⟩ := opp_tv ok h (y := -e.x) (by omega)
 have h3 : e'.x = -e.x := by omega
 rw [← h3] at h1
 have := R_uniq ok h h' h1.symm
 subst this
 have h4 : e.x = 0 := by omega
 have h5 := R_rng ok h
 rw [h4] at h5
 have : tv 0 = 0 := by rfl
 omega
theorem VI.dead {S : Sv} {e0 : St} {n : Nat} {r keep : List Nat} (h : S.VI e0 (n :: r) keep) (hn : (S.rc n).lits = []) : S.VI e0 r keep := by
 have hs : (keep ++ r).Sublist (keep ++ n :: r) := List.Sublist.append_left (List.sublist_cons_self n r) keep
 refine ⟨h.ok.less (by simp only [List.length_cons]; omega), h.dist, h.rsn, h.dec, h.hd, h.at_, h.off0, ⟨fun c => ?_, fun c j hj hl => ?_, fun j hl => ?_⟩, h.wt, h.wk⟩
 ·by_cases hc : c = lcode (-e0.x)
  ·have := h.wi.nd c
   subst hc
   rw [W_on] at this ⊢
   exact this.sublist hs
  ·have := h.wi.nd c
   rw [W_off _ _ hc] at this ⊢
   exact this
 ·refine h.wi.wd c j ?_ hl
  by_cases hc : c = lcode (-e0.x)
  ·subst hc
   rw [W_on] at hj ⊢
   exact hs.subset hj
  ·rw [W_off _ _ hc] at hj ⊢
   exact hj
 ·have hjn : j ≠ n := fun e => hl (by rw [e]; exact hn)
  have hq := h.wi.wc j hl
  have hm : ∀ c, j ∈ S.W (-e0.x) (keep ++ n :: r) c → j ∈ S.W (-e0.x) (keep ++ r) c := fun c hj => by
   by_cases hc : c = lcode (-e0.x)
   ·subst hc
    rw [W_on] at hj ⊢
    rcases List.mem_append.1 hj with h1 | h1
    ·exact List.mem_append_left _ h1
    ·rcases List.mem_cons.1 h1 with h1 | h1
     ·exact absurd h1 hjn
     ·exact List.mem_append_right _ h1
   ·rw [W_off _ _ hc] at hj ⊢
    exact hj
  exact ⟨hm _ hq.1, hm _ hq.2⟩
theorem VI.turned {S : Sv} {e0 : St} {n : Nat} {r keep : List Nat} (h : S.VI e0 (n :: r) keep) (hn : (S.rc n).lits ≠ []) :
  (S.turned n (-e0.x)).VI e0 (n :: r) keep ∧ ((S.turned n (-e0.x)).rc n).lits[1]! = -e0.x ∧ ((S.turned n (-e0.x)).rc n).lits ≠ [] ∧ ((S.turned n (-e0.x)).rc n).lits.Perm (S.rc n).lits := by
 have h2 := two_of h.ok hn
 have hnl := in_list hn
 obtain ⟨he0, hhd, hlv⟩ := h.at
 have hw := h.wi.wd (lcode (-e0.x)) n (by rw [W_on]; simp) hn
 have okT := Ok.turned h.ok n (-e0.x)
 unfold Sv.turned at okT ⊢
 by_cases h0 : (S.rc n).lits[0]! = -e0.x
 ·rw [if_pos h0] at okT ⊢
  have hp := swp2_perm (l := (S.rc n).lits) (i := 0) (j := 1) (by omega) (by omega)
  have hrc : ∀ j, (S.lset n (swp2 (S.rc n).lits 0 1)).rc j = if n = j then { S.rc n with lits := swp2 (S.rc n).lits 0 1 } else S.rc j := fun j => by
   rw [rc_lset]
   by_cases e : n = j
   ·rw [if_pos ⟨e, hnl⟩, if_pos e]
   ·rw [if_neg (fun h => e h.1), if_neg e]
  have hrn : ((S.lset n (swp2 (S.rc n).lits 0 1)).rc n).lits = swp2 (S.rc n).lits 0 1 := by rw [hrc, if_pos rfl]
  have hro : ∀ j, j ≠ n → (S.lset n (swp2 (S.rc n).lits 0 1)).rc j = S.rc j := fun j hj => by rw [hrc, if_neg (fun e => hj e.symm)]
  have g0 : (swp2 (S.rc n).lits 0 1)[0]! = (S.rc n).lits[1]! := by
   rw [swp2_get (by omega) (by omega) (by omega), if_neg (by omega), if_pos rfl]
  have g1 : (swp2 (S.rc n).lits 0 1)[1]! = (S.rc n).lits[0]! := by
   rw [swp2_get (by omega) (by omega) (by omega), if_pos rfl]
  have hne : swp2 (S.rc n).lits 0 1 ≠ [] := fun e => by
   have := swp2_len (S.rc n).lits 0 1
   rw [e] at this
   simp at this
   omega
  have hnk : n ∉ keep := fun hk => by
   have := h.wi.nd (lcode (-e0.x))
   rw [W_on, List.nodup_append] at this
   exact this.2.2 n hk n List.mem_cons_self rfl
  refine ⟨⟨okT, fun j => ?_, ?_, h.dec, h.hd, h.at_, h.off0, ⟨h.wi.nd, fun c j hj hl => ?_, fun j hl => ?_⟩, fun j => ?_, fun j hj => ?_⟩, by rw [hrn, g1, h0], by rw [hrn]; exact hne, by rw [hrn]; exact hp⟩
  ·by_cases e : j = n
   ·rw [e, hrn]
    exact (hp.map tv).nodup_iff.2 (h.dist n)
   ·rw [hro j e]; exact h.dist j
  ·intro A e B hR hr
   obtain ⟨k, hk, ls, hls, hall⟩ := h.rsn A e B hR hr
   have hkn : k ≠ n := fun ek => by
    rw [ek] at hls
    rw [hls] at h0
    have h0 : e.x = -e0.x := h0
    exact not_both h.ok (by rw [show S.R = A ++ e :: B from hR]; simp) he0 h0
   exact ⟨k, hk, ls, by rw [hro k hkn]; exact hls, hall⟩
  ·by_cases e : j = n
   ·subst e
    rw [hrn, g0, g1]
    exact (h.wi.wd c j hj hn).symm
   ·rw [hro j e] at hl ⊢
    exact h.wi.wd c j hj hl
  ·by_cases e : j = n
   ·subst e
    rw [hrn, g0, g1]
    exact (h.wi.wc j hn).symm
   ·rw [hro j e] at hl ⊢
    exact h.wi.wc j hl
  ·intro hl e he
   by_cases ej : j = n
   ·subst ej
    rw [hrn, g0, g1]
    exact (h.wt j hn e he).symm
   ·rw [hro j ej] at hl ⊢
    exact h.wt j hl e he
  ·have ej : j ≠ n := fun e => hnk (e ▸ hj)
   intro hl e he
   rw [hro j ej] at hl ⊢
   exact h.wk j hj hl e he
 ·rw [if_neg h0] at okT ⊢
  refine ⟨h, ?_, hn, List.Perm.refl _⟩
  rcases hw with hw | hw
  ·exact absurd (lcode_inj hw) h0
  ·exact lcode_inj hw
theorem VI.stay {S : Sv} {e0 : St} {n : Nat} {r keep : List Nat} (h : S.VI e0 (n :: r) keep) (hn : (S.rc n).lits ≠ []) (h1 : (S.rc n).lits[1]! = -e0.x) (hv : 0 < S.val (S.rc n).lits[0]!) : S.VI e0 r (keep ++ [n]) := by
 have ha : (keep ++ [n]) ++ r = keep ++ n :: r := by simp
 refine ⟨h.ok.less (by simp; omega), h.dist, h.rsn, h.dec, h.hd, h.at_, h.off0, by rw [ha]; exact h.wi, h.wt, fun j hj => ?_⟩
 rcases List.mem_append.1 hj with hj | hj
 ·exact h.wk j hj
 ·rw [List.mem_singleton.1 hj]
  intro hl e he
  rw [List.mem_singleton.1 he]
  obtain ⟨he0, hhd, hlv⟩ := h.at
  obtain ⟨e', he', hx'⟩ := (val_pos h.ok _).1 hv
  refine ⟨fun hx => ?_, fun hx => ⟨e', he', hx', ?_⟩⟩
  ·exact (not_both h.ok he0 he' (by rw [hx, hx'])).elim
  ·have := (R_rng h.ok he').2.2.2
   omega
theorem VI.moved {S : Sv} {e0 : St} {n : Nat} {r keep : List Nat} (h : S.VI e0 (n :: r) keep) (hn : (S.rc n).lits ≠ []) (h1 : (S.rc n).lits[1]! = -e0.x) (hv : ¬ 0 < S.val (S.rc n).lits[0]!) (hm : (S.movedF n).2 = true) : (S.movedF n).1.VI e0 r keep := by
 have h2 := two_of h.ok hn
 have hnl := in_list hn
 obtain ⟨he0, hhd, hlv⟩ := h.at
 have okM := Ok.moved (h.ok.less (m' := keep.length + r.length + 1) (by simp; omega)) hnl hm
 have hsame := moved_same S n
 unfold Sv.movedF at okM hm hsame ⊢
 cases hk : S.findK (S.rc n).lits (S.rc n).lits.length 2 with
 | none => rw [hk] at hm; cases hm
 | some k =>
  rw [hk] at okM hsame
  obtain ⟨k1, k2, k3⟩ := findK_lt _ _ _ hk
  simp only [Sv.movedTo] at okM hsame ⊢
  obtain ⟨x, hx⟩ : ∃ x, (S.rc n).lits[k]! = x := ⟨_, rfl⟩
  rw [hx] at okM hsame k3 ⊢
  have hxo : x ≠ -e0.x := fun e => by
   have := getE_ne (h.dist n) k2 (by omega : 1 < _) (by omega)
   rw [hx, h1, e] at this
   exact this rfl
  have hcx : lcode x ≠ lcode (-e0.x) := fun e => hxo (lcode_inj e)
  have hx0 : (S.rc n).lits[0]! ≠ x := fun e => by
   have := getE_ne (h.dist n) (by omega : 0 < _) k2 (by omega)
   rw [hx, e] at this
   exact this rfl
  have h0o : (S.rc n).lits[0]! ≠ -e0.x := fun e => by
   have := getE_ne (h.dist n) (by omega : 0 < _) (by omega : 1 < _) (by omega)
   rw [h1, e] at this
   exact this rfl
  have hp := swp2_perm (l := (S.rc n).lits) (i := 1) (j := k) (by omega) k2
  have g0 : (swp2 (S.rc n).lits 1 k)[0]! = (S.rc n).lits[0]! := by
   rw [swp2_get (by omega) k2 (by omega), if_neg (by omega), if_neg (by omega)]
  have g1 : (swp2 (S.rc n).lits 1 k)[1]! = x := by
   rw [swp2_get (by omega) k2 (by omega), if_neg (by omega), if_pos rfl, hx]
  have hne : swp2 (S.rc n).lits 1 k ≠ [] := fun e => by
   have := swp2_len (S.rc n).lits 1 k
   rw [e] at this
   simp at this
   omega
  obtain ⟨S', hS'⟩ : ∃ S', (S.lset n (swp2 (S.rc n).lits 1 k)).wput (lcode x) n = S' := ⟨_, rfl⟩
  have hrc : ∀ j, S'.rc j = if n = j then { S.rc n with lits := swp2 (S.rc n).lits 1 k } else S.rc j := fun j => by
   rw [← hS']
   show (S.lset n (swp2 (S.rc n).lits 1 k)).rc j = _
   rw [rc_lset]
   by_cases e : n = j
   ·rw [if_pos ⟨e, hnl⟩, if_pos e]
   ·rw [if_neg (fun h => e h.1), if_neg e]
  have hrn : (S'.rc n).lits = swp2 (S.rc n).lits 1 k := by rw [hrc, if_pos rfl]
  have hro : ∀ j, j ≠ n → S'.rc j = S.rc j := fun j hj => by rw [hrc, if_neg (fun e => hj e.symm)]
  have hcl : lcode x < S.watch.length := by
   have := h.ok.lit k2
   rw [hx] at this
   rw [h.ok.wl]
   exact code_lt this.2.1 this.2.2
  have hwat : ∀ c, S'.wat c = if c = lcode x then S.wat c ++ [n] else S.wat c := fun c => by
   rw [← hS']
   unfold wat wput wset lset
   rw [getB_set]
   by_cases e : lcode x = c
   ·rw [if_pos ⟨e, hcl⟩, if_pos e.symm, ← e]; rfl
   ·rw [if_neg (fun h => e h.1), if_neg (fun h => e h.symm)]
  have hSR : S'.R = S.R := R_congr (by rw [← hS']; rfl)
  have hSh : S'.head = S.head := by rw [← hS']; rfl
  have hST : S'.T = S.T := by rw [← hS']; rfl
  rw [hS'] at okM ⊢
  have hnd := h.wi.nd (lcode (-e0.x))
  rw [W_on, List.nodup_append] at hnd
  have hnk : n ∉ keep := fun hk => hnd.2.2 n hk n List.mem_cons_self rfl
  have hnr : n ∉ r := (List.nodup_cons.1 hnd.2.1).1
  have hs : (keep ++ r).Sublist (keep ++ n :: r) := List.Sublist.append_left (List.sublist_cons_self n r) keep
  have hnx : n ∉ S.wat (lcode x) := fun hm => by
   have := h.wi.wd (lcode x) n (by rw [W_off _ _ hcx]; exact hm) hn
   rcases this with e | e
   ·exact hx0 (lcode_inj e)
   ·rw [h1] at e; exact hxo (lcode_inj e).symm
  refine ⟨okM, fun j => ?_, ?_, ?_, ?_, by rw [hSR, hSh]; exact h.at_, ?_, ⟨fun c => ?_, fun c j hj hl => ?_, fun j hl => ?_⟩, fun j => ?_, fun j hj => ?_⟩
  ·by_cases e : j = n
   ·rw [e, hrn]
    exact (hp.map tv).nodup_iff.2 (h.dist n)
   ·rw [hro j e]; exact h.dist j
  ·intro A e B hR hr
   rw [hSR] at hR
   obtain ⟨i, hi, ls, hls, hall⟩ := h.rsn A e B hR hr
   have hin : i ≠ n := fun ei => by
    rw [ei] at hls
    rw [hls] at hv
    exact hv ((val_pos h.ok _).2 ⟨e, by rw [hR]; simp, rfl⟩)
   exact ⟨i, hi, ls, by rw [hro i hin]; exact hls, hall⟩
  ·intro A e B hR hr
   rw [hSR] at hR
   exact h.dec A e B hR hr
  ·intro e he
   rw [hSR, hSh] at he
   rw [hST]
   exact h.hd e he
  ·rw [hwat, if_neg (fun e => hcx e.symm)]
   exact h.off0
  ·by_cases hc : c = lcode (-e0.x)
   ·have := h.wi.nd c
    subst hc
    rw [W_on] at this ⊢
    exact this.sublist hs
   ·have := h.wi.nd c
    rw [W_off _ _ hc] at this ⊢
    rw [hwat]
    split
    ·rename_i ec
     rw [List.nodup_append]
     refine ⟨this, by simp, fun a ha b hb => ?_⟩
     rw [List.mem_singleton.1 hb]
     intro e
     rw [e, ec] at ha
     exact hnx ha
    ·exact this
  ·have hold : j ∈ S.W (-e0.x) (keep ++ n :: r) c ∨ (j = n ∧ c = lcode x) := by
    by_cases hc : c = lcode (-e0.x)
    ·subst hc
     rw [W_on] at hj ⊢
     exact .inl (hs.subset hj)
    ·rw [W_off _ _ hc] at hj ⊢
     rw [hwat] at hj
     split at hj
     ·rename_i ec
      rcases List.mem_append.1 hj with h3 | h3
      ·exact .inl h3
      ·exact .inr ⟨List.mem_singleton.1 h3, ec⟩
     ·exact .inl hj
   by_cases e : j = n
   ·subst e
    rw [hrn, g0, g1]
    by_cases hc : c = lcode (-e0.x)
    ·subst hc
     rw [W_on] at hj
     rcases List.mem_append.1 hj with h3 | h3
     ·exact absurd h3 hnk
     ·exact absurd h3 hnr
    ·rcases hold with h3 | h3
     ·rcases h.wi.wd c j h3 hn with h4 | h4
      ·exact .inl h4
      ·rw [h1] at h4; exact absurd h4.symm hc
     ·exact .inr h3.2.symm
   ·rw [hro j e] at hl ⊢
    rcases hold with h3 | h3
    ·exact h.wi.wd c j h3 hl
    ·exact absurd h3.1 e
  ·have hmm : ∀ c, j ≠ n ∨ c ≠ lcode (-e0.x) → j ∈ S.W (-e0.x) (keep ++ n :: r) c → j ∈ S'.W (-e0.x) (keep ++ r) c := fun c hor hj => by
    by_cases hc : c = lcode (-e0.x)
    ·have hjn : j ≠ n := by
      rcases hor with h3 | h3
      ·exact h3
      ·exact absurd hc h3
     subst hc
     rw [W_on] at hj ⊢
     rcases List.mem_append.1 hj with h3 | h3
     ·exact List.mem_append_left _ h3
     ·rcases List.mem_cons.1 h3 with h3 | h3
      ·exact absurd h3 hjn
      ·exact List.mem_append_right _ h3
    ·rw [W_off _ _ hc] at hj ⊢
     rw [hwat]
     split
     ·exact List.mem_append_left _ hj
     ·exact hj
   by_cases e : j = n
   ·subst e
    rw [hrn, g0, g1]
    refine ⟨hmm _ (.inr fun e => h0o (lcode_inj e)) (h.wi.wc j hn).1, ?_⟩
    rw [W_off _ _ hcx, hwat, if_pos rfl]
    simp
   ·rw [hro j e] at hl ⊢
    have := h.wi.wc j hl
    exact ⟨hmm _ (.inl e) this.1, hmm _ (.inl e) this.2⟩
  ·intro hl e he
   rw [hSR, hSh] at he
   rw [hSR]
   have heR : e ∈ S.R := List.mem_of_mem_take he
   by_cases ej : j = n
   ·subst ej
    rw [hrn, g0, g1]
    refine ⟨fun h3 => ?_, fun h3 => ?_⟩
    ·obtain ⟨e', he', h4, h5⟩ := (h.wt j hn e he).1 h3
     rw [h1] at h4
     exact (not_both h.ok he' he0 h4).elim
    ·have : S.val x < 0 := (val_neg h.ok).2 ⟨e, heR, h3⟩
     omega
   ·rw [hro j ej] at hl ⊢
    exact h.wt j hl e he
  ·have ej : j ≠ n := fun e => hnk (e ▸ hj)
   intro hl e he
   rw [hro j ej] at hl ⊢
   rw [hSR]
   exact h.wk j hj hl e he
theorem findK_none {S : Sv} {l : List Int} : ∀ (f k : Nat), l.length ≤ f + k → S.findK l f k = none → ∀ j, k ≤ j → j < l.length → S.val l[j]! < 0
 | 0, k, hf, h, j, h1, h2 => by omega
 | f + 1, k, hf, h, j, h1, h2 => by
  simp only [findK] at h
  rw [if_pos (by omega)] at h
  split at h
  ·cases h
  ·by_cases e : j = k
   ·rw [e]; omega
   ·exact findK_none f (k + 1) (by omega) h j (by omega) h2
theorem VI.falses {S : Sv} {e0 : St} {n : Nat} {r keep : List Nat} (h : S.VI e0 (n :: r) keep) (hn : (S.rc n).lits ≠ []) (h1 : (S.rc n).lits[1]! = -e0.x) (hm : ¬ (S.movedF n).2 = true) :
  ∃ ls, (S.rc n).lits = (S.rc n).lits[0]! :: ls ∧ (-e0.x) ∈ ls ∧ ∀ y ∈ ls, ∃ e ∈ S.R, e.x = -y := by
 have h2 := two_of h.ok hn
 obtain ⟨he0, hhd, hlv⟩ := h.at
 have hk : S.findK (S.rc n).lits (S.rc n).lits.length 2 = none := by
  unfold Sv.movedF at hm
  cases hk : S.findK (S.rc n).lits (S.rc n).lits.length 2 with
  | none => rfl
  | some k => rw [hk] at hm; exact absurd rfl hm
 have hf := findK_none _ _ (by omega) hk
 generalize (S.rc n).lits = l at *
 match l, h2 with
 | x :: y :: ls, _ =>
  have h1 : y = -e0.x := h1
  refine ⟨y :: ls, rfl, by rw [h1]; exact List.mem_cons_self, fun z hz => ?_⟩
  rcases List.mem_cons.1 hz with rfl | hz
  ·exact ⟨e0, he0, by omega⟩
  ·obtain ⟨i, hi, hg⟩ := List.getElem_of_mem hz
   have := hf (i + 2) (by omega) (by simp; omega)
   rw [getE (by simp; omega)] at this
   simp only [List.getElem_cons_succ] at this
   rw [hg] at this
   exact (val_neg h.ok).1 this
theorem VI.put {S : Sv} {e0 : St} {n : Nat} {r keep : List Nat} (h : S.VI e0 (n :: r) keep) (hn : (S.rc n).lits ≠ []) (h1 : (S.rc n).lits[1]! = -e0.x) (hm : ¬ (S.movedF n).2 = true) (hv : S.val (S.rc n).lits[0]! = 0) :
  (S.put (S.rc n).lits[0]! (n + 1)).VI e0 r (keep ++ [n]) := by
 have h2 := two_of h.ok hn
 have hnl := in_list hn
 obtain ⟨he0, hhd, hlv⟩ := h.at
 obtain ⟨ls, hls, hol, hall⟩ := h.falses hn h1 hm
 have hlit := h.ok.lit (n := n) (k := 0) (by omega)
 obtain ⟨x, hx⟩ : ∃ x, (S.rc n).lits[0]! = x := ⟨_, rfl⟩
 rw [hx] at hlit hv hls ⊢
 have hvl := h.ok.vl
 have htv : 1 ≤ tv x ∧ tv x ≤ S.vars := by
  unfold tv
  split
  ·omega
  ·split
   ·omega
   ·omega
 have hb := putB_of h.ok htv.1 htv.2 hv
 have hR := R_put (r := (n : Int) + 1) h.ok hb
 have okP := Ok.put h.ok (x := x) (r := (n : Int) + 1) (by omega)
 have hle : (S.put x (n + 1)).T.levels = S.T.levels := put_levels S x (n + 1)
 have ha : (keep ++ [n]) ++ r = keep ++ n :: r := by simp
 have hin : ∀ e ∈ S.R, e ∈ (S.put x (n + 1)).R := fun e he => by rw [hR]; exact List.mem_append_left _ he
 have htk : (S.put x (n + 1)).R.take (S.put x (n + 1)).head = S.R.take S.head := by
  show (S.put x (n + 1)).R.take S.head = _
  rw [hR, List.take_append_of_le_length (by omega)]
 refine ⟨okP.less (by simp; omega), h.dist, ?_, ?_, ?_, ?_, h.off0, by rw [ha]; exact ⟨h.wi.nd, h.wi.wd, h.wi.wc⟩, fun j hl e he => ?_, fun j hj hl e he => ?_⟩
 ·intro A e B hR2 hr
  rw [hR] at hR2
  rcases snoc_split hR2.symm with ⟨h3, h4, h5⟩ | ⟨B', h3, h4⟩
  ·subst h4
   rw [h5]
   exact ⟨n, rfl, ls, hls, hall⟩
  ·exact h.rsn A e B' h4 hr
 ·intro A e B hR2 hr
  rw [hR] at hR2
  rcases snoc_split hR2.symm with ⟨h3, h4, h5⟩ | ⟨B', h3, h4⟩
  ·rw [h5] at hr
   have hr : (n : Int) + 1 = 0 := hr
   omega
  ·exact h.dec A e B' h4 hr
 ·intro e he
  have he : e ∈ (S.put x (n + 1)).R.drop S.head := he
  rw [hle]
  rw [hR, List.drop_append_of_le_length (by omega)] at he
  rcases List.mem_append.1 he with h3 | h3
  ·exact h.hd e h3
  ·rw [List.mem_singleton.1 h3]
 ·show (S.put x (n + 1)).R[S.head]? = _
  rw [hR, List.getElem?_append_left hhd]
  exact h.at_
 ·rw [htk] at he
  obtain ⟨h3, h4⟩ := h.wt j hl e he
  refine ⟨fun h5 => ?_, fun h5 => ?_⟩
  ·obtain ⟨e', he', h6⟩ := h3 h5
   exact ⟨e', hin e' he', h6⟩
  ·obtain ⟨e', he', h6⟩ := h4 h5
   exact ⟨e', hin e' he', h6⟩
 ·rcases List.mem_append.1 hj with hj | hj
  ·obtain ⟨h3, h4⟩ := h.wk j hj hl e he
   refine ⟨fun h5 => ?_, fun h5 => ?_⟩
   ·obtain ⟨e', he', h6⟩ := h3 h5
    exact ⟨e', hin e' he', h6⟩
   ·obtain ⟨e', he', h6⟩ := h4 h5
    exact ⟨e', hin e' he', h6⟩
  ·have hjn := List.mem_singleton.1 hj
   subst hjn
   rw [List.mem_singleton.1 he]
   refine ⟨fun h5 => ?_, fun h5 => ⟨⟨x, S.T.levels.length, (j : Int) + 1⟩, by rw [hR]; simp, hx.symm, by simp [hlv]⟩⟩
   have h5 : e0.x = -(S.rc j).lits[0]! := h5
   rw [hx] at h5
   have : S.val x < 0 := (val_neg h.ok).2 ⟨e0, he0, h5⟩
   omega
theorem VI.cfl {S : Sv} {e0 : St} {n : Nat} {r keep : List Nat} (h : S.VI e0 (n :: r) keep) (hn : (S.rc n).lits ≠ []) (h1 : (S.rc n).lits[1]! = -e0.x) (hm : ¬ (S.movedF n).2 = true) (hv : S.val (S.rc n).lits[0]! < 0) : S.Cfl n := by
 obtain ⟨he0, hhd, hlv⟩ := h.at
 obtain ⟨ls, hls, hol, hall⟩ := h.falses hn h1 hm
 refine ⟨fun y hy => ?_, -e0.x, by rw [hls]; exact List.mem_cons_of_mem _ hol, e0, he0, by omega, hlv⟩
 rw [hls] at hy
 rcases List.mem_cons.1 hy with rfl | hy
 ·exact (val_neg h.ok).1 hv
 ·exact hall y hy
end Sv
namespace Sv
structure Mo (S S' : Sv) : Prop where
 pre : ∃ Z, S'.R = S.R ++ Z ∧ ∀ e ∈ Z, e.r ≠ 0
 lits : ∀ n, (S'.rc n).lits.Perm (S.rc n).lits
 lrn : ∀ n, (S'.rc n).lrn = (S.rc n).lrn
theorem Mo.refl (S : Sv) : Mo S S := ⟨⟨[], by simp, fun e h => by cases h⟩, fun n => List.Perm.refl _, fun n => rfl⟩
theorem Mo.same {S S' : Sv} (h1 : S'.T = S.T) (h2 : S'.list = S.list) : Mo S S' := by
 refine ⟨⟨[], by rw [R_congr h1]; simp, fun e h => by cases h⟩, fun n => ?_, fun n => ?_⟩
 ·unfold rc; rw [h2]
 ·unfold rc; rw [h2]
theorem Mo.trans {S S1 S2 : Sv} (h : Mo S S1) (k : Mo S1 S2) : Mo S S2 := by
 obtain ⟨Z, hZ, hr⟩ := h.pre
 obtain ⟨Z', hZ', hr'⟩ := k.pre
 refine ⟨⟨Z ++ Z', by rw [hZ', hZ, List.append_assoc], fun e he => ?_⟩, fun n => (k.lits n).trans (h.lits n), fun n => (k.lrn n).trans (h.lrn n)⟩
 rcases List.mem_append.1 he with h1 | h1
 ·exact hr e h1
 ·exact hr' e h1
theorem Mo.lset (S : Sv) {n : Nat} {l : List Int} (h : l.Perm (S.rc n).lits) : Mo S (S.lset n l) := by
 refine ⟨⟨[], by rw [List.append_nil]; rfl, fun e h => by cases h⟩, fun j => ?_, fun j => ?_⟩
 ·rw [rc_lset]
  split
  ·rename_i e; rw [← e.1]; exact h
  ·exact List.Perm.refl _
 ·rw [rc_lset]
  split
  ·rename_i e; rw [← e.1]
  ·rfl
theorem Mo.turned {S : Sv} {m : Nat} (ok : S.Ok m) (n : Nat) (off : Int) : Mo S (S.turned n off) := by
 unfold Sv.turned
 split
 ·refine Mo.lset S ?_
  by_cases h : (S.rc n).lits = []
  ·rw [h]; exact List.Perm.refl _
  ·have := two_of ok h
   exact swp2_perm (by omega) (by omega)
 ·exact Mo.refl S
theorem Mo.moved (S : Sv) (n : Nat) : Mo S (S.movedF n).1 := by
 unfold Sv.movedF
 cases hk : S.findK (S.rc n).lits (S.rc n).lits.length 2 with
 | none => exact Mo.refl S
 | some k =>
  obtain ⟨k1, k2, k3⟩ := findK_lt _ _ _ hk
  exact (Mo.lset S (swp2_perm (i := 1) (by omega) k2)).trans (Mo.same rfl rfl)
theorem Mo.put {S : Sv} {m : Nat} (ok : S.Ok m) (x : Int) {r : Int} (hr : r ≠ 0) : Mo S (S.put x r) := by
 by_cases hb : S.T.putB x = true
 ·refine ⟨⟨_, R_put ok hb, fun e he => by rw [List.mem_singleton.1 he]; exact hr⟩, fun n => List.Perm.refl _, fun n => rfl⟩
 ·refine Mo.same ?_ rfl
  unfold Sv.put
  simp only
  rw [if_neg hb]
theorem Mo.visit {S : Sv} {m : Nat} (ok : S.Ok m) (n : Nat) (off : Int) : Mo S (S.visitF n off).1 := by
 unfold visitF
 split
 ·exact Mo.refl S
 ·have h1 := Mo.turned ok n off
  have ok1 := Ok.turned ok n off
  generalize S.turned n off = S1 at *
  unfold visitT
  simp only
  split
  ·exact h1
  ·split
   ·exact h1.trans (Mo.moved S1 n)
   ·split
    ·exact h1
    ·exact h1.trans (Mo.put ok1 _ (by omega))
theorem VI.visit {S : Sv} {e0 : St} {n : Nat} {r keep : List Nat} (h : S.VI e0 (n :: r) keep) :
  ((S.visitF n (-e0.x)).2.2 = true → (S.visitF n (-e0.x)).1.VI e0 r (if (S.visitF n (-e0.x)).2.1 = true then keep ++ [n] else keep)) ∧
  ((S.visitF n (-e0.x)).2.2 = false → (S.visitF n (-e0.x)).2.1 = true ∧ (S.visitF n (-e0.x)).1.VI e0 (n :: r) keep ∧ (S.visitF n (-e0.x)).1.Cfl n ∧ ((S.visitF n (-e0.x)).1.rc n).lits ≠ []) := by
 unfold visitF
 by_cases hn : (S.rc n).lits.length = 0
 ·rw [if_pos hn]
  exact ⟨fun _ => h.dead (List.eq_nil_of_length_eq_zero hn), fun h => by cases h⟩
 ·rw [if_neg hn]
  obtain ⟨h1, h2, h3, h4⟩ := h.turned (fun e => hn (by rw [e]; rfl))
  generalize S.turned n (-e0.x) = S1 at *
  unfold visitT
  simp only
  by_cases hv : (0 : Int) < S1.val (S1.rc n).lits[0]!
  ·rw [if_pos hv]
   exact ⟨fun _ => h1.stay h3 h2 hv, fun h => by cases h⟩
  ·rw [if_neg hv]
   by_cases hm : (S1.movedF n).2 = true
   ·rw [if_pos hm]
    exact ⟨fun _ => h1.moved h3 h2 hv hm, fun h => by cases h⟩
   ·rw [if_neg hm]
    by_cases hv2 : S1.val (S1.rc n).lits[0]! < 0
    ·rw [if_pos hv2]
     exact ⟨fun h => (by cases h), fun _ => ⟨rfl, h1, h1.cfl h3 h2 hm hv2, h3⟩⟩
    ·rw [if_neg hv2]
     exact ⟨fun _ => h1.put h3 h2 hm (by omega), fun h => by cases h⟩
theorem wat_wset (S : Sv) {c : Nat} (l : List Nat) (hc : c < S.watch.length) (j : Nat) : (S.wset c l).wat j = if j = c then l else S.wat j := by
 unfold wat wset
 rw [getB_set]
 by_cases e : c = j
 ·rw [if_pos ⟨e, hc⟩, if_pos e.symm]
 ·rw [if_neg (fun h => e h.1), if_neg (fun h => e h.symm)]
theorem code_in {x : Int} {v : Nat} (h1 : 1 ≤ tv x) (h2 : tv x ≤ v) (hv : v ≤ 262143) : lcode (-x) < 2 * v + 2 := by
 unfold tv at h1 h2
 refine code_lt ?_ ?_
 ·split at h2
  ·omega
  ·split at h2 <;> omega
 ·split at h2
  ·omega
  ·split at h2
   ·omega
   ·rename_i e1 e2
    rw [if_neg e1, if_neg e2] at h1
    omega
theorem VI.code {S : Sv} {e0 : St} {todo keep : List Nat} (h : S.VI e0 todo keep) : lcode (-e0.x) < S.watch.length := by
 have h1 := R_rng h.ok h.at.1
 rw [h.ok.wl]
 exact code_in h1.1 h1.2.1 h.ok.vl
theorem VI.end_ {S : Sv} {e0 : St} {keep : List Nat} (h : S.VI e0 [] keep) (hb : ∀ n ∈ keep, n < S.list.length) :
  ({ S.wset (lcode (-e0.x)) (keep ++ S.wat (lcode (-e0.x))) with head := S.head + 1 } : Sv).Inv := by
 obtain ⟨he0, hhd, hlv⟩ := h.at
 have hc := h.code
 rw [h.off0, List.append_nil]
 have o : (S.wset (lcode (-e0.x)) keep).Ok 0 := h.ok.wset hc hb (by simp)
 have hw : ∀ c, (S.wset (lcode (-e0.x)) keep).wat c = S.W (-e0.x) (keep ++ []) c := fun c => by
  rw [wat_wset S keep hc, List.append_nil]
  rfl
 have htk : S.R.take (S.head + 1) = S.R.take S.head ++ [e0] := by
  rw [List.take_add_one, h.at_]
  rfl
 refine ⟨⟨o.vl, o.tr, o.hi, o.hl, o.ph, o.wl, o.ll, o.wb, o.wt, o.lr, o.ln, o.lb, ?_, o.rs⟩, h.dist, h.rsn, h.dec, fun e he => ?_, ⟨fun c => ?_, fun c n hn hl => ?_, fun n hl => ?_⟩, fun n hl e he => ?_⟩
 ·show S.head + 1 ≤ S.T.lits.length
  rw [← R_len]
  omega
 ·have he : e ∈ S.R.drop (S.head + 1) := he
  refine h.hd e ?_
  rw [List.drop_eq_getElem_cons hhd]
  exact List.mem_cons_of_mem _ he
 ·exact (hw c) ▸ h.wi.nd c
 ·exact h.wi.wd c n ((hw c) ▸ hn) hl
 ·have := h.wi.wc n hl
  rw [← hw, ← hw] at this
  exact this
 ·have he : e ∈ S.R.take (S.head + 1) := he
  rw [htk] at he
  rcases List.mem_append.1 he with h1 | h1
  ·exact h.wt n hl e h1
  ·have hee := List.mem_singleton.1 h1
   subst hee
   have hwc := h.wi.wc n hl
   have hk : ∀ x : Int, n ∈ S.W (-e.x) (keep ++ []) (lcode x) → e.x = -x → n ∈ keep := fun x hx h2 => by
    rw [show x = -e.x by omega, W_on, List.append_nil] at hx
    exact hx
   exact ⟨fun h2 => (h.wk n (hk _ hwc.1 h2) hl e List.mem_cons_self).1 h2, fun h2 => (h.wk n (hk _ hwc.2 h2) hl e List.mem_cons_self).2 h2⟩
theorem VI.stop {S : Sv} {e0 : St} {todo keep : List Nat} (h : S.VI e0 todo keep) (hb : ∀ n ∈ keep ++ todo, n < S.list.length) :
  (S.wset (lcode (-e0.x)) (keep ++ todo)).Inv := by
 have hc := h.code
 have o : (S.wset (lcode (-e0.x)) (keep ++ todo)).Ok 0 := h.ok.wset hc hb (by simp)
 have hw : ∀ c, (S.wset (lcode (-e0.x)) (keep ++ todo)).wat c = S.W (-e0.x) (keep ++ todo) c := fun c => by
  rw [wat_wset S _ hc]
  rfl
 refine ⟨o, h.dist, h.rsn, h.dec, h.hd, ⟨fun c => ?_, fun c n hn hl => ?_, fun n hl => ?_⟩, h.wt⟩
 ·exact (hw c) ▸ h.wi.nd c
 ·exact h.wi.wd c n ((hw c) ▸ hn) hl
 ·have := h.wi.wc n hl
  rw [← hw, ← hw] at this
  exact this
theorem VI.visits {e0 : St} : ∀ (ws keep : List Nat) (S : Sv), S.VI e0 ws keep → (∀ n ∈ keep ++ ws, n < S.list.length) →
  Mo S (visitsF (-e0.x) ws keep S).1 ∧
  ((visitsF (-e0.x) ws keep S).2 = none → ({ (visitsF (-e0.x) ws keep S).1 with head := (visitsF (-e0.x) ws keep S).1.head + 1 } : Sv).Inv) ∧
  ∀ n, (visitsF (-e0.x) ws keep S).2 = some n → (visitsF (-e0.x) ws keep S).1.Inv ∧ (visitsF (-e0.x) ws keep S).1.Cfl n ∧ ((visitsF (-e0.x) ws keep S).1.rc n).lits ≠ []
 | [], keep, S, h, hb => by
  simp only [visitsF]
  exact ⟨Mo.same rfl rfl, fun _ => h.end_ (fun n hn => hb n (by simpa using hn)), fun n h => by cases h⟩
 | n :: r, keep, S, h, hb => by
  simp only [visitsF]
  obtain ⟨v1, v2⟩ := h.visit
  have hmo := Mo.visit h.ok n (-e0.x)
  have hll := (Ok.visit (h.ok.less (m' := keep.length + r.length + 1) (by simp only [List.length_cons]; omega)) (hb n (by simp)) (-e0.x)).2.2.1
  generalize S.visitF n (-e0.x) = q at *
  obtain ⟨S1, b1, b2⟩ := q
  simp only at v1 v2 hmo hll ⊢
  cases b2 with
  | true =>
   rw [if_pos rfl]
   obtain ⟨i1, i2, i3⟩ := VI.visits r _ S1 (v1 rfl) (fun j hj => by
    rw [hll]
    rcases List.mem_append.1 hj with h1 | h1
    ·split at h1
     ·rcases List.mem_append.1 h1 with h2 | h2
      ·exact hb j (by simp [h2])
      ·exact hb j (by simp at h2; simp [h2])
     ·exact hb j (by simp [h1])
    ·exact hb j (by simp [h1]))
   exact ⟨hmo.trans i1, i2, i3⟩
  | false =>
   rw [if_neg (by simp)]
   obtain ⟨hb1, k1, k2, k3⟩ := v2 rfl
   subst hb1
   have hst := k1.stop (fun j hj => by rw [hll]; exact hb j hj)
   refine ⟨hmo.trans (Mo.same rfl rfl), fun h => (by cases h), fun j hj => ?_⟩
   simp only [Option.some.injEq] at hj
   subst hj
   have ha : (keep ++ [n]) ++ r = keep ++ n :: r := by simp
   rw [if_pos rfl, ha]
   exact ⟨hst, k2, k3⟩
theorem Inv.begin {S : Sv} (h : S.Inv) {e0 : St} (h0 : S.R[S.head]? = some e0) : (S.wset (lcode (-e0.x)) []).VI e0 (S.wat (lcode (-e0.x))) [] := by
 have hm : e0 ∈ S.R := List.mem_of_getElem? h0
 have h1 := R_rng h.ok hm
 have hvl := h.ok.vl
 have hc : lcode (-e0.x) < S.watch.length := by
  rw [h.ok.wl]
  exact code_in h1.1 h1.2.1 hvl
 have o : (S.wset (lcode (-e0.x)) []).Ok (([] : List Nat).length + (S.wat (lcode (-e0.x))).length) := h.ok.wset hc (fun n hn => by cases hn) (by simp)
 have hw : ∀ c, (S.wset (lcode (-e0.x)) []).W (-e0.x) ([] ++ S.wat (lcode (-e0.x))) c = S.wat c := fun c => by
  unfold W
  rw [wat_wset S [] hc]
  by_cases e : c = lcode (-e0.x)
  ·rw [if_pos e, e]; rfl
  ·rw [if_neg e, if_neg e]
 refine ⟨o, h.dist, h.rsn, h.dec, h.hd, h0, ?_, ⟨fun c => ?_, fun c n hn hl => ?_, fun n hl => ?_⟩, h.wt, fun n hn => by cases hn⟩
 ·rw [wat_wset S [] hc, if_pos rfl]
 ·rw [hw]; exact h.wi.nd c
 ·rw [hw] at hn; exact h.wi.wd c n hn hl
 ·rw [hw, hw]; exact h.wi.wc n hl
theorem lits_le {S : Sv} {m : Nat} (ok : S.Ok m) : S.T.lits.length ≤ S.vars := by
 have hn := ok.rep.nd
 have hn2 : (S.R.map fun e : St => (tv e.x - 1).toNat).Nodup := by
  unfold List.Nodup at hn ⊢
  rw [List.pairwise_map] at hn ⊢
  refine List.Pairwise.imp_of_mem ?_ hn
  intro a b ha hb hne e
  have := R_rng ok ha
  have := R_rng ok hb
  omega
 have := nodup_lt_len S.vars _ hn2 (fun x hx => by
  rw [List.mem_map] at hx
  obtain ⟨e, he, rfl⟩ := hx
  have := R_rng ok he
  omega)
 rw [← R_len]
 simpa using this
theorem followF_spec : ∀ (f : Nat) (S : Sv), S.Inv → S.vars + 1 ≤ f + S.head → (followF f S).1.Inv ∧ Mo S (followF f S).1 ∧ ((followF f S).2 = none → (followF f S).1.head = (followF f S).1.T.lits.length) ∧ ∀ n, (followF f S).2 = some n → (followF f S).1.Cfl n ∧ ((followF f S).1.rc n).lits ≠ []
 | 0, S, h, hf => by
  have h1 := lits_le h.ok
  have h2 := h.ok.hd
  omega
 | f + 1, S, h, hf => by
  by_cases hh : S.head < S.T.lits.length
  ·rw [followF_go hh]
   obtain ⟨e0, he0⟩ : ∃ e0, S.R[S.head]? = some e0 := ⟨_, List.getElem?_eq_getElem (by rw [R_len]; exact hh)⟩
   have hx : S.T.lits[S.head]! = e0.x := by
    have : (S.T.lits)[S.head]? = some e0.x := by rw [h.ok.rep.lits, List.getElem?_map, he0]; rfl
    rw [List.getElem!_eq_getElem?_getD, this]
    rfl
   rw [hx]
   obtain ⟨i1, i2, i3⟩ := VI.visits (S.wat (lcode (-e0.x))) [] _ (h.begin he0) (fun n hn => h.ok.wb (lcode (-e0.x)) n ((List.mem_append.1 hn).elim (fun h => by cases h) id))
   have hvr := rest_visits (-e0.x) (S.wat (lcode (-e0.x))) [] (S.wset (lcode (-e0.x)) [])
   have hvh := (Ok.visits (-e0.x) (S.wat (lcode (-e0.x))) [] _ (h.begin he0).ok (fun n hn => h.ok.wb _ n hn) (fun n hn => by cases hn) (h.begin he0).code).2.2.1
   rw [rest_wset] at hvr
   have hvv : (visitsF (-e0.x) (S.wat (lcode (-e0.x))) [] (S.wset (lcode (-e0.x)) [])).1.vars = S.vars := congrArg (fun x => x.2.1) hvr
   have hm0 : Mo S (S.wset (lcode (-e0.x)) []) := Mo.same rfl rfl
   generalize visitsF (-e0.x) (S.wat (lcode (-e0.x))) [] (S.wset (lcode (-e0.x)) []) = q at *
   obtain ⟨S1, o⟩ := q
   simp only at i1 i2 i3 hvh hvv ⊢
   have hvh : S1.head = S.head := hvh
   cases o with
   | some n =>
    rw [if_pos (show (some n).isSome = true from rfl)]
    obtain ⟨k1, k2, k3⟩ := i3 n rfl
    refine ⟨k1, hm0.trans i1, fun h => (by cases h), fun j hj => ?_⟩
    simp only [Option.some.injEq] at hj
    subst hj
    exact ⟨k2, k3⟩
   | none =>
    rw [if_neg (show ¬ (none : Option Nat).isSome = true by simp)]
    obtain ⟨k1, k2, k3, k4⟩ := followF_spec f { S1 with head := S1.head + 1 } (i2 rfl) (by show S1.vars + 1 ≤ f + (S1.head + 1); omega)
    exact ⟨k1, (hm0.trans i1).trans ((Mo.same rfl rfl : Mo S1 { S1 with head := S1.head + 1 }).trans k2), k3, k4⟩
  ·rw [followF_stop hh]
   have := h.ok.hd
   exact ⟨h, Mo.refl S, fun _ => by show S.head = S.T.lits.length; omega, fun n h => by cases h⟩
theorem follow_spec {S : Sv} (h : S.Inv) : S.follow.1.Inv ∧ Mo S S.follow.1 ∧ (S.follow.2 = none → S.follow.1.head = S.follow.1.T.lits.length) ∧ ∀ n, S.follow.2 = some n → S.follow.1.Cfl n ∧ (S.follow.1.rc n).lits ≠ [] :=
 followF_spec _ S h (by omega)
end Sv
theorem cut_sorted (m : Int) : ∀ {R : List St}, R.Pairwise (fun a b : St => a.l ≤ b.l) → ∃ B, R = R.filter (fun e : St => decide (e.l ≤ m)) ++ B ∧ ∀ e ∈ B, m < e.l
 | [], _ => ⟨[], rfl, fun e h => by cases h⟩
 | e :: R, h => by
  rw [List.pairwise_cons] at h
  by_cases he : e.l ≤ m
  ·obtain ⟨B, h1, h2⟩ := cut_sorted m h.2
   refine ⟨B, ?_, h2⟩
   rw [List.filter_cons, if_pos (by simpa using he), List.cons_append, ← h1]
  ·have hall : ∀ e' ∈ R, m < e'.l := fun e' he' => by have := h.1 e' he'; omega
   have : R.filter (fun e : St => decide (e.l ≤ m)) = [] := by
    rw [List.filter_eq_nil_iff]
    intro e' he'
    have := hall e' he'
    simp
    omega
   refine ⟨e :: R, ?_, fun e' he' => ?_⟩
   ·rw [List.filter_cons, if_neg (by simpa using he), this]
    rfl
   ·rcases List.mem_cons.1 he' with rfl | he'
    ·omega
    ·exact hall e' he'
namespace Sv
theorem rc_same {S S' : Sv} (h : S'.list = S.list) (n : Nat) : S'.rc n = S.rc n := by unfold rc; rw [h]
theorem wat_same {S S' : Sv} (h : S'.watch = S.watch) (c : Nat) : S'.wat c = S.wat c := by unfold wat; rw [h]
theorem Inv.congr {S S' : Sv} (h : S.Inv) (ok : S'.Ok 0) (hT : S'.T = S.T) (hh : S'.head = S.head) (hl : ∀ n, (S'.rc n).lits = (S.rc n).lits) (hw : S'.watch = S.watch) : S'.Inv := by
 have hR := R_congr hT
 refine ⟨ok, fun n => by rw [hl]; exact h.dist n, fun A e B h1 h2 => ?_, fun A e B h1 h2 => h.dec A e B (hR ▸ h1) h2, fun e he => ?_, ⟨fun c => by rw [wat_same hw]; exact h.wi.nd c, fun c n hn hl2 => ?_, fun n hl2 => ?_⟩, fun n hl2 e he => ?_⟩
 ·obtain ⟨n, h3, ls, h4, h5⟩ := h.rsn A e B (hR ▸ h1) h2
  exact ⟨n, h3, ls, (hl n).trans h4, h5⟩
 ·rw [hR, hh] at he
  rw [hT]
  exact h.hd e he
 ·rw [hl] at hl2 ⊢
  rw [wat_same hw] at hn
  exact h.wi.wd c n hn hl2
 ·rw [hl] at hl2 ⊢
  rw [wat_same hw, wat_same hw]
  exact h.wi.wc n hl2
 ·rw [hl] at hl2 ⊢
  rw [hR, hh] at he
  rw [hR]
  exact h.wt n hl2 e he
theorem backL_watch (level : Int) : ∀ (r : List Int) (S : Sv), (backL level r S).watch = S.watch
 | [], S => rfl
 | l :: r, S => by
  rw [backL]
  split
  ·rfl
  ·exact backL_watch level r _
theorem back_eqs {S : Sv} {m : Nat} (ok : S.Ok m) {level : Nat} (hl : level < S.T.levels.length) :
  (S.back level).list = S.list ∧ (S.back level).watch = S.watch ∧ (S.back level).T.levels.length = level ∧ (S.back level).head = min S.head (S.back level).R.length ∧ ∃ B, S.R = (S.back level).R ++ B ∧ (∀ e ∈ B, (level : Int) < e.l) ∧ ∀ e ∈ (S.back level).R, e.l ≤ (level : Int) := by
 obtain ⟨B, h1, h2⟩ := cut_sorted (level : Int) ok.rep.sorted
 have hR := R_back ok level hl
 have hd := (ok.rep.back level hl).dep
 obtain ⟨g1, g2, g3, g4, g5⟩ := backL_same (level : Int) S.T.lits.reverse S m ok
 have hw := backL_watch (level : Int) S.T.lits.reverse S
 have hbT : (S.back level).T = S.T.backF level := by
  unfold back
  rw [if_neg (by omega)]
  simp only
  rw [g2]
 refine ⟨?_, ?_, by rw [hbT]; exact hd, ?_, B, by rw [hR]; exact h1, h2, fun e he => ?_⟩
 ·unfold back
  rw [if_neg (by omega)]
  exact g5
 ·unfold back
  rw [if_neg (by omega)]
  exact hw
 ·rw [R_len, hbT]
  unfold back
  rw [if_neg (by omega)]
  simp only
  rw [g2, g3]
 ·rw [hR] at he
  have := (List.mem_filter.1 he).2
  simpa using this
theorem Inv.back {S : Sv} (h : S.Inv) (level : Nat) : (S.back level).Inv := by
 by_cases hl : level < S.T.levels.length
 ·obtain ⟨h1, h2, h3, h4, B, h5, h6, h7⟩ := back_eqs h.ok hl
  have hrc := rc_same h1
  have hwa := wat_same h2
  have hin : ∀ e ∈ (S.back level).R, e ∈ S.R := fun e he => by rw [h5]; exact List.mem_append_left _ he
  have hbk : ∀ e ∈ S.R, e.l ≤ (level : Int) → e ∈ (S.back level).R := fun e he hle => by
   rw [h5] at he
   rcases List.mem_append.1 he with h8 | h8
   ·exact h8
   ·have := h6 e h8; omega
  refine ⟨(h.ok.back level).1, fun n => by rw [hrc]; exact h.dist n, fun A e B1 k1 k2 => ?_, fun A e B1 k1 k2 => h.dec A e (B1 ++ B) (by rw [h5, k1]; simp) k2, fun e he => ?_, ⟨fun c => by rw [hwa]; exact h.wi.nd c, fun c n hn hl2 => ?_, fun n hl2 => ?_⟩, fun n hl2 e he => ?_⟩
  ·obtain ⟨n, k3, ls, k4, k5⟩ := h.rsn A e (B1 ++ B) (by rw [h5, k1]; simp) k2
   exact ⟨n, k3, ls, by rw [hrc]; exact k4, k5⟩
  ·exfalso
   rw [h4] at he
   have hle := h7 e (List.mem_of_mem_drop he)
   by_cases hq : S.head ≤ (S.back level).R.length
   ·rw [Nat.min_eq_left hq] at he
    have := h.hd e (by rw [h5, List.drop_append_of_le_length hq]; exact List.mem_append_left _ he)
    omega
   ·rw [Nat.min_eq_right (by omega), List.drop_length] at he
    cases he
  ·rw [hrc] at hl2 ⊢
   rw [hwa] at hn
   exact h.wi.wd c n hn hl2
  ·rw [hrc] at hl2 ⊢
   rw [hwa, hwa]
   exact h.wi.wc n hl2
  ·rw [hrc] at hl2 ⊢
   have hm : e ∈ (S.back level).R := List.mem_of_mem_take he
   have hle := h7 e hm
   have ht : e ∈ S.R.take S.head := by
    rw [h4] at he
    rw [h5]
    have h8 : ((S.back level).R.take (min S.head (S.back level).R.length)) = ((S.back level).R ++ B).take (min S.head (S.back level).R.length) := (List.take_append_of_le_length (Nat.min_le_right _ _)).symm
    rw [h8] at he
    exact List.take_subset_take_left _ (Nat.min_le_left _ _) he
   obtain ⟨k1, k2⟩ := h.wt n hl2 e ht
   refine ⟨fun hx => ?_, fun hx => ?_⟩
   ·obtain ⟨e', k3, k4, k5⟩ := k1 hx
    exact ⟨e', hbk e' k3 (by omega), k4, k5⟩
   ·obtain ⟨e', k3, k4, k5⟩ := k2 hx
    exact ⟨e', hbk e' k3 (by omega), k4, k5⟩
 ·have : S.back level = S := by
   unfold Sv.back
   rw [if_pos (by omega)]
  rw [this]
  exact h
structure InvN (S : Sv) (x : Nat) : Prop where
 ok : S.Ok 0
 dist : ∀ n, ((S.rc n).lits.map tv).Nodup
 rsn : S.Rsn
 dec : S.Dec
 hd : S.Hd
 wi : S.WI S.wat
 wt : ∀ n, n ≠ x → S.WT1 (S.R.take S.head) n
theorem Inv.but {S : Sv} (h : S.Inv) (x : Nat) : S.InvN x := ⟨h.ok, h.dist, h.rsn, h.dec, h.hd, h.wi, fun n _ => h.wt n⟩
theorem put_more {S : Sv} {x : Nat} (h : S.InvN x) {y r : Int} (hb : S.T.putB y = true) (hr : 0 ≤ r ∧ r ≤ S.list.length)
  (h1 : r ≠ 0 → ∃ n : Nat, r = (n : Int) + 1 ∧ ∃ ls, (S.rc n).lits = y :: ls ∧ ∀ z ∈ ls, ∃ e' ∈ S.R, e'.x = -z)
  (h2 : r = 0 → S.T.levels.length = 0 ∨ ∀ e ∈ S.R, e.l < S.T.levels.length) : (S.put y r).InvN x ∧ (S.put y r).R = S.R ++ [⟨y, S.T.levels.length, r⟩] ∧ (S.put y r).R.take (S.put y r).head = S.R.take S.head := by
 have hR := R_put (r := r) h.ok hb
 have okP := Ok.put h.ok (x := y) (r := r) hr
 have hle : (S.put y r).T.levels = S.T.levels := put_levels S y r
 have hhd : S.head ≤ S.R.length := by rw [R_len]; exact h.ok.hd
 have hin : ∀ e ∈ S.R, e ∈ (S.put y r).R := fun e he => by rw [hR]; exact List.mem_append_left _ he
 have htk : (S.put y r).R.take (S.put y r).head = S.R.take S.head := by
  show (S.put y r).R.take S.head = _
  rw [hR, List.take_append_of_le_length hhd]
 refine ⟨⟨okP, h.dist, ?_, ?_, ?_, ⟨h.wi.nd, h.wi.wd, h.wi.wc⟩, fun j hj hl e he => ?_⟩, hR, htk⟩
 ·intro A e B hR2 hr
  rw [hR] at hR2
  rcases snoc_split hR2.symm with ⟨h3, h4, h5⟩ | ⟨B', h3, h4⟩
  ·subst h4
   rw [h5] at hr ⊢
   exact h1 hr
  ·exact h.rsn A e B' h4 hr
 ·intro A e B hR2 hr
  rw [hR] at hR2
  rcases snoc_split hR2.symm with ⟨h3, h4, h5⟩ | ⟨B', h3, h4⟩
  ·subst h4
   rw [h5] at hr ⊢
   rcases h2 hr with h6 | h6
   ·left
    show ((S.T.levels.length : Nat) : Int) = 0
    rw [h6]
    rfl
   ·exact .inr h6
  ·exact h.dec A e B' h4 hr
 ·intro e he
  have he : e ∈ (S.put y r).R.drop S.head := he
  rw [hle]
  rw [hR, List.drop_append_of_le_length hhd] at he
  rcases List.mem_append.1 he with h3 | h3
  ·exact h.hd e h3
  ·rw [List.mem_singleton.1 h3]
 ·rw [htk] at he
  obtain ⟨h3, h4⟩ := h.wt j hj hl e he
  refine ⟨fun h5 => ?_, fun h5 => ?_⟩
  ·obtain ⟨e', he', h6⟩ := h3 h5
   exact ⟨e', hin e' he', h6⟩
  ·obtain ⟨e', he', h6⟩ := h4 h5
   exact ⟨e', hin e' he', h6⟩
theorem InvN.whole {S : Sv} {x : Nat} (h : S.InvN x) (h1 : S.WT1 (S.R.take S.head) x) : S.Inv :=
 ⟨h.ok, h.dist, h.rsn, h.dec, h.hd, h.wi, fun n => by
  by_cases e : n = x
  ·rw [e]; exact h1
  ·exact h.wt n e⟩
theorem val_not {S : Sv} {m : Nat} (ok : S.Ok m) {x : Int} (h : S.val x = 0) : ∀ e ∈ S.R, e.x ≠ x ∧ e.x ≠ -x := fun e he => by
 constructor
 ·intro hx
  have := (val_pos ok x).2 ⟨e, he, hx⟩
  omega
 ·intro hx
  have := (val_neg ok).2 ⟨e, he, hx⟩
  omega
theorem Inv.put {S : Sv} (h : S.Inv) {y r : Int} (hb : S.T.putB y = true) (hr : 0 ≤ r ∧ r ≤ S.list.length)
  (h1 : r ≠ 0 → ∃ n : Nat, r = (n : Int) + 1 ∧ ∃ ls, (S.rc n).lits = y :: ls ∧ ∀ z ∈ ls, ∃ e' ∈ S.R, e'.x = -z)
  (h2 : r = 0 → S.T.levels.length = 0 ∨ ∀ e ∈ S.R, e.l < S.T.levels.length) : (S.put y r).Inv ∧ (S.put y r).R = S.R ++ [⟨y, S.T.levels.length, r⟩] := by
 obtain ⟨k1, k2, k3⟩ := put_more (h.but S.list.length) hb hr h1 h2
 refine ⟨k1.whole ?_, k2⟩
 intro hl
 exact absurd (show (S.rc S.list.length).lits = [] by rw [rc_out (Nat.le_refl _)]) hl
theorem newc_wat (S : Sv) (l : List Int) (b : Bool) (c : Nat) : (S.newc l b).wat c = S.wat c := rfl
theorem wput_wat (S : Sv) {c n : Nat} (hc : c < S.watch.length) (j : Nat) : (S.wput c n).wat j = if j = c then S.wat c ++ [n] else S.wat j := wat_wset S _ hc j
theorem Inv.attach {S : Sv} (h : S.Inv) {l : List Int} (hf : S.Fits l) (hd : (l.map tv).Nodup) (b : Bool) (hr : S.list.length < 1099511627776) :
  (S.attach l b).InvN S.list.length ∧ (S.attach l b).rc S.list.length = ⟨l, b, S.used⟩ ∧ ∀ n, n ≠ S.list.length → (S.attach l b).rc n = S.rc n := by
 have h2 := hf.two
 have ok := h.ok.attach hf b hr
 have l0 := hf.lit _ (get_mem (l := l) (i := 0) (by omega))
 have l1 := hf.lit _ (get_mem (l := l) (i := 1) (by omega))
 have hrc : ∀ n, (S.attach l b).rc n = if n = S.list.length then ⟨l, b, S.used⟩ else S.rc n := fun n => rc_newc S l b n
 have hc0 : lcode l[0]! < S.watch.length := by rw [h.ok.wl]; exact code_lt l0.2.1 l0.2.2
 have hc1 : lcode l[1]! < S.watch.length := by rw [h.ok.wl]; exact code_lt l1.2.1 l1.2.2
 have h01 : lcode l[0]! ≠ lcode l[1]! := fun e => by
  have := getE_ne hd (by omega : 0 < _) (by omega : 1 < _) (by omega)
  rw [lcode_inj e] at this
  exact this rfl
 have hwat : ∀ c, (S.attach l b).wat c = if c = lcode l[0]! ∨ c = lcode l[1]! then S.wat c ++ [S.list.length] else S.wat c := fun c => by
  show (((S.newc l b).wput (lcode l[0]!) S.list.length).wput (lcode l[1]!) S.list.length).wat c = _
  have hq := fun j => wput_wat (S.newc l b) (c := lcode l[0]!) (n := S.list.length) hc0 j
  rw [wput_wat _ (by show _ < (S.watch.set _ _).length; rw [List.length_set]; exact hc1), hq, hq, newc_wat, newc_wat, newc_wat]
  by_cases e1 : c = lcode l[1]!
  ·rw [if_pos e1, if_neg (fun e => h01 e.symm), if_pos (.inr e1), e1]
  ·rw [if_neg e1]
   by_cases e0 : c = lcode l[0]!
   ·rw [if_pos e0, if_pos (.inl e0), e0]
   ·rw [if_neg e0, if_neg (fun e => e.elim e0 e1)]
 have hnew : (S.attach l b).rc S.list.length = ⟨l, b, S.used⟩ := by rw [hrc, if_pos rfl]
 have hold : ∀ n, n ≠ S.list.length → (S.attach l b).rc n = S.rc n := fun n hn => by rw [hrc, if_neg hn]
 have hli : ∀ n, (S.rc n).lits ≠ [] → n ≠ S.list.length := fun n hn e => by
  have := in_list hn
  omega
 refine ⟨⟨ok, fun n => ?_, fun A e B k1 k2 => ?_, h.dec, h.hd, ⟨fun c => ?_, fun c n hn hl => ?_, fun n hl => ?_⟩, fun n hn hl e he => ?_⟩, hnew, hold⟩
 ·by_cases e : n = S.list.length
  ·rw [e, hnew]; exact hd
  ·rw [hold n e]; exact h.dist n
 ·obtain ⟨n, k3, ls, k4, k5⟩ := h.rsn A e B k1 k2
  exact ⟨n, k3, ls, by rw [hold n (hli n (by rw [k4]; simp))]; exact k4, k5⟩
 ·rw [hwat]
  have := h.wi.nd c
  split
  ·rw [List.nodup_append]
   refine ⟨this, by simp, fun a ha b' hb' => ?_⟩
   rw [List.mem_singleton.1 hb']
   have := h.ok.wb c a ha
   omega
  ·exact this
 ·rw [hwat] at hn
  by_cases e : n = S.list.length
  ·rw [e, hnew]
   split at hn
   ·rename_i hc
    exact hc.imp Eq.symm Eq.symm
   ·have := h.ok.wb c n hn
    omega
  ·rw [hold n e] at hl ⊢
   refine h.wi.wd c n ?_ hl
   split at hn
   ·rcases List.mem_append.1 hn with h3 | h3
    ·exact h3
    ·exact absurd (List.mem_singleton.1 h3) e
   ·exact hn
 ·by_cases e : n = S.list.length
  ·rw [e, hnew]
   rw [hwat, hwat, if_pos (.inl rfl), if_pos (.inr rfl)]
   exact ⟨by simp, by simp⟩
  ·rw [hold n e] at hl ⊢
   have hq := h.wi.wc n hl
   have hmm : ∀ c, n ∈ S.wat c → n ∈ (S.attach l b).wat c := fun c hc => by
    rw [hwat]
    split
    ·exact List.mem_append_left _ hc
    ·exact hc
   exact ⟨hmm _ hq.1, hmm _ hq.2⟩
 ·rw [hold n hn] at hl ⊢
  exact h.wt n hl e he
end Sv
theorem tv_in {x : Int} {v : Nat} (h0 : x ≠ 0) (h1 : -(v : Int) ≤ x) (h2 : x ≤ v) (hv : v ≤ 262143) : 1 ≤ tv x ∧ tv x ≤ v := by
 unfold tv
 split
 ·omega
 ·split <;> omega
namespace Sv
structure Nu (S S2 : Sv) : Prop where
 vars : S2.vars = S.vars
 list0 : S.list.length ≤ S2.list.length
 list1 : S2.list.length ≤ S.list.length + 1
 used : S2.used = S.used
 bump : S2.bump ≤ 1073741824
 many0 : S.many ≤ S2.many
 many1 : S2.many ≤ S.many + 1
 limit : S2.limit = S.limit
 core : S2.core = S.core
 lev : S2.T.levels.length ≤ S.T.levels.length
 bad : S2.bad = S.bad
theorem learnt_inv {B : Sv} (h : B.Inv) {l : List Int} (hr : B.list.length < 1099511627776) (l0 : 0 < l.length) (l1 : l.length ≤ 1048576) (hl : ∀ x ∈ l, x ≠ 0 ∧ -(B.vars : Int) ≤ x ∧ x ≤ B.vars) (hnd : (l.map tv).Nodup)
  (hv : B.val l[0]! = 0) (hin : ∀ k, 1 ≤ k → k < l.length → ∃ e ∈ B.R, e.x = -l[k]!) (h1 : l.length = 1 → B.T.levels.length = 0) (h2 : 2 ≤ l.length → ∃ e ∈ B.R, e.x = -l[1]! ∧ e.l = B.T.levels.length) : (B.learnt l).Inv := by
 have hl0 := hl _ (get_mem (l := l) (i := 0) l0)
 have ht := tv_in hl0.1 hl0.2.1 hl0.2.2 h.ok.vl
 unfold learnt
 by_cases e1 : l.length = 1
 ·rw [if_pos e1]
  exact (h.put (r := 0) (putB_of h.ok ht.1 ht.2 hv) (by omega) (fun h => absurd rfl h) (fun _ => .inl (h1 e1))).1
 ·rw [if_neg e1]
  obtain ⟨k1, k2, k3⟩ := h.attach (l := l) ⟨by omega, l1, hl⟩ hnd true hr
  have hs := attach_same B l true
  have hb : (B.attach l true).T.putB l[0]! = true := by
   rw [hs.1]
   exact putB_of h.ok ht.1 ht.2 hv
  have hRa : (B.attach l true).R = B.R := R_congr hs.1
  obtain ⟨y, ls, hls⟩ : ∃ y ls, l = y :: ls := by
   cases l with
   | nil => simp at l0
   | cons y ls => exact ⟨y, ls, rfl⟩
  have hy : l[0]! = y := by rw [hls]; rfl
  obtain ⟨p1, p2, p3⟩ := put_more k1 (r := (B.list.length : Int) + 1) hb (by rw [hs.2.2.1]; omega) (fun _ => ⟨B.list.length, rfl, ls, by rw [k2, hy]; exact hls, fun z hz => by
   obtain ⟨i, hi, hg⟩ := List.getElem_of_mem hz
   obtain ⟨e, he, hx⟩ := hin (i + 1) (by omega) (by rw [hls]; simp; omega)
   refine ⟨e, by rw [hRa]; exact he, ?_⟩
   rw [hx, hls, getE (by simp; omega)]
   simp [hg]⟩) (fun e => by omega)
  have hI : ((B.attach l true).put l[0]! ((B.list.length : Int) + 1)).Inv := by
   refine p1.whole ?_
   intro hne e he
   have hrc : ((B.attach l true).put l[0]! ((B.list.length : Int) + 1)).rc B.list.length = ⟨l, true, B.used⟩ := k2
   rw [hrc]
   rw [p3, hRa] at he
   have heR : e ∈ B.R := List.mem_of_mem_take he
   have hvn := val_not h.ok hv e heR
   refine ⟨fun hx => absurd hx hvn.2, fun hx => ?_⟩
   obtain ⟨e2, he2, hx2, hl2⟩ := h2 (by omega)
   have hee : e = e2 := R_uniq h.ok heR he2 (by
    have hx : e.x = -l[1]! := hx
    rw [hx, hx2])
   refine ⟨⟨l[0]!, (B.attach l true).T.levels.length, (B.list.length : Int) + 1⟩, by rw [p2]; simp, rfl, ?_⟩
   show ((B.attach l true).T.levels.length : Int) ≤ e.l
   rw [hs.1, hee, hl2]
   exact Int.le_refl _
  exact hI.congr (hI.ok.setmany _) rfl rfl (fun _ => rfl) rfl
theorem learnt_nu (B : Sv) (l : List Int) : Nu B (B.learnt l).bumped := by
 have hm : (B.learnt l).bumped.bump ≤ 1073741824 := Nat.min_le_right _ _
 by_cases e1 : l.length = 1
 ·have e : (B.learnt l) = B.put l[0]! 0 := by unfold learnt; rw [if_pos e1]
  rw [e] at hm ⊢
  exact ⟨rfl, Nat.le_refl _, by show B.list.length ≤ _; omega, rfl, hm, Int.le_refl _, by show B.many ≤ _; omega, rfl, rfl, by show (B.put l[0]! 0).T.levels.length ≤ _; rw [put_levels]; exact Nat.le_refl _, rfl⟩
 ·have e : (B.learnt l) = { ((B.attach l true).put l[0]! (B.list.length + 1)) with many := B.many + 1 } := by unfold learnt; rw [if_neg e1]
  have hs := attach_same B l true
  rw [e] at hm ⊢
  exact ⟨rfl, by show B.list.length ≤ (B.attach l true).list.length; omega, by show (B.attach l true).list.length ≤ _; omega, rfl, hm, by show B.many ≤ B.many + 1; omega, Int.le_refl _, rfl, rfl, by show ((B.attach l true).put l[0]! _).T.levels.length ≤ _; rw [put_levels, hs.1]; exact Nat.le_refl _, rfl⟩
theorem conflict_spec {S : Sv} (h : S.Inv) {n : Nat} (hc : S.Cfl n) (hn : (S.rc n).lits ≠ []) (hr : S.list.length < 1099511627776) (hd : 0 < S.T.levels.length) :
  ∃ S2 l lev, S.Lrd l lev ∧ S.conflict n = some (S2, true) ∧ S2.Inv ∧ Nu S S2 ∧ ∃ S1 : Sv, S1.skel = S.skel ∧ S2 = ((S1.back lev.toNat).learnt l).bumped := by
 obtain ⟨S1, l, lev, h1, h2, h3⟩ := learned_spec h.ok h.rsn h.dec hc hd hn
 obtain ⟨ok1, eT, eV, eL, eU, f0, f1, f2, f3, f4⟩ := learned_fit h.ok h1
 have hI1 : S1.Inv := h.congr ok1 eT (congrArg (fun x => x.2.2.2.2.2.2.1) h2) (fun j => (skel_rc h2 j).1) (congrArg (fun x => x.2.2.1) h2)
 have hR1 : S1.R = S.R := R_congr eT
 have hlt := h3.lt
 have hlv : lev.toNat < S1.T.levels.length := by rw [eT]; omega
 obtain ⟨b1, b2, b3, b4, BB, b5, b6, b7⟩ := back_eqs hI1.ok hlv
 have hlevN : ((lev.toNat : Nat) : Int) = lev := by omega
 have hbv := (hI1.ok.back lev.toNat).2.1
 have hIB := hI1.back lev.toNat
 have hbk : ∀ e ∈ S.R, e.l ≤ lev → e ∈ (S1.back lev.toNat).R := fun e he hle => by
  rw [← hR1, b5] at he
  rcases List.mem_append.1 he with h8 | h8
  ·exact h8
  ·have := b6 e h8; omega
 have hin : ∀ e ∈ (S1.back lev.toNat).R, e ∈ S.R := fun e he => by rw [← hR1, b5]; exact List.mem_append_left _ he
 obtain ⟨et, het, hetx, hetl⟩ := h3.top
 have hIL : ((S1.back lev.toNat).learnt l).Inv := by
  refine learnt_inv hIB (by rw [b1, eL]; exact hr) f0 f1 (by rw [hbv, eV]; exact f2) h3.nd ?_ (fun k k1 k2 => ?_) (fun k1 => by rw [b3, h3.one k1]; rfl) (fun k2 => ?_)
  ·rcases val_range hIB.ok l[0]! with h5 | h5 | h5
   ·exact h5
   ·exfalso
    obtain ⟨e, he, hx⟩ := (val_pos hIB.ok l[0]!).1 (by omega)
    exact not_both h.ok (hin e he) het (by rw [hx, hetx])
   ·exfalso
    obtain ⟨e, he, hx⟩ := (val_neg hIB.ok).1 (by omega : (S1.back lev.toNat).val l[0]! < 0)
    have hxe : e.x = et.x := by rw [hx, hetx]; omega
    have := R_uniq h.ok (hin e he) het (by rw [hxe])
    have := b7 e he
    subst_vars
    omega
  ·obtain ⟨e, he, hx, _, hle⟩ := h3.tail k k1 k2
   exact ⟨e, hbk e he hle, hx⟩
  ·obtain ⟨e, he, hx, hle⟩ := h3.two k2
   exact ⟨e, hbk e he (by omega), hx, by rw [b3]; omega⟩
 refine ⟨((S1.back lev.toNat).learnt l).bumped, l, lev, h3, ?_, hIL.congr hIL.ok.bumped rfl rfl (fun _ => rfl) rfl, ?_, S1, h2, rfl⟩
 ·unfold conflict
  rw [if_neg (by omega), h1]
 ·have hnu := learnt_nu (S1.back lev.toNat) l
  have hbm := back_more S1 lev.toNat
  have hmany : S1.many = S.many := congrArg (fun x => x.2.2.2.2.2.2.2.2.2.1) h2
  have hlim : S1.limit = S.limit := congrArg (fun x => x.2.2.2.2.2.2.2.2.2.2.1) h2
  have hcore : S1.core = S.core := congrArg (fun x => x.2.2.2.2.2.1) h2
  have hbad : S1.bad = S.bad := congrArg (fun x => x.2.2.2.2.2.2.2.2.2.2.2.1) h2
  have hn0 := hnu.list0
  have hn1 := hnu.list1
  have hm0 := hnu.many0
  have hm1 := hnu.many1
  have hlv2 := hnu.lev
  rw [b1, eL] at hn0 hn1
  rw [hbm.2.2.1, hmany] at hm0 hm1
  have hlv3 := hbm.2.2.2.2.2.1
  rw [eT] at hlv3
  exact ⟨hnu.vars.trans (hbv.trans eV), hn0, hn1, hnu.used.trans (hbm.2.1.trans eU), hnu.bump, hm0, hm1, hnu.limit.trans (hbm.2.2.2.1.trans hlim), hnu.core.trans (hbm.1.trans hcore), Nat.le_trans hlv2 hlv3, hnu.bad.trans (hbm.2.2.2.2.1.trans hbad)⟩
theorem val_opp {S : Sv} {m : Nat} (ok : S.Ok m) {x : Int} (h : S.val x = 0) : S.val (-x) = 0 := by
 rcases val_range ok (-x) with h1 | h1 | h1
 ·exact h1
 ·exfalso
  obtain ⟨e, he, hx⟩ := (val_pos ok (-x)).1 (by omega)
  exact (val_not ok h e he).2 hx
 ·exfalso
  obtain ⟨e, he, hx⟩ := (val_neg ok).1 (by omega : S.val (-x) < 0)
  exact (val_not ok h e he).1 (by omega)
theorem pickF_val {S0 : Sv} {m : Nat} (ok : S0.Ok m) : ∀ (f : Nat) (S : Sv), S.T = S0.T → (pickF f S).2 ≠ 0 → S0.val (pickF f S).2 = 0
 | 0, S, hT, h => absurd rfl h
 | f + 1, S, hT, h => by
  rw [pickF] at h ⊢
  split at h
  ·exact absurd rfl h
  ·rename_i hi
   rw [if_neg hi]
   simp only at h ⊢
   split at h
   ·rename_i hv
    rw [if_pos hv]
    exact pickF_val ok f _ hT h
   ·rename_i hv
    rw [if_neg hv]
    have h0 : S0.val (S.H.it 0) = 0 := by
     have : ({ S with H := S.H.popF } : Sv).val (S.H.it 0) = S0.val (S.H.it 0) := by unfold val; rw [show ({ S with H := S.H.popF } : Sv).T = S0.T from hT]
     rw [← this]
     exact Classical.byContradiction fun e => hv e
    simp only
    split
    ·exact h0
    ·exact val_opp ok h0
theorem Inv.deep {S : Sv} (h : S.Inv) (hf : S.head = S.T.lits.length) : S.deep.Inv := by
 have hR := R_deep h.ok
 refine ⟨h.ok.deep, h.dist, fun A e B h1 h2 => h.rsn A e B (hR ▸ h1) h2, fun A e B h1 h2 => h.dec A e B (hR ▸ h1) h2, fun e he => ?_, ⟨h.wi.nd, h.wi.wd, h.wi.wc⟩, h.wt⟩
 exfalso
 rw [hR] at he
 have he : e ∈ S.R.drop S.head := he
 rw [hf, ← R_len, List.drop_length] at he
 cases he
theorem Inv.choice {S : Sv} (h : S.Inv) (hf : S.head = S.T.lits.length) {x : Int} (h0 : x ≠ 0) (h1 : -(S.vars : Int) ≤ x) (h2 : x ≤ S.vars) (hv : S.val x = 0) : (S.deep.put x 0).Inv ∧ (S.deep.put x 0).R = S.R ++ [⟨x, (S.T.levels.length + 1 : Nat), 0⟩] := by
 have ht := tv_in h0 h1 h2 h.ok.vl
 have hb : S.deep.T.putB x = true := putB_of (S := S.deep) h.ok.deep ht.1 ht.2 hv
 have hR := R_deep h.ok
 obtain ⟨k1, k2⟩ := (h.deep hf).put (r := 0) hb ⟨Int.le_refl _, by omega⟩ (fun h => absurd rfl h) (fun _ => .inr fun e he => by
  rw [hR] at he
  have := (R_rng h.ok he).2.2.2
  rw [deep_levels]
  omega)
 rw [deep_levels, hR] at k2
 exact ⟨k1, k2⟩
theorem choose_spec {S : Sv} (h : S.Inv) (hf : S.head = S.T.lits.length) : S.choose.1.Inv ∧ (S.choose.2 = 0 → S.choose.1.T.lits.length = S.T.lits.length + 1) := by
 obtain ⟨p1, p2, p3, p4, p5, p6, p7⟩ := h.ok.pick
 have hw : S.pick.1.watch = S.watch := by
  have : ∀ (f : Nat) (S : Sv), (pickF f S).1.watch = S.watch := by
   intro f
   induction f with
   | zero => intro S; rfl
   | succ f ih =>
    intro S
    rw [pickF]
    split
    ·rfl
    ·simp only
     split
     ·exact ih _
     ·rfl
  exact this _ S
 have hI : S.pick.1.Inv := h.congr p1 p2 p5 (fun n => by rw [rc_same p4]) hw
 unfold choose
 by_cases h0 : S.pick.2 = 0
 ·rw [if_pos h0]
  exact ⟨hI.congr hI.ok.keep rfl rfl (fun _ => rfl) rfl, fun h => by cases h⟩
 ·rw [if_neg h0]
  have hv := pickF_val h.ok _ S rfl h0
  obtain ⟨k1, k2⟩ := hI.choice (by rw [p2, p5]; exact hf) h0 (by rw [p3]; exact p6) (by rw [p3]; exact p7) (by unfold val; rw [p2]; exact hv)
  refine ⟨k1, fun _ => ?_⟩
  rw [← R_len, k2, List.length_append, R_len, p2]
  rfl
theorem decideF_spec {us : List Int} : ∀ (f : Nat) (S : Sv), S.Inv → S.head = S.T.lits.length → (∀ x ∈ us, x ≠ 0 ∧ -(S.vars : Int) ≤ x ∧ x ≤ S.vars) → (decideF us f S).1.Inv ∧ ((decideF us f S).2 = 0 → (decideF us f S).1.T.lits.length = S.T.lits.length + 1)
 | 0, S, h, hf, hu => choose_spec h hf
 | f + 1, S, h, hf, hu => by
  rw [decideF]
  split
  ·rename_i hd
   have ha := hu _ (get_mem (l := us) hd)
   simp only
   split
   ·exact ⟨h.congr (h.ok.setcore _) rfl rfl (fun _ => rfl) rfl, fun h => by cases h⟩
   ·split
    ·rename_i h1 h2
     obtain ⟨k1, k2⟩ := h.choice hf ha.1 ha.2.1 ha.2.2 h2
     refine ⟨k1, fun _ => ?_⟩
     rw [← R_len, k2, List.length_append, R_len]
     rfl
    ·have := decideF_spec f S.deep (h.deep hf) hf hu
     exact this
  ·exact choose_spec h hf
theorem decide_spec {S : Sv} {us : List Int} (h : S.Inv) (hf : S.head = S.T.lits.length) (hu : ∀ x ∈ us, x ≠ 0 ∧ -(S.vars : Int) ≤ x ∧ x ≤ S.vars) : (S.decide_ us).1.Inv ∧ ((S.decide_ us).2 = 0 → (S.decide_ us).1.T.lits.length = S.T.lits.length + 1) := decideF_spec _ S h hf hu
end Sv
end Go.Proofs.Ytjchilcpflfcnaa
