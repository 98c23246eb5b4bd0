/- Target's circuit may be: the plain law. -/
import Derived.Test.YtbjccgahmgpkjaaTgtV
import Derived.Test.YtbjccgahmgpkjaaCirK
namespace Go.Proofs.Ytbjccgahmgpkjaa
open Go.RowKit
set_option linter.unusedVariables false

/-- Two names, one behind the other, in order. -/
def goodN (y x : Nm) : Prop := pairBad y x = false
theorem rk_inj {a b : ByteArray} (h : rk a = rk b) (ha : 0 ≤ rk a) : (a.toList == b.toList) = true := by
  unfold rk at h ha
  split at h
  · split at h
    · rename_i h1 h2
      simp only [beq_iff_eq] at h1 h2 ⊢
      rw [h1, h2]
    · exfalso; repeat (first | omega | split at h)
  · split at h
    · split at h
      · exfalso; omega
      · split at h
        · rename_i h1 _ h2
          simp only [beq_iff_eq] at h1 h2 ⊢
          rw [h1, h2]
        · exfalso; repeat (first | omega | split at h)
    · split at h
      · split at h
        · exfalso; omega
        · split at h
          · exfalso; omega
          · split at h
            · rename_i h1 _ _ h2
              simp only [beq_iff_eq] at h1 h2 ⊢
              rw [h1, h2]
            · exfalso; repeat (first | omega | split at h)
      · split at h
        · split at h
          · exfalso; omega
          · split at h
            · exfalso; omega
            · split at h
              · exfalso; omega
              · split at h
                · rename_i h1 _ _ _ h2
                  simp only [beq_iff_eq] at h1 h2 ⊢
                  rw [h1, h2]
                · exfalso; repeat (first | omega | split at h)
        · split at h
          · split at h
            · exfalso; omega
            · split at h
              · exfalso; omega
              · split at h
                · exfalso; omega
                · split at h
                  · exfalso; omega
                  · split at h
                    · rename_i h1 _ _ _ _ h2
                      simp only [beq_iff_eq] at h1 h2 ⊢
                      rw [h1, h2]
                    · exfalso; omega
          · rename_i h1 h2 h3 h4 h5
            simp only [if_neg h1, if_neg h2, if_neg h3, if_neg h4, if_neg h5] at ha
            exfalso; omega

theorem rk_of {a b : ByteArray} (h : a.toList = b.toList) : rk a = rk b := by unfold rk; rw [h]
theorem cnt_of {a b : ByteArray} (C : Pc) (h : a.toList = b.toList) : cnt C a = cnt C b := by unfold cnt; rw [h]
theorem rk_cnt {C : Pc} {k : ByteArray} (h : 0 < cnt C k) : 0 ≤ rk k := by
  unfold cnt at h
  unfold rk
  split
  · omega
  · rename_i h1
    rw [if_neg h1] at h
    split
    · omega
    · rename_i h2
      rw [if_neg h2] at h
      split
      · omega
      · rename_i h3
        rw [if_neg h3] at h
        split
        · omega
        · rename_i h4
          rw [if_neg h4] at h
          split
          · omega
          · rename_i h5
            rw [if_neg h5] at h
            omega
theorem name_rk {C : Pc} {x : Nm} (h : nameB C x = true) : 0 ≤ rk x.k := by
  simp only [nameB, headB, Bool.and_eq_true, decide_eq_true_eq] at h
  exact rk_cnt (C := C) (by omega)
theorem good_trans {a b c : Nm} (ha : 0 ≤ rk a.k) (hb : 0 ≤ rk b.k) (h1 : goodN a b) (h2 : goodN b c) : goodN a c := by
  unfold goodN pairBad at *
  simp only [Bool.or_eq_false_iff, decide_eq_false_iff_not, Bool.and_eq_false_iff] at *
  obtain ⟨p1, q1⟩ := h1
  obtain ⟨p2, q2⟩ := h2
  refine ⟨by omega, ?_⟩
  by_cases hk : (a.k.toList == c.k.toList) = true
  · right
    have e := rk_of (beq_iff_eq.1 hk)
    have e1 : (a.k.toList == b.k.toList) = true := rk_inj (by omega) ha
    have e2 : (b.k.toList == c.k.toList) = true := rk_inj (by omega) hb
    rcases q1 with q1 | q1
    · rw [e1] at q1; cases q1
    · rcases q2 with q2 | q2
      · rw [e2] at q2; cases q2
      · omega
  · left
    exact Bool.eq_false_iff.2 hk
theorem names_pw {C : Pc} (h : namesB C = true) : C.nms.Pairwise goodN := by
  have hn := (names_iff C).1 h
  have key : ∀ j i : Nat, i < j → j < C.nms.length → goodN C.nms[i]! C.nms[j]! := by
    intro j
    induction j with
    | zero => intro i hi; omega
    | succ j ih =>
      intro i hi hj
      have hs : goodN C.nms[j]! C.nms[j + 1]! := (hn (j + 1) hj).2 (by omega)
      by_cases e : i = j
      · subst e; exact hs
      · exact good_trans (name_rk (hn i (by omega)).1) (name_rk (hn j (by omega)).1) (ih i (by omega) (by omega)) hs
  rw [List.pairwise_iff_getElem]
  intro i j hi hj hij
  have := key j i hij hj
  simpa [List.getElem!_eq_getElem?_getD, List.getElem?_eq_getElem hi, List.getElem?_eq_getElem hj] using this

/-- What stays of a circuit's numbers: another one knows what this one knows. -/
structure Grows (C D : Pc) : Prop where
  i : D.ins = C.ins
  l : D.lat = C.lat
  o : D.outs = C.outs
  v : D.invs = C.invs
  b : D.bads.length = 1
  n : D.nms = kept C.nms
  k : ∀ v, knownB C v = true → knownB D v = true
theorem Grows.lit {C D : Pc} (h : Grows C D) {l : Int} (hl : litB C l = true) : litB D l = true := by
  simp only [litB, Bool.and_eq_true] at hl ⊢
  exact ⟨hl.1, h.k _ hl.2⟩
theorem Grows.names {C D : Pc} (h : Grows C D) (hn : namesB C = true) : namesB D = true := by
  rw [names_iff]
  unfold NamesTo
  have hpw := names_pw hn
  have hall := (mem_idx (p := fun x : Nm => nameB C x = true)).1 (fun j hj => ((names_iff C).1 hn j hj).1)
  have hkp : (kept C.nms).Pairwise goodN := hpw.sublist List.filter_sublist
  simp only [h.n]
  have hname : ∀ x ∈ kept C.nms, nameB D x = true := by
    intro x hx
    obtain ⟨hx1, hx2⟩ := List.mem_filter.1 hx
    have hc := hall x hx1
    simp only [nameB, headB, Bool.and_eq_true, decide_eq_true_eq] at hc ⊢
    refine ⟨⟨⟨⟨hc.1.1.1.1, ?_⟩, hc.1.1.2⟩, hc.1.2⟩, hc.2⟩
    have hi := hc.1.1.1.2
    have h0 := hc.1.1.1.1
    unfold cnt at hi ⊢
    rw [h.i, h.l, h.o, h.v, h.b]
    by_cases k1 : (x.k.toList == [105]) = true
    · rw [if_pos k1] at hi ⊢; exact hi
    · rw [if_neg k1] at hi ⊢
      by_cases k2 : (x.k.toList == [108]) = true
      · rw [if_pos k2] at hi ⊢; exact hi
      · rw [if_neg k2] at hi ⊢
        by_cases k3 : (x.k.toList == [111]) = true
        · rw [if_pos k3] at hi ⊢; exact hi
        · rw [if_neg k3] at hi ⊢
          by_cases k4 : (x.k.toList == [98]) = true
          · rw [if_pos k4]
            simp only [delB, k4, Bool.true_and, Bool.not_eq_true', decide_eq_false_iff_not] at hx2
            omega
          · rw [if_neg k4] at hi ⊢
            exact hi
  intro j hj
  refine ⟨?_, fun h0 => ?_⟩
  · exact (mem_idx (p := fun x : Nm => nameB D x = true)).2 hname j hj
  · have := (List.pairwise_iff_getElem.1 hkp) (j - 1) j (by omega) hj (by omega)
    simpa [List.getElem!_eq_getElem?_getD, List.getElem?_eq_getElem hj, List.getElem?_eq_getElem (show j - 1 < (kept C.nms).length by omega), goodN] using this

/-- THE LAW: a target may be. -/
theorem tgt_valid {C : Pc} (hv : Valid C) (xs : List Int) (hk : ∀ x ∈ xs, litB C x = true) (hl : (xs.length : Int) - 1 ≤ 2048 - C.mx) : Valid (tgt C xs) := by
  have hm0 := hv.m0
  have hm1 := hv.m1
  have hall : ∀ {D : Pc} (g : Grows C D) {l : List Int}, allB C l = true → allB D l = true := by
    intro D g l h
    simp only [allB, Bool.and_eq_true, List.all_eq_true] at h ⊢
    exact ⟨fun x hx => g.lit (h.1 x hx), h.2⟩
  have hlat : ∀ {D : Pc} (g : Grows C D), ∀ j : Nat, j < C.lat.length → latB D C.lat[j]! = true := by
    intro D g j hj
    have := hv.lat j hj
    simp only [latB, Bool.and_eq_true] at this ⊢
    exact ⟨this.1, g.lit this.2⟩
  cases xs with
  | nil =>
    have g : Grows C (tgt C []) := ⟨rfl, rfl, rfl, rfl, rfl, rfl, fun v h => h⟩
    refine ⟨hm0, hm1, hv.i, hv.l, g.names hv.n, hlat g, hv.ands, hv.own, hall g hv.o, ?_, hall g hv.v⟩
    simp [tgt, allB, litB, knownB]
  | cons x r =>
    have g : Grows C (tgt C (x :: r)) := ⟨rfl, rfl, rfl, rfl, rfl, rfl, fun v h => by
      simp only [knownB, Bool.or_eq_true] at h ⊢
      rcases h with h | h
      · exact .inl h
      · refine .inr ?_
        simp only [tgt, List.any_append, Bool.or_eq_true]
        exact .inl h⟩
    simp only [List.length_cons] at hl
    have hxl := lit_le hv (hk x (by simp))
    obtain ⟨n1, n2, n3⟩ := notI_div x hxl.1
    have hnl : litB C (notI x) = true := by
      have := hk x (by simp)
      simp only [litB, Bool.and_eq_true, decide_eq_true_eq] at this ⊢
      rw [n1]
      exact ⟨n2, this.2⟩
    have hN : (gtAnds C.mx (notI x) r).length = r.length := gtAnds_len _ _ _
    have hget : ∀ j : Nat, j < r.length → (gtAnds C.mx (notI x) r)[j]! = ⟨2 * (C.mx + j + 1), if j = 0 then notI x else 2 * (C.mx + j), notI r[j]!⟩ := by
      intro j hj
      rw [gtAnds_get _ _ _ _ hj, gtAll_take _ _ _ _ (by omega)]
    have hgate : ∀ j : Nat, j < r.length → knownB (tgt C (x :: r)) (C.mx + j + 1) = true := by
      intro j hj
      simp only [knownB, Bool.or_eq_true]
      refine .inr ?_
      simp only [tgt, List.any_append, Bool.or_eq_true]
      refine .inr (List.any_eq_true.2 ⟨(gtAnds C.mx (notI x) r)[j]!, ?_, ?_⟩)
      · rw [List.getElem!_eq_getElem?_getD, List.getElem?_eq_getElem (by omega)]
        simp
      · rw [hget j hj]
        simp only [hit, Bool.and_eq_true, decide_eq_true_eq]
        omega
    have hlitg : ∀ j : Nat, j ≤ r.length → 0 < j → litB (tgt C (x :: r)) (2 * (C.mx + j)) = true := by
      intro j hj h0
      simp only [litB, Bool.and_eq_true, decide_eq_true_eq]
      refine ⟨by omega, ?_⟩
      have := hgate (j - 1) (by omega)
      have e : 2 * (C.mx + (j : Int)) / 2 = C.mx + ((j - 1 : Nat) : Int) + 1 := by omega
      rw [e]
      exact this
    have hands : ∀ j : Nat, j < C.ands.length → (tgt C (x :: r)).ands[j]! = C.ands[j]! := by
      intro j hj
      simp only [tgt, List.getElem!_eq_getElem?_getD]
      rw [List.getElem?_append_left hj]
    have hands2 : ∀ j : Nat, j < r.length → (tgt C (x :: r)).ands[C.ands.length + j]! = ⟨2 * (C.mx + j + 1), if j = 0 then notI x else 2 * (C.mx + j), notI r[j]!⟩ := by
      intro j hj
      rw [← hget j hj]
      simp only [tgt, List.getElem!_eq_getElem?_getD]
      rw [List.getElem?_append_right (by omega)]
      congr 2
      omega
    have hrl : ∀ j : Nat, j < r.length → litB C r[j]! = true := (mem_idx (p := fun y : Int => litB C y = true)).2 (fun y hy => hk y (by simp [hy]))
    have hlen : (tgt C (x :: r)).ands.length = C.ands.length + r.length := by simp only [tgt, List.length_append, hN]
    refine ⟨by simp only [tgt]; omega, by simp only [tgt]; omega, hv.i, hv.l, g.names hv.n, hlat g, ?_, ?_, hall g hv.o, ?_, hall g hv.v⟩
    · intro j hj
      rw [hlen] at hj
      by_cases h1 : j < C.ands.length
      · have h2 := hv.ands j h1
        have hp : prv (tgt C (x :: r)).ands j = prv C.ands j := by
          unfold prv
          split
          · rfl
          · rw [hands (j - 1) (by omega)]
        rw [hp, hands j h1]
        simp only [andB, Bool.and_eq_true] at h2 ⊢
        exact ⟨⟨h2.1.1, g.lit h2.1.2⟩, g.lit h2.2⟩
      · obtain ⟨i, rfl⟩ : ∃ i, j = C.ands.length + i := ⟨j - C.ands.length, by omega⟩
        have hi : i < r.length := by omega
        have hrj := hrl i hi
        have hrb := lit_le hv hrj
        obtain ⟨m1, m2, m3⟩ := notI_div (r[i]!) hrb.1
        have hnr : litB C (notI r[i]!) = true := by
          simp only [litB, Bool.and_eq_true, decide_eq_true_eq] at hrj ⊢
          rw [m1]
          exact ⟨m2, hrj.2⟩
        have hnb := lit_le hv hnr
        have hnb2 := lit_le hv hnl
        rw [hands2 i hi]
        simp only [andB, Bool.and_eq_true, decide_eq_true_eq]
        refine ⟨⟨⟨⟨?_, ?_⟩, by omega⟩, ?_⟩, g.lit hnr⟩
        · cases hc : prv (tgt C (x :: r)).ands (C.ands.length + i) with
          | none => rfl
          | some q =>
            simp only [decide_eq_true_eq]
            unfold prv at hc
            split at hc
            · cases hc
            · rename_i hne
              simp only [Option.some.injEq] at hc
              subst hc
              by_cases hi0 : i = 0
              · subst hi0
                have e0 : C.ands.length + 0 - 1 = C.ands.length - 1 := rfl
                rw [e0, hands (C.ands.length - 1) (by omega)]
                have := own_get C hv (C.ands.length - 1) (by omega)
                omega
              · have e : C.ands.length + i - 1 = C.ands.length + (i - 1) := by omega
                rw [e, hands2 (i - 1) (by omega)]
                simp only
                omega
        · split <;> omega
        · split
          · exact g.lit hnl
          · exact hlitg i (by omega) (by omega)
    · intro j hj
      have hL : ownL (tgt C (x :: r)) = ownL C ++ (gtAnds C.mx (notI x) r).map (fun y => y.a) := by
        simp only [ownL, tgt, List.map_append, List.append_assoc]
      rw [hL] at hj ⊢
      by_cases h1 : j < (ownL C).length
      · have h2 := hv.own j h1
        have e1 : (ownL C ++ (gtAnds C.mx (notI x) r).map (fun y => y.a))[j]! = (ownL C)[j]! := by
          simp only [List.getElem!_eq_getElem?_getD]
          rw [List.getElem?_append_left h1]
        have e2 : (ownL C ++ (gtAnds C.mx (notI x) r).map (fun y => y.a)).take j = (ownL C).take j := by
          rw [List.take_append_of_le_length (by omega)]
        simp only [ownB, e1, e2, Bool.and_eq_true, decide_eq_true_eq] at h2 ⊢
        refine ⟨⟨h2.1.1, ?_⟩, h2.2⟩
        simp only [tgt]
        omega
      · rw [List.length_append, List.length_map, hN] at hj
        obtain ⟨i, rfl⟩ : ∃ i, j = (ownL C).length + i := ⟨j - (ownL C).length, by omega⟩
        have hi : i < r.length := by omega
        have hmap : ∀ i : Nat, i < r.length → ((gtAnds C.mx (notI x) r).map (fun y => y.a))[i]? = some (2 * (C.mx + i + 1)) := by
          intro i hi
          have := hget i hi
          rw [List.getElem!_eq_getElem?_getD, List.getElem?_eq_getElem (by omega), Option.getD_some] at this
          rw [List.getElem?_map, List.getElem?_eq_getElem (by omega), this]
          rfl
        have e1 : (ownL C ++ (gtAnds C.mx (notI x) r).map (fun y => y.a))[(ownL C).length + i]! = 2 * (C.mx + i + 1) := by
          rw [List.getElem!_eq_getElem?_getD, List.getElem?_append_right (by omega), Nat.add_sub_cancel_left, hmap i hi]
          rfl
        simp only [ownB, e1, Bool.and_eq_true, decide_eq_true_eq, Bool.not_eq_true', decide_eq_false_iff_not]
        refine ⟨⟨⟨by omega, by omega⟩, by simp only [tgt]; omega⟩, ?_⟩
        intro hmem
        rw [List.take_append, List.take_of_length_le (by omega)] at hmem
        rw [Nat.add_sub_cancel_left] at hmem
        rcases List.mem_append.1 hmem with h | h
        · have := all_own hv _ h
          omega
        · obtain ⟨q, hq, e⟩ := List.mem_iff_getElem.1 h
          rw [List.length_take, List.length_map, hN] at hq
          rw [List.getElem_take] at e
          have h3 := hmap q (by omega)
          rw [List.getElem?_eq_getElem (by rw [List.length_map, hN]; omega), e] at h3
          simp only [Option.some.injEq] at h3
          omega
    · simp only [tgt, allB, List.all_cons, List.all_nil, Bool.and_true, Bool.and_eq_true, List.length_singleton]
      refine ⟨?_, by simp⟩
      have e := gtAll_take r C.mx (notI x) r.length (Nat.le_refl _)
      rw [List.take_length] at e
      have hgoal : litB (tgt C (x :: r)) (gtAll C.mx (notI x) r) = true := by
        rw [e]
        split
        · exact g.lit hnl
        · exact hlitg r.length (Nat.le_refl _) (by omega)
      exact hgoal

end Go.Proofs.Ytbjccgahmgpkjaa
