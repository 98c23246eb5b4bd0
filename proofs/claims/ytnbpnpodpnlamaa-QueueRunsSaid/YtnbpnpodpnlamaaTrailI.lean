/- The plain law of the trail: what it tells is what a list of what was set tells, each with its level and its reason. No program in sight. -/
import Derived.Test.YtnbpnpodpnlamaaTrailH
namespace Go.Proofs.Ytnbpnpodpnlamaa
set_option linter.unusedVariables false

/-- A literal that is set, its level, its reason. -/
structure St where
  x : Int
  l : Int
  r : Int
instance : Inhabited St := ⟨⟨0, 0, 0⟩⟩
def look (S : List St) (v : Int) : Option St := S.find? (fun e => tv e.x == v)
def stCel (e : St) : Cel := ⟨if e.x < 0 then -1 else 1, e.l, e.r⟩
def celOf : Option St → Cel
  | none => Cel.free
  | some e => stCel e

theorem look_some {S : List St} {v : Int} {e : St} (h : look S v = some e) : e ∈ S ∧ tv e.x = v := by
  refine ⟨List.mem_of_find?_eq_some h, ?_⟩
  have := List.find?_some h
  simpa using this
theorem look_none {S : List St} {v : Int} (h : look S v = none) : ∀ e, e ∈ S → tv e.x ≠ v := by
  intro e he
  have := List.find?_eq_none.1 h e he
  simpa using this
theorem look_none_of {S : List St} {v : Int} (h : ∀ e, e ∈ S → tv e.x ≠ v) : look S v = none := List.find?_eq_none.2 fun e he => by simpa using h e he
theorem look_app (S : List St) (e : St) (v : Int) : look (S ++ [e]) v = if tv e.x = v then (look S v).or (some e) else look S v := by
  unfold look
  rw [List.find?_append]
  by_cases h : tv e.x = v
  · simp [h]
  · simp [h]
theorem look_mem {S : List St} (hn : (S.map fun e : St => tv e.x).Nodup) {e : St} (he : e ∈ S) : look S (tv e.x) = some e := by
  induction S with
  | nil => simp at he
  | cons d S ih =>
    simp only [List.map_cons, List.nodup_cons, List.mem_map, not_exists, not_and] at hn
    unfold look
    rw [List.find?_cons]
    rcases List.mem_cons.1 he with rfl | he
    · simp
    · have : (tv d.x == tv e.x) = false := beq_eq_false_iff_ne.2 fun h => hn.1 e he h.symm
      rw [this]
      exact ih hn.2 he

theorem cel_set (cs : List Cel) (i : Nat) (x : Cel) (j : Nat) (hi : i < cs.length) : (cs.set i x)[j]! = if j = i then x else cs[j]! := by
  simp only [List.getElem!_eq_getElem?_getD, List.getElem?_set]
  by_cases h : i = j
  · subst h; simp [hi]
  · rw [if_neg h, if_neg (fun e => h e.symm)]

theorem clearL_get : ∀ (ls : List Int) (cs : List Cel) (j : Nat), (∀ l, l ∈ ls → (tv l).toNat < cs.length) → (clearL cs ls)[j]! = if j ∈ ls.map (fun l => (tv l).toNat) then Cel.free else cs[j]! := by
  intro ls
  induction ls with
  | nil => intro cs j _; simp [clearL]
  | cons l ls ih =>
    intro cs j h
    have h1 : (tv l).toNat < cs.length := h l (by simp)
    have e : clearL cs (l :: ls) = clearL (cs.set (tv l).toNat Cel.free) ls := rfl
    rw [e, ih _ j (fun l' hl' => by rw [List.length_set]; exact h l' (by simp [hl'])), cel_set _ _ _ _ h1]
    by_cases h2 : j ∈ ls.map (fun l => (tv l).toNat)
    · simp [h2]
    · by_cases h3 : j = (tv l).toNat
      · simp [h3]
      · simp [h3]

theorem nodup_lt_len : ∀ (n : Nat) (l : List Nat), l.Nodup → (∀ x, x ∈ l → x < n) → l.length ≤ n := by
  intro n
  induction n with
  | zero =>
    intro l _ h
    cases l with
    | nil => exact Nat.le_refl _
    | cons a l => exact absurd (h a (by simp)) (Nat.not_lt_zero _)
  | succ n ih =>
    intro l hn h
    by_cases hm : n ∈ l
    · have := ih (l.erase n) (hn.erase n) (fun x hx => by
        obtain ⟨h1, h2⟩ := (hn.mem_erase_iff).1 hx
        have := h x h2
        omega)
      rw [List.length_erase_of_mem hm] at this
      omega
    · have := ih l hn (fun x hx => by
        have := h x hx
        by_cases e : x = n
        · subst e; exact absurd hx hm
        · omega)
      omega

/-- The trail holds these, over so many variables, at this depth. -/
structure TRep (T : Tr) (vars : Nat) (S : List St) (depth : Nat) : Prop where
  size : T.cells.length = vars + 1
  lits : T.lits = S.map (·.x)
  dep : T.levels.length = depth
  lev : ∀ m : Nat, m < depth → T.levels[m]! = ((S.filter (fun e : St => decide (e.l ≤ (m : Int)))).length : Int)
  sorted : S.Pairwise (fun a b : St => a.l ≤ b.l)
  bound : ∀ e, e ∈ S → 0 ≤ e.l ∧ e.l ≤ depth ∧ 1 ≤ tv e.x ∧ tv e.x ≤ vars
  nd : (S.map fun e : St => tv e.x).Nodup
  cell : ∀ v : Int, 1 ≤ v → v ≤ vars → T.cel v = celOf (look S v)

namespace TRep
variable {T : Tr} {vars : Nat} {S : List St} {depth : Nat}

theorem isB (h : TRep T vars S depth) (v : Int) : T.isB v = (decide (1 ≤ v) && decide (v ≤ vars)) := by
  unfold Tr.isB
  rw [h.size]
  by_cases h1 : 1 ≤ v <;> by_cases h2 : v ≤ vars <;> simp [h1, h2] <;> omega
theorem fresh : TRep Tr.fresh 0 [] 0 := by
  refine ⟨rfl, rfl, rfl, fun m hm => absurd hm (Nat.not_lt_zero _), List.Pairwise.nil, fun e he => by simp at he, by simp, fun v h0 h1 => ?_⟩
  have : v ≤ 0 := by simpa using h1
  omega
theorem growBy (h : TRep T vars S depth) (k : Nat) : TRep (T.growBy k) (vars + k) S depth := by
  refine ⟨by simp [Tr.growBy, h.size]; omega, h.lits, h.dep, h.lev, h.sorted, fun e he => ?_, h.nd, fun v h0 h1 => ?_⟩
  · obtain ⟨a, b, c, d⟩ := h.bound e he
    exact ⟨a, b, c, by omega⟩
  · by_cases hv : v ≤ vars
    · rw [← h.cell v h0 hv]
      unfold Tr.cel Tr.growBy
      simp only [List.getElem!_eq_getElem?_getD]
      rw [List.getElem?_append_left (by rw [h.size]; omega)]
    · have hl : look S v = none := look_none_of fun e he => by have := (h.bound e he).2.2.2; omega
      rw [hl]
      unfold Tr.cel Tr.growBy
      simp only [List.getElem!_eq_getElem?_getD]
      rw [List.getElem?_append_right (by rw [h.size]; omega), List.getElem?_replicate, if_pos (by rw [h.size]; omega)]
      rfl
theorem room (h : TRep T vars S depth) (k : Nat) (hk : vars + k ≤ 262144) : T.room k = k := by
  unfold Tr.room
  rw [h.size]
  omega
theorem grow (h : TRep T vars S depth) (k : Nat) (hk : vars + k ≤ 262144) : TRep (T.growF k) (vars + k) S depth := by
  unfold Tr.growF
  rw [h.room k hk]
  exact h.growBy k
theorem putB (h : TRep T vars S depth) (l : Int) : T.putB l = (decide (1 ≤ tv l) && decide (tv l ≤ vars) && (look S (tv l)).isNone) := by
  unfold Tr.putB
  rw [h.isB]
  by_cases h1 : 1 ≤ tv l
  · by_cases h2 : tv l ≤ vars
    · rw [h.cell _ h1 h2]
      cases hl : look S (tv l) with
      | none => simp [h1, h2, celOf, Cel.free]
      | some e =>
        simp only [h1, h2, celOf, stCel]
        by_cases h3 : e.x < 0 <;> simp [h3]
    · simp [h2]
  · simp [h1]
theorem put (h : TRep T vars S depth) (l r : Int) (hb : T.putB l = true) : TRep (T.putF l r) vars (S ++ [⟨l, depth, r⟩]) depth := by
  rw [h.putB] at hb
  simp only [Bool.and_eq_true, decide_eq_true_eq, Option.isNone_iff_eq_none] at hb
  obtain ⟨⟨h1, h2⟩, h3⟩ := hb
  have hne := look_none h3
  have hi : (tv l).toNat < T.cells.length := by rw [h.size]; omega
  refine ⟨by simp [Tr.putF, h.size], by simp [Tr.putF, h.lits], h.dep, fun m hm => ?_, ?_, fun e he => ?_, ?_, fun v h0 hv => ?_⟩
  · have := h.lev m hm
    show T.levels[m]! = _
    rw [this, List.filter_append]
    have : ¬ ((depth : Int) ≤ m) := by omega
    simp [this]
  · rw [List.pairwise_append]
    refine ⟨h.sorted, List.pairwise_singleton _ _, fun a ha b hb => ?_⟩
    simp only [List.mem_singleton] at hb
    subst hb
    exact (h.bound a ha).2.1
  · rcases List.mem_append.1 he with he | he
    · exact h.bound e he
    · simp only [List.mem_singleton] at he
      subst he
      exact ⟨by show (0 : Int) ≤ depth; omega, by show (depth : Int) ≤ depth; omega, h1, h2⟩
  · rw [List.map_append, List.nodup_append]
    refine ⟨h.nd, by simp, fun a ha b hb e => ?_⟩
    simp only [List.map_cons, List.map_nil, List.mem_singleton] at hb
    subst hb
    subst e
    obtain ⟨e', he', h4⟩ := List.mem_map.1 ha
    exact hne e' he' h4
  · rw [look_app]
    have e1 : (T.putF l r).cel v = if v.toNat = (tv l).toNat then ⟨if l < 0 then -1 else 1, T.levels.length, r⟩ else T.cel v := cel_set _ _ _ _ hi
    rw [e1]
    by_cases hvl : tv l = v
    · subst hvl
      rw [if_pos rfl, if_pos rfl, h3, h.dep]
      rfl
    · rw [if_neg (by omega), if_neg hvl]
      exact h.cell v h0 hv
theorem deep (h : TRep T vars S depth) : TRep T.deepF vars S (depth + 1) := by
  refine ⟨h.size, h.lits, by simp [Tr.deepF, h.dep], fun m hm => ?_, h.sorted, fun e he => ?_, h.nd, h.cell⟩
  · show (T.levels ++ [(T.lits.length : Int)])[m]! = _
    simp only [List.getElem!_eq_getElem?_getD]
    by_cases hm2 : m < depth
    · rw [List.getElem?_append_left (by rw [h.dep]; exact hm2), ← h.lev m hm2, List.getElem!_eq_getElem?_getD]
    · have e : m = depth := by omega
      subst e
      rw [List.getElem?_append_right (by rw [h.dep]; exact Nat.le_refl _), h.dep, Nat.sub_self, h.lits]
      have : S.filter (fun e : St => decide (e.l ≤ (m : Int))) = S := List.filter_eq_self.2 fun e he => by simpa using (h.bound e he).2.1
      rw [this]
      simp
  · obtain ⟨a, b, c, d⟩ := h.bound e he
    exact ⟨a, by omega, c, d⟩
theorem split (hs : S.Pairwise (fun a b : St => a.l ≤ b.l)) (m : Int) : S.filter (fun e : St => decide (e.l ≤ (m : Int))) = S.take (S.filter (fun e : St => decide (e.l ≤ (m : Int)))).length ∧ S.filter (fun e : St => !decide (e.l ≤ (m : Int))) = S.drop (S.filter (fun e : St => decide (e.l ≤ (m : Int)))).length := by
  induction S with
  | nil => simp
  | cons d S ih =>
    obtain ⟨h1, h2⟩ := List.pairwise_cons.1 hs
    by_cases hd : d.l ≤ m
    · obtain ⟨i1, i2⟩ := ih h2
      simp only [hd, decide_true, List.filter_cons_of_pos, List.length_cons, List.take_succ_cons, List.drop_succ_cons, Bool.not_true, Bool.false_eq_true, not_false_eq_true, List.filter_cons_of_neg]
      exact ⟨by rw [← i1], i2⟩
    · have e1 : S.filter (fun e : St => decide (e.l ≤ (m : Int))) = [] := List.filter_eq_nil_iff.2 fun e he => by have := h1 e he; simp; omega
      have e2 : S.filter (fun e : St => !decide (e.l ≤ (m : Int))) = S := List.filter_eq_self.2 fun e he => by have := h1 e he; simp; omega
      simp [hd, e1, e2]
theorem back (h : TRep T vars S depth) (m : Nat) (hm : m < depth) : TRep (T.backF m) vars (S.filter (fun e : St => decide (e.l ≤ (m : Int)))) m := by
  obtain ⟨s1, s2⟩ := split h.sorted (m : Int)
  have hn := h.lev m hm
  have hnn : (T.levels[m]!).toNat = (S.filter (fun e : St => decide (e.l ≤ (m : Int)))).length := by rw [hn]; rfl
  unfold Tr.backF
  rw [if_pos (by rw [h.dep]; exact hm), hnn]
  unfold Tr.cutF
  have hd : T.lits.drop (S.filter (fun e : St => decide (e.l ≤ (m : Int)))).length = (S.filter (fun e : St => !decide (e.l ≤ (m : Int)))).map (·.x) := by
    rw [h.lits, ← List.map_drop, ← s2]
  rw [hd]
  refine ⟨by simp [clearL_len, h.size], ?_, ?_, fun k hk => ?_, h.sorted.filter _, fun e he => ?_, ?_, fun v h0 hv => ?_⟩
  · show T.lits.take _ = _
    rw [h.lits, ← List.map_take, ← s1]
  · show (T.levels.take m).length = m
    rw [List.length_take, h.dep]; omega
  · show (T.levels.take m)[k]! = _
    have := h.lev k (by omega)
    simp only [List.getElem!_eq_getElem?_getD] at this ⊢
    rw [List.getElem?_take, if_pos hk, this, List.filter_filter]
    congr 2
    refine List.filter_congr fun e _ => ?_
    by_cases h1 : e.l ≤ k
    · have : e.l ≤ m := by omega
      simp [h1, this]
    · simp [h1]
  · obtain ⟨he, hl⟩ := List.mem_filter.1 he
    obtain ⟨a, b, c, d⟩ := h.bound e he
    exact ⟨a, by simpa using hl, c, d⟩
  · exact (List.Sublist.map _ (List.filter_sublist)).nodup h.nd
  · show (clearL T.cells _)[v.toNat]! = _
    rw [clearL_get _ _ _ (fun l hl => by
      obtain ⟨e, he, rfl⟩ := List.mem_map.1 hl
      have := h.bound e (List.mem_filter.1 he).1
      rw [h.size]; omega)]
    have hc := h.cell v h0 hv
    cases hlk : look S v with
    | none =>
      have h1 := look_none hlk
      have h2 : look (S.filter (fun e : St => decide (e.l ≤ (m : Int)))) v = none := look_none_of fun e he => h1 e (List.mem_filter.1 he).1
      rw [h2]
      rw [hlk] at hc
      split
      · rfl
      · exact hc
    | some e =>
      obtain ⟨he, hev⟩ := look_some hlk
      rw [hlk] at hc
      by_cases hem : e.l ≤ m
      · have hin : e ∈ S.filter (fun e : St => decide (e.l ≤ (m : Int))) := List.mem_filter.2 ⟨he, by simpa using hem⟩
        have hnd' : ((S.filter (fun e : St => decide (e.l ≤ (m : Int)))).map fun e => tv e.x).Nodup := (List.Sublist.map _ (List.filter_sublist)).nodup h.nd
        have h2 := look_mem hnd' hin
        rw [hev] at h2
        rw [h2, if_neg, ← hc]
        · rfl
        · intro hmem
          obtain ⟨l, hl, hlv⟩ := List.mem_map.1 hmem
          obtain ⟨e', he', rfl⟩ := List.mem_map.1 hl
          obtain ⟨he1, he2⟩ := List.mem_filter.1 he'
          have hb := h.bound e' he1
          have h4 : tv e'.x = v := by omega
          have h5 := look_mem h.nd he1
          rw [h4, hlk] at h5
          obtain rfl := Option.some.inj h5
          simp at he2
          omega
      · have h2 : look (S.filter (fun e : St => decide (e.l ≤ (m : Int)))) v = none := look_none_of fun e' he' h4 => by
          obtain ⟨he1, he2⟩ := List.mem_filter.1 he'
          have h5 := look_mem h.nd he1
          rw [h4, hlk] at h5
          obtain rfl := Option.some.inj h5
          simp at he2
          omega
        rw [h2, if_pos]
        · rfl
        · exact List.mem_map.2 ⟨e.x, List.mem_map.2 ⟨e, List.mem_filter.2 ⟨he, by simp; omega⟩, rfl⟩, by rw [hev]⟩
theorem stay (h : TRep T vars S depth) (m : Nat) (hm : depth ≤ m) : T.backF m = T := by
  unfold Tr.backF
  rw [if_neg (by rw [h.dep]; omega)]
theorem inv (h : TRep T vars S depth) : T.Inv := by
  constructor
  · intro m hm
    refine ⟨_, h.lev m (by rw [← h.dep]; exact hm), ?_⟩
    rw [h.lits, List.length_map]
    exact List.length_filter_le _ _
  · intro j hj
    rw [h.lits] at hj ⊢
    rw [List.length_map] at hj
    have e : (S.map (·.x))[j]! = S[j].x := by simp [hj]
    rw [e, h.isB]
    obtain ⟨_, _, a, b⟩ := h.bound S[j] (List.getElem_mem hj)
    simp [a, b]
theorem small (h : TRep T vars S depth) : ∀ v : Int, 1 ≤ v → v < T.cells.length → -1 ≤ (T.cel v).v ∧ (T.cel v).v ≤ 1 := by
  intro v h0 h1
  rw [h.size] at h1
  rw [h.cell v h0 (by omega)]
  cases look S v with
  | none => simp [celOf, Cel.free]
  | some e =>
    simp only [celOf, stCel]
    by_cases hx : e.x < 0 <;> simp [hx]
/-- What the trail tells of a literal. -/
theorem valF (h : TRep T vars S depth) (l : Int) : T.valF l = match look S (tv l) with | none => 0 | some e => if e.x = l then 1 else -1 := by
  unfold Tr.valF
  rw [h.isB]
  cases hl : look S (tv l) with
  | none =>
    by_cases hb : 1 ≤ tv l ∧ tv l ≤ vars
    · rw [if_pos (by simp [hb]), h.cell _ hb.1 hb.2, hl]
      simp [celOf, Cel.free]
    · rw [if_neg (by simpa using hb)]
  | some e =>
    obtain ⟨he, hev⟩ := look_some hl
    obtain ⟨_, _, a, b⟩ := h.bound e he
    rw [hev] at a b
    rw [if_pos (by simp [a, b]), h.cell _ a b, hl]
    simp only [celOf, stCel]
    have hx : tv e.x = tv l := hev
    have hmin : e.x ≠ -9223372036854775808 := fun e0 => by rw [tv_least e0] at hx; omega
    have hmin2 : l ≠ -9223372036854775808 := fun e0 => by rw [tv_least e0] at a; omega
    unfold tv at hx
    rw [if_neg hmin, if_neg hmin2] at hx
    by_cases h1 : e.x < 0 <;> by_cases h2 : l < 0 <;> simp only [h1, h2, if_true, if_false] at hx ⊢
    · rw [if_pos (by omega)]; omega
    · rw [if_neg (by omega)]
    · rw [if_neg (by omega)]
    · rw [if_pos (by omega)]
theorem levB (h : TRep T vars S depth) (v : Int) : T.levB v = match look S v with | none => -1 | some e => e.l := by
  unfold Tr.levB
  rw [h.isB]
  cases hl : look S v with
  | none =>
    by_cases hb : 1 ≤ v ∧ v ≤ vars
    · rw [if_pos (by simp [hb]), h.cell _ hb.1 hb.2, hl]
      simp [celOf, Cel.free]
    · rw [if_neg (by simpa using hb)]
  | some e =>
    obtain ⟨he, hev⟩ := look_some hl
    obtain ⟨_, _, a, b⟩ := h.bound e he
    rw [hev] at a b
    rw [if_pos (by simp [a, b]), h.cell _ a b, hl]
    rfl
theorem reaB (h : TRep T vars S depth) (v : Int) : T.reaB v = match look S v with | none => 0 | some e => e.r := by
  unfold Tr.reaB
  rw [h.isB]
  cases hl : look S v with
  | none =>
    by_cases hb : 1 ≤ v ∧ v ≤ vars
    · rw [if_pos (by simp [hb]), h.cell _ hb.1 hb.2, hl]
      simp [celOf, Cel.free]
    · rw [if_neg (by simpa using hb)]
  | some e =>
    obtain ⟨he, hev⟩ := look_some hl
    obtain ⟨_, _, a, b⟩ := h.bound e he
    rw [hev] at a b
    rw [if_pos (by simp [a, b]), h.cell _ a b, hl]
    rfl
theorem len_le (h : TRep T vars S depth) : S.length ≤ vars := by
  have hsub : ∀ x, x ∈ S.map (fun e => (tv e.x).toNat - 1) → x ∈ List.range vars := by
    intro x hx
    obtain ⟨e, he, rfl⟩ := List.mem_map.1 hx
    obtain ⟨_, _, a, b⟩ := h.bound e he
    rw [List.mem_range]; omega
  have hnd : (S.map (fun e => (tv e.x).toNat - 1)).Nodup := by
    have h1 := h.nd
    rw [List.nodup_iff_pairwise_ne, List.pairwise_map] at h1 ⊢
    refine List.Pairwise.imp_of_mem (fun {a b} ha hb hab => ?_) h1
    obtain ⟨_, _, a1, _⟩ := h.bound a ha
    obtain ⟨_, _, b1, _⟩ := h.bound b hb
    omega
  have := nodup_lt_len vars _ hnd (fun x hx => List.mem_range.1 (hsub x hx))
  simpa using this
end TRep

end Go.Proofs.Ytnbpnpodpnlamaa
