/- A new solver; a clause added. The search ends. Clauses laid one by one; a call of Solve ends. -/
import Derived.Test.YtdpigdlknmcmlaaSgU
import Derived.Test.YtdpigdlknmcmlaaSgM
namespace Go.Proofs.Ytdpigdlknmcmlaa
open Go.RowKit
set_option linter.unusedVariables false

/-- The order of literals. -/
def LtO (x y : Int) : Prop := absF x < absF y ∨ (absF x = absF y ∧ x < y)
theorem LtO.trans {x y z : Int} (h : LtO x y) (k : LtO y z) : LtO x z := by unfold LtO at *; omega
theorem leO_lt {x y : Int} (h : leO x y = true) (hn : x ≠ y) : LtO x y := by
  unfold leO at h
  rw [key_lt] at h
  simp only [Bool.not_eq_true', Bool.or_eq_false_iff, Bool.and_eq_false_iff, decide_eq_false_iff_not] at h
  unfold LtO
  omega
theorem ddpN_strict {xs : List Int} (hs : xs.Pairwise (fun a b => leO a b = true)) : ∀ k, k ≤ xs.length → (ddpN xs k).Pairwise LtO ∧ ∀ y ∈ ddpN xs k, y = xs[k - 1]! ∨ LtO y xs[k - 1]!
  | 0, _ => ⟨List.Pairwise.nil, fun y hy => by cases hy⟩
  | k + 1, hk => by
    obtain ⟨h1, h2⟩ := ddpN_strict hs k (by omega)
    rw [ddpN, Nat.add_sub_cancel]
    by_cases h0 : k = 0
    · subst h0
      rw [if_pos (.inl rfl)]
      exact ⟨by simp [ddpN], fun y hy => .inl (by simpa [ddpN] using hy)⟩
    · have hle : leO xs[k - 1]! xs[k]! = true := by
        rw [getE (by omega), getE (by omega)]
        exact List.pairwise_iff_getElem.1 hs (k - 1) k (by omega) (by omega) (by omega)
      by_cases he : xs[k]! ≠ xs[k - 1]!
      · rw [if_pos (.inr he)]
        have hlt := leO_lt hle (fun e => he e.symm)
        have hall : ∀ y ∈ ddpN xs k, LtO y xs[k]! := fun y hy => by
          rcases h2 y hy with h3 | h3
          · rw [h3]; exact hlt
          · exact h3.trans hlt
        refine ⟨?_, fun y hy => ?_⟩
        · rw [List.pairwise_append]
          exact ⟨h1, List.pairwise_singleton _ _, fun y hy z hz => by rw [List.mem_singleton.1 hz]; exact hall y hy⟩
        · rcases List.mem_append.1 hy with h3 | h3
          · exact .inr (hall y h3)
          · exact .inl (List.mem_singleton.1 h3)
      · rw [if_neg (fun h => h.elim h0 he)]
        have he : xs[k]! = xs[k - 1]! := Classical.byContradiction he
        rw [he]
        exact ⟨h1, h2⟩
theorem absF_in {x : Int} {v : Nat} (h1 : -(v : Int) ≤ x) (h2 : x ≤ v) (hv : v ≤ 262143) : absF x = tv x ∧ tv x = if x < 0 then -x else x := by
  have : wrap64 (-x) = -x := by unfold wrap64; omega
  unfold absF tv
  rw [this, if_neg (by omega : ¬ x = -9223372036854775808)]
  constructor
  · split <;> split <;> omega
  · rfl
theorem nrm_dist {l : List Int} {v : Nat} (hr : ∀ x ∈ nrm l, -(v : Int) ≤ x ∧ x ≤ v) (hv : v ≤ 262143) (ht : tautB (nrm l) = false) : ((nrm l).map tv).Nodup := by
  have hs : (nrm l).Pairwise LtO := (ddpN_strict (by rw [msort_eq]; exact isI_sorted _) _ (Nat.le_refl _)).1
  generalize nrm l = ys at *
  have hadj : ∀ i, i + 1 < ys.length → tv ys[i]! < tv ys[i + 1]! := fun i hi => by
    have h1 : LtO ys[i]! ys[i + 1]! := by
      rw [getE (by omega), getE (by omega)]
      exact List.pairwise_iff_getElem.1 hs i (i + 1) (by omega) (by omega) (by omega)
    have hx := hr _ (get_mem (l := ys) (i := i) (by omega))
    have hy := hr _ (get_mem (l := ys) (i := i + 1) (by omega))
    have hta : tautAt ys i = false := by
      unfold tautB at ht
      cases hq : tautAt ys i with
      | false => rfl
      | true =>
        exfalso
        have : (List.range (ys.length - 1)).any (tautAt ys) = true := List.any_eq_true.2 ⟨i, List.mem_range.2 (by omega), hq⟩
        rw [this] at ht
        cases ht
    unfold tautAt at hta
    generalize ys[i]! = x at *
    generalize ys[i + 1]! = y at *
    have hax := absF_in hx.1 hx.2 hv
    have hay := absF_in hy.1 hy.2 hv
    have hw : wrap64 (-y) = -y := by unfold wrap64; omega
    rw [hw] at hta
    have hne : x ≠ -y := by simpa using hta
    unfold LtO at h1
    rw [hax.1, hay.1] at h1
    rw [hax.2, hay.2] at h1 ⊢
    split at h1 <;> split at h1 <;> omega
  have hmono : ∀ d i, i + d + 1 < ys.length → tv ys[i]! < tv ys[i + d + 1]! := by
    intro d
    induction d with
    | zero => exact hadj
    | succ d ih =>
      intro i hi
      have h1 := ih i (by omega)
      have h2 := hadj (i + d + 1) (by omega)
      have : i + (d + 1) + 1 = i + d + 1 + 1 := by omega
      rw [this]
      omega
  unfold List.Nodup
  rw [List.pairwise_map, List.pairwise_iff_getElem]
  intro i j hi hj hij
  have := hmono (j - i - 1) i (by omega)
  rw [show i + (j - i - 1) + 1 = j by omega, getE hi, getE hj] at this
  omega

namespace Sv
theorem Inv.fresh0 {S : Sv} (h : S.Inv) : S.fresh0.Inv := h.congr h.ok.fresh0 rfl rfl (fun _ => rfl) rfl
theorem Inv.used1 {S : Sv} (h : S.Inv) : S.used1.Inv := h.congr h.ok.used1 rfl rfl (fun _ => rfl) rfl
theorem Inv.addTo {S : Sv} (h : S.Inv) (h0 : S.T.levels.length = 0) {out : List Int} (h1 : out.length ≤ 1048576) (hl : ∀ x ∈ out, x ≠ 0 ∧ -(S.vars : Int) ≤ x ∧ x ≤ S.vars) (hd : (out.map tv).Nodup) (hv : ∀ x ∈ out, S.val x = 0) (hr : S.list.length < 1099511627776) :
    (S.addTo out).Inv ∧ (S.addTo out).T.levels.length = 0 := by
  unfold Sv.addTo
  by_cases e0 : out.length = 0
  · rw [if_pos e0]
    exact ⟨h.congr (h.ok.setbad true) rfl rfl (fun _ => rfl) rfl, h0⟩
  · rw [if_neg e0]
    have hm := get_mem (l := out) (i := 0) (by omega)
    by_cases e1 : out.length = 1
    · rw [if_pos e1]
      have ht := tv_in (hl _ hm).1 (hl _ hm).2.1 (hl _ hm).2.2 h.ok.vl
      exact ⟨(h.put (r := 0) (putB_of h.ok ht.1 ht.2 (hv _ hm)) (by omega) (fun h => absurd rfl h) (fun _ => .inl h0)).1, by rw [put_levels]; exact h0⟩
    · rw [if_neg e1]
      have hm1 := get_mem (l := out) (i := 1) (by omega)
      obtain ⟨k1, k2, k3⟩ := h.attach ⟨by omega, h1, hl⟩ hd false hr
      have hs := attach_same S out false
      refine ⟨k1.whole ?_, by rw [hs.1]; exact h0⟩
      intro hne e he
      rw [k2]
      have heR : e ∈ S.R := by
        have := List.mem_of_mem_take he
        rw [R_congr hs.1] at this
        exact this
      exact ⟨fun hx => absurd hx (val_not h.ok (hv _ hm) e heR).2, fun hx => absurd hx (val_not h.ok (hv _ hm1) e heR).2⟩
theorem Inv.addF {S : Sv} (h : S.Inv) (h0 : S.T.levels.length = 0) {l : List Int} (hra : Ra l) (hr : S.list.length < 1099511627776) : (S.addF l).1.Inv ∧ (S.addF l).1.T.levels.length = 0 := by
  unfold Sv.addF
  split
  · rename_i hc
    split
    · exact ⟨h.fresh0, h0⟩
    · rename_i hs
      obtain ⟨h1, h2⟩ := left_rng (S := S) hra hc
      have hs : S.skipB (nrm l) = false := by simpa using hs
      unfold skipB at hs
      rw [Bool.or_eq_false_iff] at hs
      have hc2 := chk_rng hra hc
      have hd := nrm_dist (l := l) (v := S.vars) (fun x hx => (hc2.2 x (nrm_mem hx).1).2) h.ok.vl hs.1
      refine h.fresh0.addTo h0 (by omega) h2 ?_ (fun x hx => ?_) hr
      · unfold leftOf
        exact hd.sublist (List.Sublist.map tv (List.filter_sublist))
      · unfold leftOf at hx
        rw [List.mem_filter] at hx
        have h3 : ¬ S.val x < 0 := by simpa using hx.2
        have h4 : ¬ 0 < S.val x := fun h5 => by
          have : (nrm l).any (fun x => decide (0 < S.val x)) = true := List.any_eq_true.2 ⟨x, hx.1, by simpa using h5⟩
          rw [this] at hs
          cases hs.2
        show S.val x = 0
        omega
  · exact ⟨h, h0⟩
theorem addF_more (S : Sv) (l : List Int) : (S.addF l).1.used = S.used ∧ (S.addF l).1.bump = S.bump ∧ (S.addF l).1.many = S.many ∧ (S.addF l).1.limit = S.limit ∧ (S.addF l).1.list.length ≤ S.list.length + 1 := by
  unfold addF
  split
  · split
    · exact ⟨rfl, rfl, rfl, rfl, by show S.list.length ≤ _; omega⟩
    · unfold addTo
      split
      · exact ⟨rfl, rfl, rfl, rfl, by show S.list.length ≤ _; omega⟩
      · split
        · exact ⟨rfl, rfl, rfl, rfl, by show S.list.length ≤ _; omega⟩
        · refine ⟨rfl, rfl, rfl, rfl, ?_⟩
          have := (attach_same S.fresh0 (S.leftOf (nrm l)) false).2.2.1
          rw [this]
          show S.list.length + 1 ≤ _
          omega
  · exact ⟨rfl, rfl, rfl, rfl, by show S.list.length ≤ _; omega⟩
theorem Inv.new (vars : Int) : (Sv.new vars).Inv ∧ (Sv.new vars).T.levels.length = 0 ∧ (Sv.new vars).many = 0 ∧ (Sv.new vars).limit = 400 ∧ (Sv.new vars).list = [] ∧ (Sv.new vars).used = 0 ∧ (Sv.new vars).bump = 1 := by
  have ok := (Sv.Ok.new vars).1
  have hR : (Sv.new vars).R = [] := rfl
  have hrc : ∀ n, (Sv.new vars).rc n = ⟨[], false, 0⟩ := fun n => rc_out (Nat.zero_le _)
  have hw : ∀ c, (Sv.new vars).wat c = [] := fun c => by
    have : (Sv.new vars).watch = List.replicate 2 [] ++ List.replicate (2 * (min (max vars 0) 262143).toNat) [] := rfl
    unfold wat
    rw [this, List.replicate_append_replicate, List.getElem!_eq_getElem?_getD, List.getElem?_replicate]
    split <;> rfl
  refine ⟨⟨ok, fun n => by rw [hrc]; exact List.nodup_nil, fun A e B h1 h2 => ?_, fun A e B h1 h2 => ?_, fun e he => ?_, ⟨fun c => by rw [hw]; exact List.nodup_nil, fun c n hn => ?_, fun n hl => ?_⟩, fun n hl => ?_⟩, rfl, rfl, rfl, rfl, rfl, rfl⟩
  · rw [hR] at h1; simp at h1
  · rw [hR] at h1; simp at h1
  · rw [hR] at he; simp at he
  · rw [hw] at hn; cases hn
  · rw [hrc] at hl; exact absurd rfl hl
  · rw [hrc] at hl; exact absurd rfl hl
end Sv

end Go.Proofs.Ytdpigdlknmcmlaa
namespace Go.Proofs.Ytdpigdlknmcmlaa
open Go.RowKit
set_option linter.unusedVariables false

theorem coreL_len (met : List Int) : ∀ (us core : List Int), (Sv.coreL met us core).length ≤ core.length + us.length
  | [], core => by simp [Sv.coreL]
  | x :: r, core => by
    rw [Sv.coreL]
    have := coreL_len met r (if x ∈ met ∧ x ∉ core then core ++ [x] else core)
    split at this
    · simp at this ⊢; split <;> simp_all <;> omega
    · simp at this ⊢; split <;> simp_all <;> omega
namespace Sv
theorem backL_has (level : Int) : ∀ (r : List Int) (S : Sv), (backL level r S).has = S.has ∧ (backL level r S).model = S.model
  | [], S => ⟨rfl, rfl⟩
  | l :: r, S => by
    rw [backL]
    split
    · exact ⟨rfl, rfl⟩
    · exact backL_has level r _
theorem back_has (S : Sv) (level : Nat) : (S.back level).has = S.has ∧ (S.back level).model = S.model := by
  unfold back
  split
  · exact ⟨rfl, rfl⟩
  · exact backL_has _ _ _
theorem learnt_has (S : Sv) (l : List Int) : (S.learnt l).bumped.has = S.has := by
  unfold learnt
  split
  · rfl
  · rfl
/-- What is left at the end. -/
structure Fin (us : List Int) (S : Sv) : Prop where
  inv : S.Inv
  model : S.has = true → S.model.length = S.vars + 1
  core : S.core.length ≤ us.length
/-- The numbers on the way: so many conflicts, so many rounds to come. -/
structure Bd (us : List Int) (S : Sv) (c x : Nat) : Prop where
  list : S.list.length + c < 1099511627776
  used : S.used + c < 1099511627776
  bump : S.bump ≤ 1073741824
  many0 : -1152921504606846976 ≤ S.many
  many1 : S.many + c ≤ S.limit
  lim : S.limit ≤ 1099511627776
  lev : max S.T.levels.length us.length + x ≤ 4398046511104
  core : S.core = []
  has : S.has = false
theorem Bd.small {us : List Int} {S : Sv} {c x : Nat} (h : Bd us S c x) : S.smallB = true := by
  have h1 := h.list
  have h2 := h.used
  have h3 := h.many1
  have h4 := h.lev
  have h5 := h.lim
  unfold smallB
  simp only [Bool.and_eq_true, decide_eq_true_eq, List.isEmpty_iff]
  exact ⟨⟨⟨⟨⟨⟨⟨by omega, by omega⟩, h.bump⟩, h.many0⟩, by omega⟩, h.lim⟩, by omega⟩, h.core⟩
theorem Bd.rest {us : List Int} {S S' : Sv} {c x : Nat} (h : Bd us S c x) (hr : S'.rest = S.rest) : Bd us S' c x := by
  unfold Sv.rest at hr
  simp only [Prod.mk.injEq] at hr
  obtain ⟨r1, r2, r3, r4, r5, r6, r7, r8, r9, r10, r11, r12, r13⟩ := hr
  exact ⟨by rw [r13]; exact h.list, by rw [r6]; exact h.used, by rw [r7]; exact h.bump, by rw [r8]; exact h.many0, by rw [r8, r9]; exact h.many1, by rw [r9]; exact h.lim, by rw [r12]; exact h.lev, by rw [r5]; exact h.core, by rw [r11]; exact h.has⟩
theorem Bd.back {us : List Int} {S : Sv} {c x : Nat} (h : Bd us S c x) {m : Nat} (ok : S.Ok m) (level : Nat) : Bd us (S.back level) c x := by
  have h1 := back_more S level
  have h2 := ok.back level
  have h3 := back_has S level
  have h4 := h.lev
  exact ⟨by rw [h2.2.2]; exact h.list, by rw [h1.2.1]; exact h.used, by rw [h1.2.2.2.2.2.2]; exact h.bump, by rw [h1.2.2.1]; exact h.many0, by rw [h1.2.2.1, h1.2.2.2.1]; exact h.many1, by rw [h1.2.2.2.1]; exact h.lim, by have := h1.2.2.2.2.2.1; omega, by rw [h1.1]; exact h.core, by rw [h3.1]; exact h.has⟩
theorem choose_fin {S : Sv} {us : List Int} (h : S.Inv) (hf : S.head = S.T.lits.length) (hh : S.has = false) (hc : S.core = []) : Fin us S.choose.1 ∧ (S.choose.2 = 0 → S.choose.1.has = false) := by
  have hI := (choose_spec h hf).1
  have hcm := (choose_more S).1
  have hcore : S.choose.1.core.length ≤ us.length := by rw [hcm, hc]; exact Nat.zero_le _
  have hph : ∀ (f : Nat) (S : Sv), (pickF f S).1.has = S.has := by
    intro f
    induction f with
    | zero => intro S; rfl
    | succ f ih =>
      intro S
      rw [pickF]
      split
      · rfl
      · simp only
        split
        · exact ih _
        · rfl
  have hp : S.pick.1.has = false := (hph _ S).trans hh
  unfold choose at hI hcore ⊢
  by_cases h0 : S.pick.2 = 0
  · rw [if_pos h0] at hI hcore ⊢
    exact ⟨⟨hI, fun _ => by simp [Sv.keep], hcore⟩, fun h => by cases h⟩
  · rw [if_neg h0] at hI hcore ⊢
    have e : (S.pick.1.deep.put S.pick.2 0).has = false := hp
    exact ⟨⟨hI, fun h => by
      have h : (S.pick.1.deep.put S.pick.2 0).has = true := h
      rw [e] at h; exact Bool.noConfusion h, hcore⟩, fun _ => e⟩
theorem decideF_fin {us : List Int} : ∀ (f : Nat) (S : Sv), S.Inv → S.head = S.T.lits.length → (∀ x ∈ us, x ≠ 0 ∧ -(S.vars : Int) ≤ x ∧ x ≤ S.vars) → S.has = false → S.core = [] → Fin us (decideF us f S).1 ∧ ((decideF us f S).2 = 0 → (decideF us f S).1.has = false)
  | 0, S, h, hf, hu, hh, hc => choose_fin h hf hh hc
  | f + 1, S, h, hf, hu, hh, hc => by
    rw [decideF]
    split
    · rename_i hd
      have ha := hu _ (get_mem (l := us) hd)
      simp only
      split
      · refine ⟨⟨h.congr (h.ok.setcore _) rfl rfl (fun _ => rfl) rfl, fun h => ?_, ?_⟩, fun h => by cases h⟩
        · have h : S.has = true := h
          rw [hh] at h; cases h
        · show (coreL _ us S.core).length ≤ us.length
          have := coreL_len (S.blameL S.T.lits.reverse [tv us[S.T.levels.length]!] [us[S.T.levels.length]!]) us S.core
          rw [hc] at this ⊢
          simpa using this
      · split
        · rename_i h1 h2
          obtain ⟨k1, k2⟩ := h.choice hf ha.1 ha.2.1 ha.2.2 h2
          exact ⟨⟨k1, fun h => by
            have h : S.has = true := h
            rw [hh] at h; exact Bool.noConfusion h, by show S.core.length ≤ _; rw [hc]; exact Nat.zero_le _⟩, fun _ => hh⟩
        · exact decideF_fin f S.deep (h.deep hf) hf hu hh hc
    · exact choose_fin h hf hh hc
theorem rested_full {S : Sv} (h : S.Inv) (hf : S.head = S.T.lits.length) (n next : Nat) : (S.rested n next).Inv ∧ (S.rested n next).head = (S.rested n next).T.lits.length := by
  unfold Sv.rested
  split
  · refine ⟨h.back 0, ?_⟩
    by_cases hl : 0 < S.T.levels.length
    · obtain ⟨b1, b2, b3, b4, B, b5, b6, b7⟩ := back_eqs h.ok hl
      have h1 : (S.back 0).R.length ≤ S.R.length := by rw [b5]; simp
      have h2 := R_len S
      have h3 := R_len (S.back 0)
      rw [b4]
      omega
    · have : S.back 0 = S := by
        unfold Sv.back
        rw [if_pos (by omega)]
      rw [this]
      exact hf
  · exact ⟨h, hf⟩
/-- So many rounds are to come at most. -/
def mu (S : Sv) (next n : Nat) : Nat := S.vars - S.T.lits.length + (if next ≤ n then S.vars + 2 else 0)
theorem round_ends {budget : Int} {us : List Int} {K : Nat → Nat → Sv → Option (Sv × Int)} {vars c x n : Nat} (hu : ∀ y ∈ us, y ≠ 0 ∧ -(vars : Int) ≤ y ∧ y ≤ vars) (hn : n < 1099511627776)
    (hK : ∀ next S, S.Inv → S.vars = vars → Bd us S c x → next < 2199023255552 → ¬ budget < (n + 1 : Nat) → ∃ q, K next (n + 1) S = some q ∧ Fin us q.1) :
    ∀ (d next : Nat) (S : Sv), S.Inv → S.vars = vars → Bd us S (c + 1) (x + d) → next < 2199023255552 → mu S next n < d → ∃ q, roundN budget us K d next n S = some q ∧ Fin us q.1
  | 0, next, S, h, hv, hb, hx, hm => absurd hm (Nat.not_lt_zero _)
  | d + 1, next, S, h, hv, hb, hx, hm => by
    rw [roundN, if_pos (by rw [hb.small]; simp only [Bool.true_and, Bool.and_eq_true, decide_eq_true_eq]; exact ⟨hn, hx⟩)]
    obtain ⟨f1, f2, f3, f4⟩ := follow_spec h
    have hrest := (Ok.follow h.ok).2.1
    have hbf := hb.rest hrest
    have hvf : S.follow.1.vars = vars := (congrArg (fun x => x.2.1) hrest).trans hv
    have hgrow : S.T.lits.length ≤ S.follow.1.T.lits.length := by
      obtain ⟨Z, hZ, _⟩ := f2.pre
      rw [← R_len, ← R_len, hZ]
      simp
    generalize S.follow = q at *
    obtain ⟨SF, o⟩ := q
    simp only at f1 f2 f3 f4 hbf hvf hgrow ⊢
    cases o with
    | some m =>
      simp only
      obtain ⟨k1, k2⟩ := f4 m rfl
      have hb1 : Bd us SF.used1 c x := ⟨by have := hbf.list; show SF.list.length + c < _; omega, by have := hbf.used; show SF.used + 1 + c < _; omega, hbf.bump, hbf.many0, by have := hbf.many1; show SF.many + c ≤ SF.limit; omega, hbf.lim, by have := hbf.lev; show max SF.T.levels.length us.length + x ≤ _; omega, hbf.core, hbf.has⟩
      by_cases hd : SF.T.levels.length = 0
      · have e : SF.used1.conflict m = some ({ SF.used1 with bad := true }, false) := by
          unfold Sv.conflict
          rw [if_pos (show SF.used1.T.levels.length = 0 from hd)]
        rw [e]
        exact ⟨_, rfl, ⟨f1.used1.congr (f1.used1.ok.setbad true) rfl rfl (fun _ => rfl) rfl, fun h => by
          have h : SF.has = true := h
          rw [hbf.has] at h; exact Bool.noConfusion h, by show SF.core.length ≤ _; rw [hbf.core]; exact Nat.zero_le _⟩⟩
      · obtain ⟨S2, l, lev, c1, c2, c3, c4, S1, c5, c6⟩ := conflict_spec f1.used1 (n := m) k1 k2 (by have := hbf.list; show SF.list.length < _; omega) (by show 0 < SF.T.levels.length; omega)
        rw [c2]
        have hh2 : S2.has = false := by
          rw [c6, learnt_has, (back_has S1 lev.toNat).1]
          have : S1.has = SF.used1.has := congrArg (fun x => x.2.2.2.2.2.2.2.2.2.2.2.2.1) c5
          rw [this]
          exact hbf.has
        have hb2 : Bd us S2 c x := by
          have n1 := c4.list1
          have n2 := c4.many0
          have n3 := c4.many1
          have n4 := c4.lev
          have g1 := hbf.list
          have g2 := hbf.many0
          have g3 := hbf.many1
          have g4 := hb1.lev
          have e1 : SF.used1.list.length = SF.list.length := rfl
          have e2 : SF.used1.many = SF.many := rfl
          refine ⟨by omega, by rw [c4.used]; exact hb1.used, c4.bump, by omega, by rw [c4.limit]; show S2.many + c ≤ SF.limit; omega, by rw [c4.limit]; exact hbf.lim, by omega, by rw [c4.core]; exact hbf.core, hh2⟩
        show ∃ q, (if budget < (n + 1 : Nat) then some (S2, 0) else K next (n + 1) S2) = some q ∧ Fin us q.1
        by_cases hbu : budget < (n + 1 : Nat)
        · rw [if_pos hbu]
          exact ⟨_, rfl, ⟨c3, fun h => by
            have h : S2.has = true := h
            rw [hh2] at h; exact Bool.noConfusion h, by show S2.core.length ≤ _; rw [hb2.core]; exact Nat.zero_le _⟩⟩
        · rw [if_neg hbu]
          exact hK next S2 c3 (c4.vars.trans hvf) hb2 hx hbu
    | none =>
      simp only
      obtain ⟨g1, g2⟩ := rested_full f1 (f3 rfl) n next
      have hbr : Bd us (SF.rested n next) (c + 1) (x + (d + 1)) := by
        unfold Sv.rested
        split
        · exact hbf.back f1.ok 0
        · exact hbf
      have hvr : (SF.rested n next).vars = vars := (rested_same f1.ok n next).1.trans hvf
      have hlr : ¬ next ≤ n → (SF.rested n next).T.lits.length = SF.T.lits.length := fun hnn => by
        unfold Sv.rested
        rw [if_neg hnn]
      generalize SF.rested n next = SR at *
      rw [if_neg (by have := hbr.many1; omega)]
      have hus : ∀ y ∈ us, y ≠ 0 ∧ -(SR.vars : Int) ≤ y ∧ y ≤ SR.vars := by rw [hvr]; exact hu
      obtain ⟨d1, d2⟩ := decide_spec g1 g2 hus
      obtain ⟨e1, e2⟩ := decideF_fin (us.length + 1) SR g1 g2 hus hbr.has hbr.core
      have e1 : Fin us (SR.decide_ us).1 := e1
      have e2 : (SR.decide_ us).2 = 0 → (SR.decide_ us).1.has = false := e2
      have dk := Ok.decide_ g1.ok us
      have dm := decideF_more us (us.length + 1) SR
      have dm : ((SR.decide_ us).2 = 0 → (SR.decide_ us).1.core = SR.core) ∧ (SR.decide_ us).1.used = SR.used ∧ (SR.decide_ us).1.many = SR.many ∧ (SR.decide_ us).1.limit = SR.limit ∧ (SR.decide_ us).1.bad = SR.bad := dm
      have dbump : (SR.decide_ us).1.bump = SR.bump := by
        have hp : ∀ (f : Nat) (S : Sv), (pickF f S).1.bump = S.bump := by
          intro f
          induction f with
          | zero => intro S; rfl
          | succ f ih =>
            intro S
            rw [pickF]
            split
            · rfl
            · simp only
              split
              · exact ih _
              · rfl
        have hc : ∀ S : Sv, S.choose.1.bump = S.bump := fun S => by
          unfold choose
          split
          · exact hp _ S
          · exact hp _ S
        have hd : ∀ (f : Nat) (S : Sv), (decideF us f S).1.bump = S.bump := by
          intro f
          induction f with
          | zero => intro S; exact hc S
          | succ f ih =>
            intro S
            rw [decideF]
            split
            · simp only
              split
              · rfl
              · split
                · rfl
                · exact ih _
            · exact hc S
        exact hd _ SR
      generalize SR.decide_ us = q at *
      by_cases hq : q.2 = 0
      · rw [if_pos hq]
        have h1 := d2 hq
        have h2 := lits_le d1.ok
        have hv2 : q.1.vars = vars := dk.2.1.trans hvr
        have hl2 := dk.2.2.2
        have hb3 : Bd us q.1 (c + 1) (x + d) := by
          have := hbr.lev
          refine ⟨by rw [dk.2.2.1]; exact hbr.list, by rw [dm.2.1]; exact hbr.used, by rw [dbump]; exact hbr.bump, by rw [dm.2.2.1]; exact hbr.many0, by rw [dm.2.2.1, dm.2.2.2.1]; exact hbr.many1, by rw [dm.2.2.2.1]; exact hbr.lim, by omega, by rw [dm.1 hq]; exact hbr.core, e2 hq⟩
        refine round_ends hu hn hK d _ q.1 d1 hv2 hb3 (by split <;> omega) ?_
        unfold mu at hm ⊢
        by_cases hnx : next ≤ n
        · rw [if_pos hnx] at hm ⊢
          rw [if_neg (by omega)]
          omega
        · rw [if_neg hnx] at hm ⊢
          rw [if_neg hnx]
          have := hlr hnx
          omega
      · rw [if_neg hq]
        exact ⟨q, rfl, e1⟩
theorem search_ends {budget : Int} {us : List Int} {vars D : Nat} (hu : ∀ y ∈ us, y ≠ 0 ∧ -(vars : Int) ≤ y ∧ y ≤ vars) (hD : 2 * vars + 3 ≤ D) :
    ∀ (c next n : Nat) (S : Sv), S.Inv → S.vars = vars → Bd us S c (c * D) → next < 2199023255552 → n + c < 1099511627776 → (n : Int) ≤ budget → budget < n + c → ∃ q, searchN budget us D c next n S = some q ∧ Fin us q.1
  | 0, next, n, S, h, hv, hb, hx, hn, h1, h2 => by omega
  | c + 1, next, n, S, h, hv, hb, hx, hn, h1, h2 => by
    rw [searchN]
    refine round_ends (vars := vars) (c := c) (x := c * D) hu (by omega) (fun nx S2 k1 k2 k3 k4 k5 => search_ends hu hD c nx (n + 1) S2 k1 k2 k3 k4 (by omega) (by omega) (by omega)) D next S h hv (by rw [Nat.succ_mul] at hb; exact hb) hx ?_
    unfold mu
    rw [hv]
    split <;> omega
end Sv

end Go.Proofs.Ytdpigdlknmcmlaa
namespace Go.Proofs.Ytdpigdlknmcmlaa
open Go.RowKit
set_option linter.unusedVariables false

namespace Sv
/-- Clauses laid, until one is refused. -/
def layN : List (List Int) → Sv → Sv × Bool
  | [], S => (S, true)
  | c :: r, S => if chkF S.vars c = 0 then layN r (S.addF c).1 else (S, false)
/-- What laying keeps. -/
structure Laid (S0 S : Sv) (n : Nat) : Prop where
  inv : S.Inv
  lev : S.T.levels.length = 0
  used : S.used = S0.used
  bump : S.bump = S0.bump
  many : S.many = S0.many
  limit : S.limit = S0.limit
  list : S.list.length ≤ S0.list.length + n
  vars : S.vars = S0.vars
theorem Laid.step {S0 S : Sv} {n : Nat} (h : Laid S0 S n) {c : List Int} (hr : Ra c) (hl : S0.list.length + n < 1099511627776) : Laid S0 (S.addF c).1 (n + 1) := by
  have hs : S.list.length < 1099511627776 := by have := h.list; omega
  obtain ⟨k1, k2⟩ := h.inv.addF h.lev hr hs
  obtain ⟨m1, m2, m3, m4, m5⟩ := addF_more S c
  have hv := (h.inv.ok.addF hr hs).2
  exact ⟨k1, k2, m1.trans h.used, m2.trans h.bump, m3.trans h.many, m4.trans h.limit, by have := h.list; omega, hv.trans h.vars⟩
theorem layN_laid {S0 : Sv} : ∀ (cls : List (List Int)) (S : Sv) (n : Nat), Laid S0 S n → (∀ c ∈ cls, Ra c) → S0.list.length + n + cls.length < 1099511627776 → ∃ m, m ≤ n + cls.length ∧ Laid S0 (layN cls S).1 m
  | [], S, n, h, _, _ => ⟨n, Nat.le_refl _, h⟩
  | c :: r, S, n, h, hr, hl => by
    rw [layN]
    simp only [List.length_cons] at hl
    split
    · obtain ⟨m, h1, h2⟩ := layN_laid r _ (n + 1) (h.step (hr c List.mem_cons_self) (by omega)) (fun c hc => hr c (List.mem_cons_of_mem _ hc)) (by omega)
      exact ⟨m, by simp only [List.length_cons]; omega, h2⟩
    · exact ⟨n, by omega, h⟩
theorem us_rng {vars : Nat} {us : List Int} (hr : Ra us) (h : us.any (offB vars) = false) : ∀ x ∈ us, x ≠ 0 ∧ -(vars : Int) ≤ x ∧ x ≤ vars := fun x hx => by
  have h3 : offB vars x = false := by
    cases h4 : offB vars x with
    | false => rfl
    | true =>
      have : us.any (offB vars) = true := List.any_eq_true.2 ⟨x, hx, h4⟩
      rw [this] at h
      cases h
  unfold offB at h3
  simp only [Bool.or_eq_false_iff, decide_eq_false_iff_not] at h3
  have h5 := tv_rng ((mem_idx (p := R64)).1 hr x hx)
  exact ⟨tv_pos (by omega), by omega, by omega⟩
theorem solve_ends {S : Sv} {us : List Int} (h : S.Inv) (h0 : S.T.levels.length = 0) (hl : S.list.length ≤ 1099511620000) (hu : S.used ≤ 1099511620000) (hb : S.bump ≤ 1073741824) (hm : S.many = 0) (hlim : S.limit = 400) (hr : Ra us) (hul : us.length ≤ 1099511627776) :
    ∃ q, solveN 200 us (2 * S.vars + 3) 201 S = some q ∧ (q.1.has = true → q.1.model.length = q.1.vars + 1) ∧ q.1.core.length ≤ us.length := by
  have hvl := h.ok.vl
  unfold solveN
  by_cases h1 : (decide ((200 : Int) < 1) || us.any (offB S.vars)) = true
  · rw [if_pos h1]
    exact ⟨_, rfl, fun h => (by cases h), Nat.zero_le _⟩
  · rw [if_neg h1]
    by_cases h2 : S.bad = true
    · rw [if_pos h2]
      exact ⟨_, rfl, fun h => (by cases h), Nat.zero_le _⟩
    · rw [if_neg h2]
      have ho : us.any (offB S.vars) = false := by simpa using h1
      have hus := us_rng (vars := S.vars) hr ho
      have hbd : Bd us S.fresh0.used1 201 (201 * (2 * S.vars + 3)) := by
        refine ⟨by show S.list.length + 201 < _; omega, by show S.used + 1 + 201 < _; omega, hb, by show _ ≤ S.many; omega, by show S.many + (201 : Nat) ≤ (S.limit : Int); omega, by show S.limit ≤ _; omega, ?_, rfl, rfl⟩
        show max S.T.levels.length us.length + _ ≤ _
        omega
      obtain ⟨q, k1, k2⟩ := search_ends (budget := 200) (vars := S.vars) (D := 2 * S.vars + 3) hus (Nat.le_refl _) 201 64 0 S.fresh0.used1 h.fresh0.used1 rfl hbd (by omega) (by omega) (by omega) (by omega)
      rw [k1]
      refine ⟨_, rfl, fun hh => ?_, ?_⟩
      · have e := back_has q.1 0
        have e2 := (k2.inv.ok.back 0).2.1
        rw [e.1] at hh
        rw [e.2, e2]
        exact k2.model hh
      · show (q.1.back 0).core.length ≤ _
        rw [(back_more q.1 0).1]
        exact k2.core
end Sv

end Go.Proofs.Ytdpigdlknmcmlaa
