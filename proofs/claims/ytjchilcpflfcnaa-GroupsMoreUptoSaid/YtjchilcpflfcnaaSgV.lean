/-  -/
import Derived.Test.YtjchilcpflfcnaaSgU
import Derived.Test.YtjchilcpflfcnaaSgM
set_option linter.unusedVariables false
namespace Go.Proofs.Ytjchilcpflfcnaa
open Go.RowKit
def LtO (x y : Int) : Prop := absF x < absF y ∨ (absF x = absF y ∧ x < y)
theorem LtO.trans {x y z : Int} (h : LtO x y) (k : LtO y z) : LtO x z := by unfold LtO at *; omega
theorem leO_lt {x y : Int} (h : leO x y = true) (hn : x ≠ y) : LtO x y := by
 unfold leO at h
 rw [key_lt] at h
 simp only [Bool.not_eq_true', Bool.or_eq_false_iff, Bool.and_eq_false_iff, decide_eq_false_iff_not] at h
 unfold LtO
 omega
theorem ddpN_strict {xs : List Int} (hs : xs.Pairwise (fun a b => leO a b = true)) : ∀ k, k ≤ xs.length → (ddpN xs k).Pairwise LtO ∧ ∀ y ∈ ddpN xs k, y = xs[k - 1]! ∨ LtO y xs[k - 1]!
 | 0, _ => ⟨List.Pairwise.nil, fun y hy => by cases hy⟩
 | k + 1, hk => by
  obtain ⟨h1, h2⟩ := ddpN_strict hs k (by omega)
  rw [ddpN, Nat.add_sub_cancel]
  by_cases h0 : k = 0
  ·subst h0
   rw [if_pos (.inl rfl)]
   exact ⟨by simp [ddpN], fun y hy => .inl (by simpa [ddpN] using hy)⟩
  ·have hle : leO xs[k - 1]! xs[k]! = true := by
    rw [getE (by omega), getE (by omega)]
    exact List.pairwise_iff_getElem.1 hs (k - 1) k (by omega) (by omega) (by omega)
   by_cases he : xs[k]! ≠ xs[k - 1]!
   ·rw [if_pos (.inr he)]
    have hlt := leO_lt hle (fun e => he e.symm)
    have hall : ∀ y ∈ ddpN xs k, LtO y xs[k]! := fun y hy => by
     rcases h2 y hy with h3 | h3
     ·rw [h3]; exact hlt
     ·exact h3.trans hlt
    refine ⟨?_, fun y hy => ?_⟩
    ·rw [List.pairwise_append]
     exact ⟨h1, List.pairwise_singleton _ _, fun y hy z hz => by rw [List.mem_singleton.1 hz]; exact hall y hy⟩
    ·rcases List.mem_append.1 hy with h3 | h3
     ·exact .inr (hall y h3)
     ·exact .inl (List.mem_singleton.1 h3)
   ·rw [if_neg (fun h => h.elim h0 he)]
    have he : xs[k]! = xs[k - 1]! := Classical.byContradiction he
    rw [he]
    exact ⟨h1, h2⟩
theorem absF_in {x : Int} {v : Nat} (h1 : -(v : Int) ≤ x) (h2 : x ≤ v) (hv : v ≤ 262143) : absF x = tv x ∧ tv x = if x < 0 then -x else x := by
 have : wrap64 (-x) = -x := by unfold wrap64; omega
 unfold absF tv
 rw [this, if_neg (by omega : ¬ x = -9223372036854775808)]
 constructor
 ·split <;> split <;> omega
 ·rfl
theorem nrm_dist {l : List Int} {v : Nat} (hr : ∀ x ∈ nrm l, -(v : Int) ≤ x ∧ x ≤ v) (hv : v ≤ 262143) (ht : tautB (nrm l) = false) : ((nrm l).map tv).Nodup := by
 have hs : (nrm l).Pairwise LtO := (ddpN_strict (by rw [msort_eq]; exact isI_sorted _) _ (Nat.le_refl _)).1
 generalize nrm l = ys at *
 have hadj : ∀ i, i + 1 < ys.length → tv ys[i]! < tv ys[i + 1]! := fun i hi => by
  have h1 : LtO ys[i]! ys[i + 1]! := by
   rw [getE (by omega), getE (by omega)]
   exact List.pairwise_iff_getElem.1 hs i (i + 1) (by omega) (by omega) (by omega)
  have hx := hr _ (get_mem (l := ys) (i := i) (by omega))
  have hy := hr _ (get_mem (l := ys) (i := i + 1) (by omega))
  have hta : tautAt ys i = false := by
   unfold tautB at ht
   cases hq : tautAt ys i with
   | false => rfl
   | true =>
    exfalso
    have : (List.range (ys.length - 1)).any (tautAt ys) = true := List.any_eq_true.2 ⟨i, List.mem_range.2 (by omega), hq⟩
    rw [this] at ht
    cases ht
  unfold tautAt at hta
  generalize ys[i]! = x at *
  generalize ys[i + 1]! = y at *
  have hax := absF_in hx.1 hx.2 hv
  have hay := absF_in hy.1 hy.2 hv
  have hw : wrap64 (-y) = -y := by unfold wrap64; omega
  rw [hw] at hta
  have hne : x ≠ -y := by simpa using hta
  unfold LtO at h1
  rw [hax.1, hay.1] at h1
  rw [hax.2, hay.2] at h1 ⊢
  split at h1 <;> split at h1 <;> omega
 have hmono : ∀ d i, i + d + 1 < ys.length → tv ys[i]! < tv ys[i + d + 1]! := by
  intro d
  induction d with
  | zero => exact hadj
  | succ d ih =>
   intro i hi
   have h1 := ih i (by omega)
   have h2 := hadj (i + d + 1) (by omega)
   have : i + (d + 1) + 1 = i + d + 1 + 1 := by omega
   rw [this]
   omega
 unfold List.Nodup
 rw [List.pairwise_map, List.pairwise_iff_getElem]
 intro i j hi hj hij
 have := hmono (j - i - 1) i (by omega)
 rw [show i + (j - i - 1) + 1 = j by omega, getE hi, getE hj] at this
 omega
namespace Sv
theorem Inv.fresh0 {S : Sv} (h : S.Inv) : S.fresh0.Inv := h.congr h.ok.fresh0 rfl rfl (fun _ => rfl) rfl
theorem Inv.used1 {S : Sv} (h : S.Inv) : S.used1.Inv := h.congr h.ok.used1 rfl rfl (fun _ => rfl) rfl
theorem Inv.addTo {S : Sv} (h : S.Inv) (h0 : S.T.levels.length = 0) {out : List Int} (h1 : out.length ≤ 1048576) (hl : ∀ x ∈ out, x ≠ 0 ∧ -(S.vars : Int) ≤ x ∧ x ≤ S.vars) (hd : (out.map tv).Nodup) (hv : ∀ x ∈ out, S.val x = 0) (hr : S.list.length < 1099511627776) :
  (S.addTo out).Inv ∧ (S.addTo out).T.levels.length = 0 := by
 unfold Sv.addTo
 by_cases e0 : out.length = 0
 ·rw [if_pos e0]
  exact ⟨h.congr (h.ok.setbad true) rfl rfl (fun _ => rfl) rfl, h0⟩
 ·rw [if_neg e0]
  have hm := get_mem (l := out) (i := 0) (by omega)
  by_cases e1 : out.length = 1
  ·rw [if_pos e1]
   have ht := tv_in (hl _ hm).1 (hl _ hm).2.1 (hl _ hm).2.2 h.ok.vl
   exact ⟨(h.put (r := 0) (putB_of h.ok ht.1 ht.2 (hv _ hm)) (by omega) (fun h => absurd rfl h) (fun _ => .inl h0)).1, by rw [put_levels]; exact h0⟩
  ·rw [if_neg e1]
   have hm1 := get_mem (l := out) (i := 1) (by omega)
   obtain ⟨k1, k2, k3⟩ := h.attach ⟨by omega, h1, hl⟩ hd false hr
   have hs := attach_same S out false
   refine ⟨k1.whole ?_, by rw [hs.1]; exact h0⟩
   intro hne e he
   rw [k2]
   have heR : e ∈ S.R := by
    have := List.mem_of_mem_take he
    rw [R_congr hs.1] at this
    exact this
   exact ⟨fun hx => absurd hx (val_not h.ok (hv _ hm) e heR).2, fun hx => absurd hx (val_not h.ok (hv _ hm1) e heR).2⟩
theorem Inv.addF {S : Sv} (h : S.Inv) (h0 : S.T.levels.length = 0) {l : List Int} (hra : Ra l) (hr : S.list.length < 1099511627776) : (S.addF l).1.Inv ∧ (S.addF l).1.T.levels.length = 0 := by
 unfold Sv.addF
 split
 ·rename_i hc
  split
  ·exact ⟨h.fresh0, h0⟩
  ·rename_i hs
   obtain ⟨h1, h2⟩ := left_rng (S := S) hra hc
   have hs : S.skipB (nrm l) = false := by simpa using hs
   unfold skipB at hs
   rw [Bool.or_eq_false_iff] at hs
   have hc2 := chk_rng hra hc
   have hd := nrm_dist (l := l) (v := S.vars) (fun x hx => (hc2.2 x (nrm_mem hx).1).2) h.ok.vl hs.1
   refine h.fresh0.addTo h0 (by omega) h2 ?_ (fun x hx => ?_) hr
   ·unfold leftOf
    exact hd.sublist (List.Sublist.map tv (List.filter_sublist))
   ·unfold leftOf at hx
    rw [List.mem_filter] at hx
    have h3 : ¬ S.val x < 0 := by simpa using hx.2
    have h4 : ¬ 0 < S.val x := fun h5 => by
     have : (nrm l).any (fun x => decide (0 < S.val x)) = true := List.any_eq_true.2 ⟨x, hx.1, by simpa using h5⟩
     rw [this] at hs
     cases hs.2
    show S.val x = 0
    omega
 ·exact ⟨h, h0⟩
theorem addF_more (S : Sv) (l : List Int) : (S.addF l).1.used = S.used ∧ (S.addF l).1.bump = S.bump ∧ (S.addF l).1.many = S.many ∧ (S.addF l).1.limit = S.limit ∧ (S.addF l).1.list.length ≤ S.list.length + 1 := by
 unfold addF
 split
 ·split
  ·exact ⟨rfl, rfl, rfl, rfl, by show S.list.length ≤ _; omega⟩
  ·unfold addTo
   split
   ·exact ⟨rfl, rfl, rfl, rfl, by show S.list.length ≤ _; omega⟩
   ·split
    ·exact ⟨rfl, rfl, rfl, rfl, by show S.list.length ≤ _; omega⟩
    ·refine ⟨rfl, rfl, rfl, rfl, ?_⟩
     have := (attach_same S.fresh0 (S.leftOf (nrm l)) false).2.2.1
     rw [this]
     show S.list.length + 1 ≤ _
     omega
 ·exact ⟨rfl, rfl, rfl, rfl, by show S.list.length ≤ _; omega⟩
theorem Inv.new (vars : Int) : (Sv.new vars).Inv ∧ (Sv.new vars).T.levels.length = 0 ∧ (Sv.new vars).many = 0 ∧ (Sv.new vars).limit = 400 ∧ (Sv.new vars).list = [] ∧ (Sv.new vars).used = 0 ∧ (Sv.new vars).bump = 1 := by
 have ok := (Sv.Ok.new vars).1
 have hR : (Sv.new vars).R = [] := rfl
 have hrc : ∀ n, (Sv.new vars).rc n = ⟨[], false, 0⟩ := fun n => rc_out (Nat.zero_le _)
 have hw : ∀ c, (Sv.new vars).wat c = [] := fun c => by
  have : (Sv.new vars).watch = List.replicate 2 [] ++ List.replicate (2 * (min (max vars 0) 262143).toNat) [] := rfl
  unfold wat
  rw [this, List.replicate_append_replicate, List.getElem!_eq_getElem?_getD, List.getElem?_replicate]
  split <;> rfl
 refine ⟨⟨ok, fun n => by rw [hrc]; exact List.nodup_nil, fun A e B h1 h2 => ?_, fun A e B h1 h2 => ?_, fun e he => ?_, ⟨fun c => by rw [hw]; exact List.nodup_nil, fun c n hn => ?_, fun n hl => ?_⟩, fun n hl => ?_⟩, rfl, rfl, rfl, rfl, rfl, rfl⟩
 ·rw [hR] at h1; simp at h1
 ·rw [hR] at h1; simp at h1
 ·rw [hR] at he; simp at he
 ·rw [hw] at hn; cases hn
 ·rw [hrc] at hl; exact absurd rfl hl
 ·rw [hrc] at hl; exact absurd rfl hl
end Sv
theorem coreL_len (met : List Int) : ∀ (us core : List Int), (Sv.coreL met us core).length ≤ core.length + us.length
 | [], core => by simp [Sv.coreL]
 | x :: r, core => by
  rw [Sv.coreL]
  have := coreL_len met r (if x ∈ met ∧ x ∉ core then core ++ [x] else core)
  split at this
  ·simp at this ⊢; split <;> simp_all <;> omega
  ·simp at this ⊢; split <;> simp_all <;> omega
namespace Sv
theorem backL_has (level : Int) : ∀ (r : List Int) (S : Sv), (backL level r S).has = S.has ∧ (backL level r S).model = S.model
 | [], S => ⟨rfl, rfl⟩
 | l :: r, S => by
  rw [backL]
  split
  ·exact ⟨rfl, rfl⟩
  ·exact backL_has level r _
theorem back_has (S : Sv) (level : Nat) : (S.back level).has = S.has ∧ (S.back level).model = S.model := by
 unfold back
 split
 ·exact ⟨rfl, rfl⟩
 ·exact backL_has _ _ _
theorem learnt_has (S : Sv) (l : List Int) : (S.learnt l).bumped.has = S.has := by
 unfold learnt
 split
 ·rfl
 ·rfl
structure Fin (us : List Int) (S : Sv) : Prop where
 inv : S.Inv
 model : S.has = true → S.model.length = S.vars + 1
 core : S.core.length ≤ us.length
theorem choose_fin {S : Sv} {us : List Int} (h : S.Inv) (hf : S.head = S.T.lits.length) (hh : S.has = false) (hc : S.core = []) : Fin us S.choose.1 ∧ (S.choose.2 = 0 → S.choose.1.has = false) := by
 have hI := (choose_spec h hf).1
 have hcm := (choose_more S).1
 have hcore : S.choose.1.core.length ≤ us.length := by rw [hcm, hc]; exact Nat.zero_le _
 have hph : ∀ (f : Nat) (S : Sv), (pickF f S).1.has = S.has := by
  intro f
  induction f with
  | zero => intro S; rfl
  | succ f ih =>
   intro S
   rw [pickF]
   split
   ·rfl
   ·simp only
    split
    ·exact ih _
    ·rfl
 have hp : S.pick.1.has = false := (hph _ S).trans hh
 unfold choose at hI hcore ⊢
 by_cases h0 : S.pick.2 = 0
 ·rw [if_pos h0] at hI hcore ⊢
  exact ⟨⟨hI, fun _ => by simp [Sv.keep], hcore⟩, fun h => by cases h⟩
 ·rw [if_neg h0] at hI hcore ⊢
  have e : (S.pick.1.deep.put S.pick.2 0).has = false := hp
  exact ⟨⟨hI, fun h => by
   have h : (S.pick.1.deep.put S.pick.2 0).has = true := h
   rw [e] at h; exact Bool.noConfusion h, hcore⟩, fun _ => e⟩
theorem decideF_fin {us : List Int} : ∀ (f : Nat) (S : Sv), S.Inv → S.head = S.T.lits.length → (∀ x ∈ us, x ≠ 0 ∧ -(S.vars : Int) ≤ x ∧ x ≤ S.vars) → S.has = false → S.core = [] → Fin us (decideF us f S).1 ∧ ((decideF us f S).2 = 0 → (decideF us f S).1.has = false)
 | 0, S, h, hf, hu, hh, hc => choose_fin h hf hh hc
 | f + 1, S, h, hf, hu, hh, hc => by
  rw [decideF]
  split
  ·rename_i hd
   have ha := hu _ (get_mem (l := us) hd)
   simp only
   split
   ·refine ⟨⟨h.congr (h.ok.setcore _) rfl rfl (fun _ => rfl) rfl, fun h => ?_, ?_⟩, fun h => by cases h⟩
    ·have h : S.has = true := h
     rw [hh] at h; cases h
    ·show (coreL _ us S.core).length ≤ us.length
     have := coreL_len (S.blameL S.T.lits.reverse [tv us[S.T.levels.length]!] [us[S.T.levels.length]!]) us S.core
     rw [hc] at this ⊢
     simpa using this
   ·split
    ·rename_i h1 h2
     obtain ⟨k1, k2⟩ := h.choice hf ha.1 ha.2.1 ha.2.2 h2
     exact ⟨⟨k1, fun h => by
      have h : S.has = true := h
      rw [hh] at h; exact Bool.noConfusion h, by show S.core.length ≤ _; rw [hc]; exact Nat.zero_le _⟩, fun _ => hh⟩
    ·exact decideF_fin f S.deep (h.deep hf) hf hu hh hc
  ·exact choose_fin h hf hh hc
theorem rested_full {S : Sv} (h : S.Inv) (hf : S.head = S.T.lits.length) (n next : Nat) : (S.rested n next).Inv ∧ (S.rested n next).head = (S.rested n next).T.lits.length := by
 unfold Sv.rested
 split
 ·refine ⟨h.back 0, ?_⟩
  by_cases hl : 0 < S.T.levels.length
  ·obtain ⟨b1, b2, b3, b4, B, b5, b6, b7⟩ := back_eqs h.ok hl
   have h1 : (S.back 0).R.length ≤ S.R.length := by rw [b5]; simp
   have h2 := R_len S
   have h3 := R_len (S.back 0)
   rw [b4]
   omega
  ·have : S.back 0 = S := by
    unfold Sv.back
    rw [if_pos (by omega)]
   rw [this]
   exact hf
 ·exact ⟨h, hf⟩
def mu (S : Sv) (next n : Nat) : Nat := S.vars - S.T.lits.length + (if next ≤ n then S.vars + 2 else 0)
end Sv
namespace Sv
end Sv
end Go.Proofs.Ytjchilcpflfcnaa
