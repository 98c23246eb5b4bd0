/- Parts of a proof. -/
import Derived.Test.YtpjbaobgnhjgoaaGreatGAJ
set_option linter.unusedVariables false
set_option linter.unusedSimpArgs false
namespace Go.Proofs.YtpjbaobgnhjgoaaGreat
open Go.RowKit
theorem ia {x y : Int} (h : aJ x = aJ y) : x = y := by
 unfold aJ at h
 split at h <;> split at h <;> omega
theorem lh {α : Type} {A B R : List α} {e e1 : α} (h : A ++ e :: B = R ++ [e1]) : (B = [] ∧ A = R ∧ e = e1) ∨ ∃ B', B = B' ++ [e1] ∧ R = A ++ e :: B' := by
 rcases List.eq_nil_or_concat B with rfl | ⟨B', b, rfl⟩
 ·left
  have := List.append_inj' h rfl
  exact ⟨rfl, this.1, by simpa using this.2⟩
 ·right
  rw [List.concat_eq_append, ← List.cons_append, ← List.append_assoc] at h
  have := List.append_inj' h rfl
  refine ⟨B', ?_, this.1.symm⟩
  rw [List.concat_eq_append, show b = e1 by simpa using this.2]
theorem sU {l : List Int} (hn : (l.map tv).Nodup) {i j : Nat} (hi : i < l.length) (hj : j < l.length) (rt : i ≠ j) : tv l[i]! ≠ tv l[j]! := by
 have hp := List.pairwise_iff_getElem.1 hn
 rw [pK hi, pK hj]
 rcases Nat.lt_or_gt_of_ne rt with h | h
 ·have := hp i j (by simpa using hi) (by simpa using hj) h
  simpa using this
 ·have := hp j i (by simpa using hj) (by simpa using hi) h
  intro e
  exact this (by simpa using e.symm)
namespace Sv
def W (S : Sv) (off : Int) (L : List Nat) (c : Nat) : List Nat := if c = aJ off then L else S.eX c
structure WI (S : Sv) (V : Nat → List Nat) : Prop where
 nd : ∀ c, (V c).Nodup
 wd : ∀ c n, n ∈ V c → (S.rc n).lits ≠ [] → aJ (S.rc n).lits[0]! = c ∨ aJ (S.rc n).lits[1]! = c
 wc : ∀ n, (S.rc n).lits ≠ [] → n ∈ V (aJ (S.rc n).lits[0]!) ∧ n ∈ V (aJ (S.rc n).lits[1]!)
def Y5 (S : Sv) (D : List St) (n : Nat) : Prop := (S.rc n).lits ≠ [] → ∀ e ∈ D,
 (e.x = -(S.rc n).lits[0]! → ∃ e' ∈ S.R, e'.x = (S.rc n).lits[1]! ∧ e'.l ≤ e.l) ∧ (e.x = -(S.rc n).lits[1]! → ∃ e' ∈ S.R, e'.x = (S.rc n).lits[0]! ∧ e'.l ≤ e.l)
structure Inv (S : Sv) : Prop where
 ok : S.Ok 0
 jE : ∀ n, ((S.rc n).lits.map tv).Nodup
 wN : S.Y8
 dec : S.Dec
 hd : S.Hd
 wi : S.WI S.eX
 wt : ∀ n, S.Y5 (S.R.take S.head) n
structure VI (S : Sv) (e0 : St) (todo keep : List Nat) : Prop where
 ok : S.Ok (keep.length + todo.length)
 jE : ∀ n, ((S.rc n).lits.map tv).Nodup
 wN : S.Y8
 dec : S.Dec
 hd : S.Hd
 at_ : S.R[S.head]? = some e0
 GV : S.eX (aJ (-e0.x)) = []
 wi : S.WI (S.W (-e0.x) (keep ++ todo))
 wt : ∀ n, S.Y5 (S.R.take S.head) n
 wk : ∀ n ∈ keep, S.Y5 [e0] n
theorem u4 (S : Sv) (off : Int) (L : List Nat) : S.W off L (aJ off) = L := if_pos rfl
theorem rJ (S : Sv) {off : Int} (L : List Nat) {c : Nat} (h : c ≠ aJ off) : S.W off L c = S.eX c := if_neg h
theorem tt {S : Sv} {m : Nat} (ok : S.Ok m) {n : Nat} (h : (S.rc n).lits ≠ []) : 2 ≤ (S.rc n).lits.length := by
 have h1 := ok.ln n
 have h2 : (S.rc n).lits.length ≠ 0 := fun e => h (a6 e)
 omega
theorem sK {S : Sv} {n : Nat} (h : (S.rc n).lits ≠ []) : n < S.list.length := by
 by_cases hn : n < S.list.length
 ·exact hn
 ·rw [oh (by omega)] at h
  exact absurd rfl h
theorem VI.at (S : Sv) {e0 : St} {todo keep : List Nat} (h : S.VI e0 todo keep) : e0 ∈ S.R ∧ S.head < S.R.length ∧ e0.l = S.T.levels.length := by
 have h1 := h.at_
 obtain ⟨h2, h3⟩ := List.getElem?_eq_some_iff.1 h1
 refine ⟨List.mem_of_getElem? h1, h2, h.hd e0 ?_⟩
 rw [List.drop_eq_getElem_cons h2, h3]
 exact bY
theorem px {S : Sv} {m : Nat} (ok : S.Ok m) {e e' : St} (h : e ∈ S.R) (h' : e' ∈ S.R) (hx : e.x = -e'.x) : False := by
 obtain ⟨h1, h2⟩ := kb ok h (y := -e.x) (by omega)
 have h3 : e'.x = -e.x := by omega
 rw [← h3] at h1
 have := mU ok h h' h1.symm
 subst this
 have h4 : e.x = 0 := by omega
 have h5 := kN ok h
 rw [h4] at h5
 have : tv 0 = 0 := by rfl
 omega
theorem VI.dead {S : Sv} {e0 : St} {n : Nat} {r keep : List Nat} (h : S.VI e0 (n :: r) keep) (hn : (S.rc n).lits = []) : S.VI e0 r keep := by
 have hs : (keep ++ r).Sublist (keep ++ n :: r) := List.Sublist.append_left (List.sublist_cons_self n r) keep
 refine ⟨h.ok.less (by simp only [kV]; omega), h.jE, h.wN, h.dec, h.hd, h.at_, h.GV, ⟨fun c => ?_, fun c j hj hl => ?_, fun j hl => ?_⟩, h.wt, h.wk⟩
 ·by_cases hc : c = aJ (-e0.x)
  ·have := h.wi.nd c
   subst hc
   rw [u4] at this ⊢
   exact this.sublist hs
  ·have := h.wi.nd c
   rw [rJ _ _ hc] at this ⊢
   exact this
 ·refine h.wi.wd c j ?_ hl
  by_cases hc : c = aJ (-e0.x)
  ·subst hc
   rw [u4] at hj ⊢
   exact hs.subset hj
  ·rw [rJ _ _ hc] at hj ⊢
   exact hj
 ·have PZ : j ≠ n := fun e => hl (by rw [e]; exact hn)
  have hq := h.wi.wc j hl
  have hm : ∀ c, j ∈ S.W (-e0.x) (keep ++ n :: r) c → j ∈ S.W (-e0.x) (keep ++ r) c := fun c hj => by
   by_cases hc : c = aJ (-e0.x)
   ·subst hc
    rw [u4] at hj ⊢
    rcases aj.1 hj with h1 | h1
    ·exact aW _ h1
    ·rcases ay.1 h1 with h1 | h1
     ·exact absurd h1 PZ
     ·exact List.mem_append_right _ h1
   ·rw [rJ _ _ hc] at hj ⊢
    exact hj
  exact ⟨hm _ hq.1, hm _ hq.2⟩
theorem VI.ch {S : Sv} {e0 : St} {n : Nat} {r keep : List Nat} (h : S.VI e0 (n :: r) keep) (hn : (S.rc n).lits ≠ []) :
  (S.ch n (-e0.x)).VI e0 (n :: r) keep ∧ ((S.ch n (-e0.x)).rc n).lits[1]! = -e0.x ∧ ((S.ch n (-e0.x)).rc n).lits ≠ [] ∧ ((S.ch n (-e0.x)).rc n).lits.Perm (S.rc n).lits := by
 have h2 := tt h.ok hn
 have oz := sK hn
 obtain ⟨sR, JF, oD⟩ := h.at
 have hw := h.wi.wd (aJ (-e0.x)) n (by rw [u4]; simp) hn
 have okT := Ok.ch h.ok n (-e0.x)
 unfold Sv.ch at okT ⊢
 by_cases h0 : (S.rc n).lits[0]! = -e0.x
 ·rw [if_pos h0] at okT ⊢
  have hp := fD (l := (S.rc n).lits) (i := 0) (j := 1) (by omega) (by omega)
  have fm : ∀ j, (S.dH n (cj (S.rc n).lits 0 1)).rc j = if n = j then { S.rc n with lits := cj (S.rc n).lits 0 1 } else S.rc j := fun j => by
   rw [jU]
   by_cases e : n = j
   ·rw [if_pos ⟨e, oz⟩, if_pos e]
   ·rw [if_neg (fun h => e h.1), if_neg e]
  have sa : ((S.dH n (cj (S.rc n).lits 0 1)).rc n).lits = cj (S.rc n).lits 0 1 := by rw [fm, if_pos rfl]
  have AK : ∀ j, j ≠ n → (S.dH n (cj (S.rc n).lits 0 1)).rc j = S.rc j := fun j hj => by rw [fm, if_neg (fun e => hj e.symm)]
  have g0 : (cj (S.rc n).lits 0 1)[0]! = (S.rc n).lits[1]! := by
   rw [ko (by omega) (by omega) (by omega), if_neg (by omega), if_pos rfl]
  have g1 : (cj (S.rc n).lits 0 1)[1]! = (S.rc n).lits[0]! := by
   rw [ko (by omega) (by omega) (by omega), if_pos rfl]
  have dN : cj (S.rc n).lits 0 1 ≠ [] := fun e => by
   have := eO (S.rc n).lits 0 1
   rw [e] at this
   simp at this
   omega
  have RJ : n ∉ keep := fun hk => by
   have := h.wi.nd (aJ (-e0.x))
   rw [u4, List.nodup_append] at this
   exact this.2.2 n hk n bY rfl
  refine ⟨⟨okT, fun j => ?_, ?_, h.dec, h.hd, h.at_, h.GV, ⟨h.wi.nd, fun c j hj hl => ?_, fun j hl => ?_⟩, fun j => ?_, fun j hj => ?_⟩, by rw [sa, g1, h0], by rw [sa]; exact dN, by rw [sa]; exact hp⟩
  ·by_cases e : j = n
   ·rw [e, sa]
    exact (hp.map tv).nodup_iff.2 (h.jE n)
   ·rw [AK j e]; exact h.jE j
  ·intro A e B hR hr
   obtain ⟨k, hk, ls, oR, jd⟩ := h.wN A e B hR hr
   have j4 : k ≠ n := fun ek => by
    rw [ek] at oR
    rw [oR] at h0
    have h0 : e.x = -e0.x := h0
    exact px h.ok (by rw [show S.R = A ++ e :: B from hR]; simp) sR h0
   exact ⟨k, hk, ls, by rw [AK k j4]; exact oR, jd⟩
  ·by_cases e : j = n
   ·subst e
    rw [sa, g0, g1]
    exact (h.wi.wd c j hj hn).symm
   ·rw [AK j e] at hl ⊢
    exact h.wi.wd c j hj hl
  ·by_cases e : j = n
   ·subst e
    rw [sa, g0, g1]
    exact (h.wi.wc j hn).symm
   ·rw [AK j e] at hl ⊢
    exact h.wi.wc j hl
  ·intro hl e he
   by_cases ej : j = n
   ·subst ej
    rw [sa, g0, g1]
    exact (h.wt j hn e he).symm
   ·rw [AK j ej] at hl ⊢
    exact h.wt j hl e he
  ·have ej : j ≠ n := fun e => RJ (e ▸ hj)
   intro hl e he
   rw [AK j ej] at hl ⊢
   exact h.wk j hj hl e he
 ·rw [if_neg h0] at okT ⊢
  refine ⟨h, ?_, hn, cN _⟩
  rcases hw with hw | hw
  ·exact absurd (ia hw) h0
  ·exact ia hw
theorem VI.stay {S : Sv} {e0 : St} {n : Nat} {r keep : List Nat} (h : S.VI e0 (n :: r) keep) (hn : (S.rc n).lits ≠ []) (h1 : (S.rc n).lits[1]! = -e0.x) (hv : 0 < S.val (S.rc n).lits[0]!) : S.VI e0 r (keep ++ [n]) := by
 have ha : (keep ++ [n]) ++ r = keep ++ n :: r := by simp
 refine ⟨h.ok.less (by simp; omega), h.jE, h.wN, h.dec, h.hd, h.at_, h.GV, by rw [ha]; exact h.wi, h.wt, fun j hj => ?_⟩
 rcases aj.1 hj with hj | hj
 ·exact h.wk j hj
 ·rw [an.1 hj]
  intro hl e he
  rw [an.1 he]
  obtain ⟨sR, JF, oD⟩ := h.at
  obtain ⟨e', eG, hx'⟩ := (mW h.ok _).1 hv
  refine ⟨fun hx => ?_, fun hx => ⟨e', eG, hx', ?_⟩⟩
  ·exact (px h.ok sR eG (by rw [hx, hx'])).elim
  ·have := (kN h.ok eG).2.2.2
   omega
theorem VI.wV {S : Sv} {e0 : St} {n : Nat} {r keep : List Nat} (h : S.VI e0 (n :: r) keep) (hn : (S.rc n).lits ≠ []) (h1 : (S.rc n).lits[1]! = -e0.x) (hv : ¬ 0 < S.val (S.rc n).lits[0]!) (hm : (S.cP n).2 = true) : (S.cP n).1.VI e0 r keep := by
 have h2 := tt h.ok hn
 have oz := sK hn
 obtain ⟨sR, JF, oD⟩ := h.at
 have VM := Ok.wV (h.ok.less (m' := keep.length + r.length + 1) (by simp; omega)) oz hm
 have ro := oo S n
 unfold Sv.cP at VM hm ro ⊢
 cases hk : S.ft (S.rc n).lits (S.rc n).lits.length 2 with
 | none => rw [hk] at hm; cases hm
 | some k =>
  rw [hk] at VM ro
  obtain ⟨k1, k2, k3⟩ := pM _ _ _ hk
  simp only [Sv.nb] at VM ro ⊢
  obtain ⟨x, hx⟩ : ∃ x, (S.rc n).lits[k]! = x := ⟨_, rfl⟩
  rw [hx] at VM ro k3 ⊢
  have hxo : x ≠ -e0.x := fun e => by
   have := sU (h.jE n) k2 (by omega : 1 < _) (by omega)
   rw [hx, h1, e] at this
   exact this rfl
  have hcx : aJ x ≠ aJ (-e0.x) := fun e => hxo (ia e)
  have Ay : (S.rc n).lits[0]! ≠ x := fun e => by
   have := sU (h.jE n) (by omega : 0 < _) k2 (by omega)
   rw [hx, e] at this
   exact this rfl
  have h0o : (S.rc n).lits[0]! ≠ -e0.x := fun e => by
   have := sU (h.jE n) (by omega : 0 < _) (by omega : 1 < _) (by omega)
   rw [h1, e] at this
   exact this rfl
  have hp := fD (l := (S.rc n).lits) (i := 1) (j := k) (by omega) k2
  have g0 : (cj (S.rc n).lits 1 k)[0]! = (S.rc n).lits[0]! := by
   rw [ko (by omega) k2 (by omega), if_neg (by omega), if_neg (by omega)]
  have g1 : (cj (S.rc n).lits 1 k)[1]! = x := by
   rw [ko (by omega) k2 (by omega), if_neg (by omega), if_pos rfl, hx]
  have dN : cj (S.rc n).lits 1 k ≠ [] := fun e => by
   have := eO (S.rc n).lits 1 k
   rw [e] at this
   simp at this
   omega
  obtain ⟨S', Mm⟩ : ∃ S', (S.dH n (cj (S.rc n).lits 1 k)).fP (aJ x) n = S' := ⟨_, rfl⟩
  have fm : ∀ j, S'.rc j = if n = j then { S.rc n with lits := cj (S.rc n).lits 1 k } else S.rc j := fun j => by
   rw [← Mm]
   show (S.dH n (cj (S.rc n).lits 1 k)).rc j = _
   rw [jU]
   by_cases e : n = j
   ·rw [if_pos ⟨e, oz⟩, if_pos e]
   ·rw [if_neg (fun h => e h.1), if_neg e]
  have sa : (S'.rc n).lits = cj (S.rc n).lits 1 k := by rw [fm, if_pos rfl]
  have AK : ∀ j, j ≠ n → S'.rc j = S.rc j := fun j hj => by rw [fm, if_neg (fun e => hj e.symm)]
  have qh : aJ x < S.watch.length := by
   have := h.ok.lit k2
   rw [hx] at this
   rw [h.ok.wl]
   exact fG this.2.1 this.2.2
  have uc : ∀ c, S'.eX c = if c = aJ x then S.eX c ++ [n] else S.eX c := fun c => by
   rw [← Mm]
   unfold eX fP bS dH
   rw [du]
   by_cases e : aJ x = c
   ·rw [if_pos ⟨e, qh⟩, if_pos e.symm, ← e]; rfl
   ·rw [if_neg (fun h => e h.1), if_neg (fun h => e h.symm)]
  have Ex : S'.R = S.R := nv (by rw [← Mm]; rfl)
  have hSh : S'.head = S.head := by rw [← Mm]; rfl
  have YK : S'.T = S.T := by rw [← Mm]; rfl
  rw [Mm] at VM ⊢
  have Cs := h.wi.nd (aJ (-e0.x))
  rw [u4, List.nodup_append] at Cs
  have RJ : n ∉ keep := fun hk => Cs.2.2 n hk n bY rfl
  have hnr : n ∉ r := (gW.1 Cs.2.1).1
  have hs : (keep ++ r).Sublist (keep ++ n :: r) := List.Sublist.append_left (List.sublist_cons_self n r) keep
  have yx : n ∉ S.eX (aJ x) := fun hm => by
   have := h.wi.wd (aJ x) n (by rw [rJ _ _ hcx]; exact hm) hn
   rcases this with e | e
   ·exact Ay (ia e)
   ·rw [h1] at e; exact hxo (ia e).symm
  refine ⟨VM, fun j => ?_, ?_, ?_, ?_, by rw [Ex, hSh]; exact h.at_, ?_, ⟨fun c => ?_, fun c j hj hl => ?_, fun j hl => ?_⟩, fun j => ?_, fun j hj => ?_⟩
  ·by_cases e : j = n
   ·rw [e, sa]
    exact (hp.map tv).nodup_iff.2 (h.jE n)
   ·rw [AK j e]; exact h.jE j
  ·intro A e B hR hr
   rw [Ex] at hR
   obtain ⟨i, hi, ls, oR, jd⟩ := h.wN A e B hR hr
   have oU : i ≠ n := fun ei => by
    rw [ei] at oR
    rw [oR] at hv
    exact hv ((mW h.ok _).2 ⟨e, by rw [hR]; simp, rfl⟩)
   exact ⟨i, hi, ls, by rw [AK i oU]; exact oR, jd⟩
  ·intro A e B hR hr
   rw [Ex] at hR
   exact h.dec A e B hR hr
  ·intro e he
   rw [Ex, hSh] at he
   rw [YK]
   exact h.hd e he
  ·rw [uc, if_neg (fun e => hcx e.symm)]
   exact h.GV
  ·by_cases hc : c = aJ (-e0.x)
   ·have := h.wi.nd c
    subst hc
    rw [u4] at this ⊢
    exact this.sublist hs
   ·have := h.wi.nd c
    rw [rJ _ _ hc] at this ⊢
    rw [uc]
    split
    ·rename_i ec
     rw [List.nodup_append]
     refine ⟨this, by simp, fun a ha b hb => ?_⟩
     rw [an.1 hb]
     intro e
     rw [e, ec] at ha
     exact yx ha
    ·exact this
  ·have hold : j ∈ S.W (-e0.x) (keep ++ n :: r) c ∨ (j = n ∧ c = aJ x) := by
    by_cases hc : c = aJ (-e0.x)
    ·subst hc
     rw [u4] at hj ⊢
     exact .inl (hs.subset hj)
    ·rw [rJ _ _ hc] at hj ⊢
     rw [uc] at hj
     split at hj
     ·rename_i ec
      rcases aj.1 hj with h3 | h3
      ·exact .inl h3
      ·exact .inr ⟨an.1 h3, ec⟩
     ·exact .inl hj
   by_cases e : j = n
   ·subst e
    rw [sa, g0, g1]
    by_cases hc : c = aJ (-e0.x)
    ·subst hc
     rw [u4] at hj
     rcases aj.1 hj with h3 | h3
     ·exact absurd h3 RJ
     ·exact absurd h3 hnr
    ·rcases hold with h3 | h3
     ·rcases h.wi.wd c j h3 hn with h4 | h4
      ·exact .inl h4
      ·rw [h1] at h4; exact absurd h4.symm hc
     ·exact .inr h3.2.symm
   ·rw [AK j e] at hl ⊢
    rcases hold with h3 | h3
    ·exact h.wi.wd c j h3 hl
    ·exact absurd h3.1 e
  ·have vO : ∀ c, j ≠ n ∨ c ≠ aJ (-e0.x) → j ∈ S.W (-e0.x) (keep ++ n :: r) c → j ∈ S'.W (-e0.x) (keep ++ r) c := fun c hor hj => by
    by_cases hc : c = aJ (-e0.x)
    ·have PZ : j ≠ n := by
      rcases hor with h3 | h3
      ·exact h3
      ·exact absurd hc h3
     subst hc
     rw [u4] at hj ⊢
     rcases aj.1 hj with h3 | h3
     ·exact aW _ h3
     ·rcases ay.1 h3 with h3 | h3
      ·exact absurd h3 PZ
      ·exact List.mem_append_right _ h3
    ·rw [rJ _ _ hc] at hj ⊢
     rw [uc]
     split
     ·exact aW _ hj
     ·exact hj
   by_cases e : j = n
   ·subst e
    rw [sa, g0, g1]
    refine ⟨vO _ (.inr fun e => h0o (ia e)) (h.wi.wc j hn).1, ?_⟩
    rw [rJ _ _ hcx, uc, if_pos rfl]
    simp
   ·rw [AK j e] at hl ⊢
    have := h.wi.wc j hl
    exact ⟨vO _ (.inl e) this.1, vO _ (.inl e) this.2⟩
  ·intro hl e he
   rw [Ex, hSh] at he
   rw [Ex]
   have Um : e ∈ S.R := List.mem_of_mem_take he
   by_cases ej : j = n
   ·subst ej
    rw [sa, g0, g1]
    refine ⟨fun h3 => ?_, fun h3 => ?_⟩
    ·obtain ⟨e', eG, h4, h5⟩ := (h.wt j hn e he).1 h3
     rw [h1] at h4
     exact (px h.ok eG sR h4).elim
    ·have : S.val x < 0 := (val_neg h.ok).2 ⟨e, Um, h3⟩
     omega
   ·rw [AK j ej] at hl ⊢
    exact h.wt j hl e he
  ·have ej : j ≠ n := fun e => RJ (e ▸ hj)
   intro hl e he
   rw [AK j ej] at hl ⊢
   rw [Ex]
   exact h.wk j hj hl e he
theorem uG {S : Sv} {l : List Int} : ∀ (f k : Nat), l.length ≤ f + k → S.ft l f k = none → ∀ j, k ≤ j → j < l.length → S.val l[j]! < 0
 | 0, k, hf, h, j, h1, h2 => by omega
 | f + 1, k, hf, h, j, h1, h2 => by
  simp only [ft] at h
  rw [if_pos (by omega)] at h
  split at h
  ·cases h
  ·by_cases e : j = k
   ·rw [e]; omega
   ·exact uG f (k + 1) (by omega) h j (by omega) h2
theorem VI.MB {S : Sv} {e0 : St} {n : Nat} {r keep : List Nat} (h : S.VI e0 (n :: r) keep) (hn : (S.rc n).lits ≠ []) (h1 : (S.rc n).lits[1]! = -e0.x) (hm : ¬ (S.cP n).2 = true) :
  ∃ ls, (S.rc n).lits = (S.rc n).lits[0]! :: ls ∧ (-e0.x) ∈ ls ∧ ∀ y ∈ ls, ∃ e ∈ S.R, e.x = -y := by
 have h2 := tt h.ok hn
 obtain ⟨sR, JF, oD⟩ := h.at
 have hk : S.ft (S.rc n).lits (S.rc n).lits.length 2 = none := by
  unfold Sv.cP at hm
  cases hk : S.ft (S.rc n).lits (S.rc n).lits.length 2 with
  | none => rfl
  | some k => rw [hk] at hm; exact absurd rfl hm
 have hf := uG _ _ (by omega) hk
 generalize (S.rc n).lits = l at *
 match l, h2 with
 | x :: y :: ls, _ =>
  have h1 : y = -e0.x := h1
  refine ⟨y :: ls, rfl, by rw [h1]; exact bY, fun z hz => ?_⟩
  rcases ay.1 hz with rfl | hz
  ·exact ⟨e0, sR, by omega⟩
  ·obtain ⟨i, hi, hg⟩ := List.getElem_of_mem hz
   have := hf (i + 2) (by omega) (by simp; omega)
   rw [pK (by simp; omega)] at this
   simp only [List.getElem_cons_succ] at this
   rw [hg] at this
   exact (val_neg h.ok).1 this
theorem VI.put {S : Sv} {e0 : St} {n : Nat} {r keep : List Nat} (h : S.VI e0 (n :: r) keep) (hn : (S.rc n).lits ≠ []) (h1 : (S.rc n).lits[1]! = -e0.x) (hm : ¬ (S.cP n).2 = true) (hv : S.val (S.rc n).lits[0]! = 0) :
  (S.put (S.rc n).lits[0]! (n + 1)).VI e0 r (keep ++ [n]) := by
 have h2 := tt h.ok hn
 have oz := sK hn
 obtain ⟨sR, JF, oD⟩ := h.at
 obtain ⟨ls, oR, hol, jd⟩ := h.MB hn h1 hm
 have iq := h.ok.lit (n := n) (k := 0) (by omega)
 obtain ⟨x, hx⟩ : ∃ x, (S.rc n).lits[0]! = x := ⟨_, rfl⟩
 rw [hx] at iq hv oR ⊢
 have nT := h.ok.vl
 have htv : 1 ≤ tv x ∧ tv x ≤ S.vars := by
  unfold tv
  split
  ·omega
  ·split
   ·omega
   ·omega
 have hb := pr h.ok htv.1 htv.2 hv
 have hR := MY (r := (n : Int) + 1) h.ok hb
 have okP := Ok.put h.ok (x := x) (r := (n : Int) + 1) (by omega)
 have hle : (S.put x (n + 1)).T.levels = S.T.levels := dz S x (n + 1)
 have ha : (keep ++ [n]) ++ r = keep ++ n :: r := by simp
 have oU : ∀ e ∈ S.R, e ∈ (S.put x (n + 1)).R := fun e he => by rw [hR]; exact aW _ he
 have FQ : (S.put x (n + 1)).R.take (S.put x (n + 1)).head = S.R.take S.head := by
  show (S.put x (n + 1)).R.take S.head = _
  rw [hR, kU (by omega)]
 refine ⟨okP.less (by simp; omega), h.jE, ?_, ?_, ?_, ?_, h.GV, by rw [ha]; exact ⟨h.wi.nd, h.wi.wd, h.wi.wc⟩, fun j hl e he => ?_, fun j hj hl e he => ?_⟩
 ·intro A e B Mn hr
  rw [hR] at Mn
  rcases lh Mn.symm with ⟨h3, h4, h5⟩ | ⟨B', h3, h4⟩
  ·subst h4
   rw [h5]
   exact ⟨n, rfl, ls, oR, jd⟩
  ·exact h.wN A e B' h4 hr
 ·intro A e B Mn hr
  rw [hR] at Mn
  rcases lh Mn.symm with ⟨h3, h4, h5⟩ | ⟨B', h3, h4⟩
  ·rw [h5] at hr
   have hr : (n : Int) + 1 = 0 := hr
   omega
  ·exact h.dec A e B' h4 hr
 ·intro e he
  have he : e ∈ (S.put x (n + 1)).R.drop S.head := he
  rw [hle]
  rw [hR, List.drop_append_of_le_length (by omega)] at he
  rcases aj.1 he with h3 | h3
  ·exact h.hd e h3
  ·rw [an.1 h3]
 ·show (S.put x (n + 1)).R[S.head]? = _
  rw [hR, eS JF]
  exact h.at_
 ·rw [FQ] at he
  obtain ⟨h3, h4⟩ := h.wt j hl e he
  refine ⟨fun h5 => ?_, fun h5 => ?_⟩
  ·obtain ⟨e', eG, h6⟩ := h3 h5
   exact ⟨e', oU e' eG, h6⟩
  ·obtain ⟨e', eG, h6⟩ := h4 h5
   exact ⟨e', oU e' eG, h6⟩
 ·rcases aj.1 hj with hj | hj
  ·obtain ⟨h3, h4⟩ := h.wk j hj hl e he
   refine ⟨fun h5 => ?_, fun h5 => ?_⟩
   ·obtain ⟨e', eG, h6⟩ := h3 h5
    exact ⟨e', oU e' eG, h6⟩
   ·obtain ⟨e', eG, h6⟩ := h4 h5
    exact ⟨e', oU e' eG, h6⟩
  ·have PZ := an.1 hj
   subst PZ
   rw [an.1 he]
   refine ⟨fun h5 => ?_, fun h5 => ⟨⟨x, S.T.levels.length, (j : Int) + 1⟩, by rw [hR]; simp, hx.symm, by simp [oD]⟩⟩
   have h5 : e0.x = -(S.rc j).lits[0]! := h5
   rw [hx] at h5
   have : S.val x < 0 := (val_neg h.ok).2 ⟨e0, sR, h5⟩
   omega
theorem VI.cfl {S : Sv} {e0 : St} {n : Nat} {r keep : List Nat} (h : S.VI e0 (n :: r) keep) (hn : (S.rc n).lits ≠ []) (h1 : (S.rc n).lits[1]! = -e0.x) (hm : ¬ (S.cP n).2 = true) (hv : S.val (S.rc n).lits[0]! < 0) : S.Sz n := by
 obtain ⟨sR, JF, oD⟩ := h.at
 obtain ⟨ls, oR, hol, jd⟩ := h.MB hn h1 hm
 refine ⟨fun y hy => ?_, -e0.x, by rw [oR]; exact bR _ hol, e0, sR, by omega, oD⟩
 rw [oR] at hy
 rcases ay.1 hy with rfl | hy
 ·exact (val_neg h.ok).1 hv
 ·exact jd y hy
end Sv
namespace Sv
structure Mo (S S' : Sv) : Prop where
 pre : ∃ Z, S'.R = S.R ++ Z ∧ ∀ e ∈ Z, e.r ≠ 0
 lits : ∀ n, (S'.rc n).lits.Perm (S.rc n).lits
 jI : ∀ n, (S'.rc n).jI = (S.rc n).jI
theorem Mo.refl (S : Sv) : Mo S S := ⟨⟨[], by simp, fun e h => by cases h⟩, fun n => cN _, fun n => rfl⟩
theorem Mo.same {S S' : Sv} (h1 : S'.T = S.T) (h2 : S'.list = S.list) : Mo S S' := by
 refine ⟨⟨[], by rw [nv h1]; simp, fun e h => by cases h⟩, fun n => ?_, fun n => ?_⟩
 ·unfold rc; rw [h2]
 ·unfold rc; rw [h2]
theorem Mo.trans {S S1 S2 : Sv} (h : Mo S S1) (k : Mo S1 S2) : Mo S S2 := by
 obtain ⟨Z, hZ, hr⟩ := h.pre
 obtain ⟨Z', hZ', TD⟩ := k.pre
 refine ⟨⟨Z ++ Z', by rw [hZ', hZ, List.append_assoc], fun e he => ?_⟩, fun n => (k.lits n).trans (h.lits n), fun n => (k.jI n).trans (h.jI n)⟩
 rcases aj.1 he with h1 | h1
 ·exact hr e h1
 ·exact TD e h1
theorem Mo.dH (S : Sv) {n : Nat} {l : List Int} (h : l.Perm (S.rc n).lits) : Mo S (S.dH n l) := by
 refine ⟨⟨[], by rw [dJ]; rfl, fun e h => by cases h⟩, fun j => ?_, fun j => ?_⟩
 ·rw [jU]
  split
  ·rename_i e; rw [← e.1]; exact h
  ·exact cN _
 ·rw [jU]
  split
  ·rename_i e; rw [← e.1]
  ·rfl
theorem Mo.ch {S : Sv} {m : Nat} (ok : S.Ok m) (n : Nat) (off : Int) : Mo S (S.ch n off) := by
 unfold Sv.ch
 split
 ·refine Mo.dH S ?_
  by_cases h : (S.rc n).lits = []
  ·rw [h]; exact cN _
  ·have := tt ok h
   exact fD (by omega) (by omega)
 ·exact Mo.refl S
theorem Mo.wV (S : Sv) (n : Nat) : Mo S (S.cP n).1 := by
 unfold Sv.cP
 cases hk : S.ft (S.rc n).lits (S.rc n).lits.length 2 with
 | none => exact Mo.refl S
 | some k =>
  obtain ⟨k1, k2, k3⟩ := pM _ _ _ hk
  exact (Mo.dH S (fD (i := 1) (by omega) k2)).trans (Mo.same rfl rfl)
theorem Mo.put {S : Sv} {m : Nat} (ok : S.Ok m) (x : Int) {r : Int} (hr : r ≠ 0) : Mo S (S.put x r) := by
 by_cases hb : S.T.i8 x = true
 ·refine ⟨⟨_, MY ok hb, fun e he => by rw [an.1 he]; exact hr⟩, fun n => cN _, fun n => rfl⟩
 ·refine Mo.same ?_ rfl
  unfold Sv.put
  simp only
  rw [if_neg hb]
theorem Mo.visit {S : Sv} {m : Nat} (ok : S.Ok m) (n : Nat) (off : Int) : Mo S (S.cF n off).1 := by
 unfold cF
 split
 ·exact Mo.refl S
 ·have h1 := Mo.ch ok n off
  have Jr := Ok.ch ok n off
  generalize S.ch n off = S1 at *
  unfold eY
  simp only
  split
  ·exact h1
  ·split
   ·exact h1.trans (Mo.wV S1 n)
   ·split
    ·exact h1
    ·exact h1.trans (Mo.put Jr _ (by omega))
theorem VI.visit {S : Sv} {e0 : St} {n : Nat} {r keep : List Nat} (h : S.VI e0 (n :: r) keep) :
  ((S.cF n (-e0.x)).2.2 = true → (S.cF n (-e0.x)).1.VI e0 r (if (S.cF n (-e0.x)).2.1 = true then keep ++ [n] else keep)) ∧
  ((S.cF n (-e0.x)).2.2 = false → (S.cF n (-e0.x)).2.1 = true ∧ (S.cF n (-e0.x)).1.VI e0 (n :: r) keep ∧ (S.cF n (-e0.x)).1.Sz n ∧ ((S.cF n (-e0.x)).1.rc n).lits ≠ []) := by
 unfold cF
 by_cases hn : (S.rc n).lits.length = 0
 ·rw [if_pos hn]
  exact ⟨fun _ => h.dead (a6 hn), fun h => by cases h⟩
 ·rw [if_neg hn]
  obtain ⟨h1, h2, h3, h4⟩ := h.ch (fun e => hn (by rw [e]; rfl))
  generalize S.ch n (-e0.x) = S1 at *
  unfold eY
  simp only
  by_cases hv : (0 : Int) < S1.val (S1.rc n).lits[0]!
  ·rw [if_pos hv]
   exact ⟨fun _ => h1.stay h3 h2 hv, fun h => by cases h⟩
  ·rw [if_neg hv]
   by_cases hm : (S1.cP n).2 = true
   ·rw [if_pos hm]
    exact ⟨fun _ => h1.wV h3 h2 hv hm, fun h => by cases h⟩
   ·rw [if_neg hm]
    by_cases oy : S1.val (S1.rc n).lits[0]! < 0
    ·rw [if_pos oy]
     exact ⟨fun h => (by cases h), fun _ => ⟨rfl, h1, h1.cfl h3 h2 hm oy, h3⟩⟩
    ·rw [if_neg oy]
     exact ⟨fun _ => h1.put h3 h2 hm (by omega), fun h => by cases h⟩
theorem mh (S : Sv) {c : Nat} (l : List Nat) (hc : c < S.watch.length) (j : Nat) : (S.bS c l).eX j = if j = c then l else S.eX j := by
 unfold eX bS
 rw [du]
 by_cases e : c = j
 ·rw [if_pos ⟨e, hc⟩, if_pos e.symm]
 ·rw [if_neg (fun h => e h.1), if_neg (fun h => e h.symm)]
theorem Gc {x : Int} {v : Nat} (h1 : 1 ≤ tv x) (h2 : tv x ≤ v) (hv : v ≤ 262143) : aJ (-x) < 2 * v + 2 := by
 unfold tv at h1 h2
 refine fG ?_ ?_
 ·split at h2
  ·omega
  ·split at h2 <;> omega
 ·split at h2
  ·omega
  ·split at h2
   ·omega
   ·rename_i e1 e2
    rw [if_neg e1, if_neg e2] at h1
    omega
theorem VI.code {S : Sv} {e0 : St} {todo keep : List Nat} (h : S.VI e0 todo keep) : aJ (-e0.x) < S.watch.length := by
 have h1 := kN h.ok h.at.1
 rw [h.ok.wl]
 exact Gc h1.1 h1.2.1 h.ok.vl
theorem VI.end_ {S : Sv} {e0 : St} {keep : List Nat} (h : S.VI e0 [] keep) (hb : ∀ n ∈ keep, n < S.list.length) :
  ({ S.bS (aJ (-e0.x)) (keep ++ S.eX (aJ (-e0.x))) with head := S.head + 1 } : Sv).Inv := by
 obtain ⟨sR, JF, oD⟩ := h.at
 have hc := h.code
 rw [h.GV, dJ]
 have o : (S.bS (aJ (-e0.x)) keep).Ok 0 := h.ok.bS hc hb (by simp)
 have hw : ∀ c, (S.bS (aJ (-e0.x)) keep).eX c = S.W (-e0.x) (keep ++ []) c := fun c => by
  rw [mh S keep hc, dJ]
  rfl
 have FQ : S.R.take (S.head + 1) = S.R.take S.head ++ [e0] := by
  rw [List.take_add_one, h.at_]
  rfl
 refine ⟨⟨o.vl, o.tr, o.hi, o.hl, o.ph, o.wl, o.ll, o.wb, o.wt, o.lr, o.ln, o.lb, ?_, o.rs⟩, h.jE, h.wN, h.dec, fun e he => ?_, ⟨fun c => ?_, fun c n hn hl => ?_, fun n hl => ?_⟩, fun n hl e he => ?_⟩
 ·show S.head + 1 ≤ S.T.lits.length
  rw [← iD]
  omega
 ·have he : e ∈ S.R.drop (S.head + 1) := he
  refine h.hd e ?_
  rw [List.drop_eq_getElem_cons JF]
  exact bR _ he
 ·exact (hw c) ▸ h.wi.nd c
 ·exact h.wi.wd c n ((hw c) ▸ hn) hl
 ·have := h.wi.wc n hl
  rw [← hw, ← hw] at this
  exact this
 ·have he : e ∈ S.R.take (S.head + 1) := he
  rw [FQ] at he
  rcases aj.1 he with h1 | h1
  ·exact h.wt n hl e h1
  ·have hee := an.1 h1
   subst hee
   have hwc := h.wi.wc n hl
   have hk : ∀ x : Int, n ∈ S.W (-e.x) (keep ++ []) (aJ x) → e.x = -x → n ∈ keep := fun x hx h2 => by
    rw [show x = -e.x by omega, u4, dJ] at hx
    exact hx
   exact ⟨fun h2 => (h.wk n (hk _ hwc.1 h2) hl e bY).1 h2, fun h2 => (h.wk n (hk _ hwc.2 h2) hl e bY).2 h2⟩
theorem VI.stop {S : Sv} {e0 : St} {todo keep : List Nat} (h : S.VI e0 todo keep) (hb : ∀ n ∈ keep ++ todo, n < S.list.length) :
  (S.bS (aJ (-e0.x)) (keep ++ todo)).Inv := by
 have hc := h.code
 have o : (S.bS (aJ (-e0.x)) (keep ++ todo)).Ok 0 := h.ok.bS hc hb (by simp)
 have hw : ∀ c, (S.bS (aJ (-e0.x)) (keep ++ todo)).eX c = S.W (-e0.x) (keep ++ todo) c := fun c => by
  rw [mh S _ hc]
  rfl
 refine ⟨o, h.jE, h.wN, h.dec, h.hd, ⟨fun c => ?_, fun c n hn hl => ?_, fun n hl => ?_⟩, h.wt⟩
 ·exact (hw c) ▸ h.wi.nd c
 ·exact h.wi.wd c n ((hw c) ▸ hn) hl
 ·have := h.wi.wc n hl
  rw [← hw, ← hw] at this
  exact this
theorem VI.mj {e0 : St} : ∀ (ws keep : List Nat) (S : Sv), S.VI e0 ws keep → (∀ n ∈ keep ++ ws, n < S.list.length) →
  Mo S (bH (-e0.x) ws keep S).1 ∧
  ((bH (-e0.x) ws keep S).2 = none → ({ (bH (-e0.x) ws keep S).1 with head := (bH (-e0.x) ws keep S).1.head + 1 } : Sv).Inv) ∧
  ∀ n, (bH (-e0.x) ws keep S).2 = some n → (bH (-e0.x) ws keep S).1.Inv ∧ (bH (-e0.x) ws keep S).1.Sz n ∧ ((bH (-e0.x) ws keep S).1.rc n).lits ≠ []
 | [], keep, S, h, hb => by
  simp only [bH]
  exact ⟨Mo.same rfl rfl, fun _ => h.end_ (fun n hn => hb n (by simpa using hn)), fun n h => by cases h⟩
 | n :: r, keep, S, h, hb => by
  simp only [bH]
  obtain ⟨v1, v2⟩ := h.visit
  have TR := Mo.visit h.ok n (-e0.x)
  have vq := (Ok.visit (h.ok.less (m' := keep.length + r.length + 1) (by simp only [kV]; omega)) (hb n (by simp)) (-e0.x)).2.2.1
  generalize S.cF n (-e0.x) = q at *
  obtain ⟨S1, b1, b2⟩ := q
  simp only at v1 v2 TR vq ⊢
  cases b2 with
  | true =>
   rw [if_pos rfl]
   obtain ⟨i1, i2, i3⟩ := VI.mj r _ S1 (v1 rfl) (fun j hj => by
    rw [vq]
    rcases aj.1 hj with h1 | h1
    ·split at h1
     ·rcases aj.1 h1 with h2 | h2
      ·exact hb j (by simp [h2])
      ·exact hb j (by simp at h2; simp [h2])
     ·exact hb j (by simp [h1])
    ·exact hb j (by simp [h1]))
   exact ⟨TR.trans i1, i2, i3⟩
  | false =>
   rw [if_neg (by simp)]
   obtain ⟨sT, k1, k2, k3⟩ := v2 rfl
   subst sT
   have ni := k1.stop (fun j hj => by rw [vq]; exact hb j hj)
   refine ⟨TR.trans (Mo.same rfl rfl), fun h => (by cases h), fun j hj => ?_⟩
   simp only [Option.some.injEq] at hj
   subst hj
   have ha : (keep ++ [n]) ++ r = keep ++ n :: r := by simp
   rw [if_pos rfl, ha]
   exact ⟨ni, k2, k3⟩
theorem Inv.begin {S : Sv} (h : S.Inv) {e0 : St} (h0 : S.R[S.head]? = some e0) : (S.bS (aJ (-e0.x)) []).VI e0 (S.eX (aJ (-e0.x))) [] := by
 have hm : e0 ∈ S.R := List.mem_of_getElem? h0
 have h1 := kN h.ok hm
 have nT := h.ok.vl
 have hc : aJ (-e0.x) < S.watch.length := by
  rw [h.ok.wl]
  exact Gc h1.1 h1.2.1 nT
 have o : (S.bS (aJ (-e0.x)) []).Ok (([] : List Nat).length + (S.eX (aJ (-e0.x))).length) := h.ok.bS hc (fun n hn => by cases hn) (by simp)
 have hw : ∀ c, (S.bS (aJ (-e0.x)) []).W (-e0.x) ([] ++ S.eX (aJ (-e0.x))) c = S.eX c := fun c => by
  unfold W
  rw [mh S [] hc]
  by_cases e : c = aJ (-e0.x)
  ·rw [if_pos e, e]; rfl
  ·rw [if_neg e, if_neg e]
 refine ⟨o, h.jE, h.wN, h.dec, h.hd, h0, ?_, ⟨fun c => ?_, fun c n hn hl => ?_, fun n hl => ?_⟩, h.wt, fun n hn => by cases hn⟩
 ·rw [mh S [] hc, if_pos rfl]
 ·rw [hw]; exact h.wi.nd c
 ·rw [hw] at hn; exact h.wi.wd c n hn hl
 ·rw [hw, hw]; exact h.wi.wc n hl
theorem yr {S : Sv} {m : Nat} (ok : S.Ok m) : S.T.lits.length ≤ S.vars := by
 have hn := ok.rep.nd
 have se : (S.R.map fun e : St => (tv e.x - 1).toNat).Nodup := by
  unfold List.Nodup at hn ⊢
  rw [List.pairwise_map] at hn ⊢
  refine List.Pairwise.imp_of_mem ?_ hn
  intro a b ha hb dN e
  have := kN ok ha
  have := kN ok hb
  omega
 have := i9 S.vars _ se (fun x hx => by
  rw [bE] at hx
  obtain ⟨e, he, rfl⟩ := hx
  have := kN ok he
  omega)
 rw [← iD]
 simpa using this
theorem pL : ∀ (f : Nat) (S : Sv), S.Inv → S.vars + 1 ≤ f + S.head → (cI f S).1.Inv ∧ Mo S (cI f S).1 ∧ ((cI f S).2 = none → (cI f S).1.head = (cI f S).1.T.lits.length) ∧ ∀ n, (cI f S).2 = some n → (cI f S).1.Sz n ∧ ((cI f S).1.rc n).lits ≠ []
 | 0, S, h, hf => by
  have h1 := yr h.ok
  have h2 := h.ok.hd
  omega
 | f + 1, S, h, hf => by
  by_cases hh : S.head < S.T.lits.length
  ·rw [uF hh]
   obtain ⟨e0, sR⟩ : ∃ e0, S.R[S.head]? = some e0 := ⟨_, af (by rw [iD]; exact hh)⟩
   have hx : S.T.lits[S.head]! = e0.x := by
    have : (S.T.lits)[S.head]? = some e0.x := by rw [h.ok.rep.lits, bh, sR]; rfl
    rw [ae, this]
    rfl
   rw [hx]
   obtain ⟨i1, i2, i3⟩ := VI.mj (S.eX (aJ (-e0.x))) [] _ (h.begin sR) (fun n hn => h.ok.wb (aJ (-e0.x)) n ((aj.1 hn).elim (fun h => by cases h) id))
   have vM := mD (-e0.x) (S.eX (aJ (-e0.x))) [] (S.bS (aJ (-e0.x)) [])
   have Xv := (Ok.mj (-e0.x) (S.eX (aJ (-e0.x))) [] _ (h.begin sR).ok (fun n hn => h.ok.wb _ n hn) (fun n hn => by cases hn) (h.begin sR).code).2.2.1
   rw [na] at vM
   have Jw : (bH (-e0.x) (S.eX (aJ (-e0.x))) [] (S.bS (aJ (-e0.x)) [])).1.vars = S.vars := congrArg (fun x => x.2.1) vM
   have vp : Mo S (S.bS (aJ (-e0.x)) []) := Mo.same rfl rfl
   generalize bH (-e0.x) (S.eX (aJ (-e0.x))) [] (S.bS (aJ (-e0.x)) []) = q at *
   obtain ⟨S1, o⟩ := q
   simp only at i1 i2 i3 Xv Jw ⊢
   have Xv : S1.head = S.head := Xv
   cases o with
   | some n =>
    rw [if_pos (show (some n).isSome = true from rfl)]
    obtain ⟨k1, k2, k3⟩ := i3 n rfl
    refine ⟨k1, vp.trans i1, fun h => (by cases h), fun j hj => ?_⟩
    simp only [Option.some.injEq] at hj
    subst hj
    exact ⟨k2, k3⟩
   | none =>
    rw [if_neg (show ¬ (none : Option Nat).isSome = true by simp)]
    obtain ⟨k1, k2, k3, k4⟩ := pL f { S1 with head := S1.head + 1 } (i2 rfl) (by show S1.vars + 1 ≤ f + (S1.head + 1); omega)
    exact ⟨k1, (vp.trans i1).trans ((Mo.same rfl rfl : Mo S1 { S1 with head := S1.head + 1 }).trans k2), k3, k4⟩
  ·rw [lD hh]
   have := h.ok.hd
   exact ⟨h, Mo.refl S, fun _ => by show S.head = S.T.lits.length; omega, fun n h => by cases h⟩
theorem rB {S : Sv} (h : S.Inv) : S.follow.1.Inv ∧ Mo S S.follow.1 ∧ (S.follow.2 = none → S.follow.1.head = S.follow.1.T.lits.length) ∧ ∀ n, S.follow.2 = some n → S.follow.1.Sz n ∧ (S.follow.1.rc n).lits ≠ [] :=
 pL _ S h (by omega)
end Sv
theorem uO (m : Int) : ∀ {R : List St}, R.Pairwise (fun a b : St => a.l ≤ b.l) → ∃ B, R = R.filter (fun e : St => decide (e.l ≤ m)) ++ B ∧ ∀ e ∈ B, m < e.l
 | [], _ => ⟨[], rfl, fun e h => by cases h⟩
 | e :: R, h => by
  rw [List.pairwise_cons] at h
  by_cases he : e.l ≤ m
  ·obtain ⟨B, h1, h2⟩ := uO m h.2
   refine ⟨B, ?_, h2⟩
   rw [List.filter_cons, if_pos (by simpa using he), List.cons_append, ← h1]
  ·have jd : ∀ e' ∈ R, m < e'.l := fun e' eG => by have := h.1 e' eG; omega
   have : R.filter (fun e : St => decide (e.l ≤ m)) = [] := by
    rw [List.filter_eq_nil_iff]
    intro e' eG
    have := jd e' eG
    simp
    omega
   refine ⟨e :: R, ?_, fun e' eG => ?_⟩
   ·rw [List.filter_cons, if_neg (by simpa using he), this]
    rfl
   ·rcases ay.1 eG with rfl | eG
    ·omega
    ·exact jd e' eG
namespace Sv
theorem FG {S S' : Sv} (h : S'.list = S.list) (n : Nat) : S'.rc n = S.rc n := by unfold rc; rw [h]
theorem mi {S S' : Sv} (h : S'.watch = S.watch) (c : Nat) : S'.eX c = S.eX c := by unfold eX; rw [h]
theorem Inv.congr {S S' : Sv} (h : S.Inv) (ok : S'.Ok 0) (hT : S'.T = S.T) (hh : S'.head = S.head) (hl : ∀ n, (S'.rc n).lits = (S.rc n).lits) (hw : S'.watch = S.watch) : S'.Inv := by
 have hR := nv hT
 refine ⟨ok, fun n => by rw [hl]; exact h.jE n, fun A e B h1 h2 => ?_, fun A e B h1 h2 => h.dec A e B (hR ▸ h1) h2, fun e he => ?_, ⟨fun c => by rw [mi hw]; exact h.wi.nd c, fun c n hn oS => ?_, fun n oS => ?_⟩, fun n oS e he => ?_⟩
 ·obtain ⟨n, h3, ls, h4, h5⟩ := h.wN A e B (hR ▸ h1) h2
  exact ⟨n, h3, ls, (hl n).trans h4, h5⟩
 ·rw [hR, hh] at he
  rw [hT]
  exact h.hd e he
 ·rw [hl] at oS ⊢
  rw [mi hw] at hn
  exact h.wi.wd c n hn oS
 ·rw [hl] at oS ⊢
  rw [mi hw, mi hw]
  exact h.wi.wc n oS
 ·rw [hl] at oS ⊢
  rw [hR, hh] at he
  rw [hR]
  exact h.wt n oS e he
theorem rH (level : Int) : ∀ (r : List Int) (S : Sv), (dy level r S).watch = S.watch
 | [], S => rfl
 | l :: r, S => by
  rw [dy]
  split
  ·rfl
  ·exact rH level r _
theorem uX {S : Sv} {m : Nat} (ok : S.Ok m) {level : Nat} (hl : level < S.T.levels.length) :
  (S.back level).list = S.list ∧ (S.back level).watch = S.watch ∧ (S.back level).T.levels.length = level ∧ (S.back level).head = min S.head (S.back level).R.length ∧ ∃ B, S.R = (S.back level).R ++ B ∧ (∀ e ∈ B, (level : Int) < e.l) ∧ ∀ e ∈ (S.back level).R, e.l ≤ (level : Int) := by
 obtain ⟨B, h1, h2⟩ := uO (level : Int) ok.rep.sorted
 have hR := UO ok level hl
 have hd := (ok.rep.back level hl).dep
 obtain ⟨g1, g2, g3, g4, g5⟩ := ic (level : Int) S.T.lits.reverse S m ok
 have hw := rH (level : Int) S.T.lits.reverse S
 have hbT : (S.back level).T = S.T.cD level := by
  unfold back
  rw [if_neg (by omega)]
  simp only
  rw [g2]
 refine ⟨?_, ?_, by rw [hbT]; exact hd, ?_, B, by rw [hR]; exact h1, h2, fun e he => ?_⟩
 ·unfold back
  rw [if_neg (by omega)]
  exact g5
 ·unfold back
  rw [if_neg (by omega)]
  exact hw
 ·rw [iD, hbT]
  unfold back
  rw [if_neg (by omega)]
  simp only
  rw [g2, g3]
 ·rw [hR] at he
  have := (List.mem_filter.1 he).2
  simpa using this
theorem Inv.back {S : Sv} (h : S.Inv) (level : Nat) : (S.back level).Inv := by
 by_cases hl : level < S.T.levels.length
 ·obtain ⟨h1, h2, h3, h4, B, h5, h6, h7⟩ := uX h.ok hl
  have fm := FG h1
  have NX := mi h2
  have oU : ∀ e ∈ (S.back level).R, e ∈ S.R := fun e he => by rw [h5]; exact aW _ he
  have xm : ∀ e ∈ S.R, e.l ≤ (level : Int) → e ∈ (S.back level).R := fun e he hle => by
   rw [h5] at he
   rcases aj.1 he with h8 | h8
   ·exact h8
   ·have := h6 e h8; omega
  refine ⟨(h.ok.back level).1, fun n => by rw [fm]; exact h.jE n, fun A e B1 k1 k2 => ?_, fun A e B1 k1 k2 => h.dec A e (B1 ++ B) (by rw [h5, k1]; simp) k2, fun e he => ?_, ⟨fun c => by rw [NX]; exact h.wi.nd c, fun c n hn oS => ?_, fun n oS => ?_⟩, fun n oS e he => ?_⟩
  ·obtain ⟨n, k3, ls, k4, k5⟩ := h.wN A e (B1 ++ B) (by rw [h5, k1]; simp) k2
   exact ⟨n, k3, ls, by rw [fm]; exact k4, k5⟩
  ·exfalso
   rw [h4] at he
   have hle := h7 e (List.mem_of_mem_drop he)
   by_cases hq : S.head ≤ (S.back level).R.length
   ·rw [iH hq] at he
    have := h.hd e (by rw [h5, List.drop_append_of_le_length hq]; exact aW _ he)
    omega
   ·rw [Nat.min_eq_right (by omega), List.drop_length] at he
    cases he
  ·rw [fm] at oS ⊢
   rw [NX] at hn
   exact h.wi.wd c n hn oS
  ·rw [fm] at oS ⊢
   rw [NX, NX]
   exact h.wi.wc n oS
  ·rw [fm] at oS ⊢
   have hm : e ∈ (S.back level).R := List.mem_of_mem_take he
   have hle := h7 e hm
   have ht : e ∈ S.R.take S.head := by
    rw [h4] at he
    rw [h5]
    have h8 : ((S.back level).R.take (min S.head (S.back level).R.length)) = ((S.back level).R ++ B).take (min S.head (S.back level).R.length) := (kU (Nat.min_le_right _ _)).symm
    rw [h8] at he
    exact List.take_subset_take_left _ (Nat.min_le_left _ _) he
   obtain ⟨k1, k2⟩ := h.wt n oS e ht
   refine ⟨fun hx => ?_, fun hx => ?_⟩
   ·obtain ⟨e', k3, k4, k5⟩ := k1 hx
    exact ⟨e', xm e' k3 (by omega), k4, k5⟩
   ·obtain ⟨e', k3, k4, k5⟩ := k2 hx
    exact ⟨e', xm e' k3 (by omega), k4, k5⟩
 ·have : S.back level = S := by
   unfold Sv.back
   rw [if_pos (by omega)]
  rw [this]
  exact h
structure Jb (S : Sv) (x : Nat) : Prop where
 ok : S.Ok 0
 jE : ∀ n, ((S.rc n).lits.map tv).Nodup
 wN : S.Y8
 dec : S.Dec
 hd : S.Hd
 wi : S.WI S.eX
 wt : ∀ n, n ≠ x → S.Y5 (S.R.take S.head) n
theorem Inv.but {S : Sv} (h : S.Inv) (x : Nat) : S.Jb x := ⟨h.ok, h.jE, h.wN, h.dec, h.hd, h.wi, fun n _ => h.wt n⟩
theorem Ad {S : Sv} {x : Nat} (h : S.Jb x) {y r : Int} (hb : S.T.i8 y = true) (hr : 0 ≤ r ∧ r ≤ S.list.length)
  (h1 : r ≠ 0 → ∃ n : Nat, r = (n : Int) + 1 ∧ ∃ ls, (S.rc n).lits = y :: ls ∧ ∀ z ∈ ls, ∃ e' ∈ S.R, e'.x = -z)
  (h2 : r = 0 → S.T.levels.length = 0 ∨ ∀ e ∈ S.R, e.l < S.T.levels.length) : (S.put y r).Jb x ∧ (S.put y r).R = S.R ++ [⟨y, S.T.levels.length, r⟩] ∧ (S.put y r).R.take (S.put y r).head = S.R.take S.head := by
 have hR := MY (r := r) h.ok hb
 have okP := Ok.put h.ok (x := y) (r := r) hr
 have hle : (S.put y r).T.levels = S.T.levels := dz S y r
 have JF : S.head ≤ S.R.length := by rw [iD]; exact h.ok.hd
 have oU : ∀ e ∈ S.R, e ∈ (S.put y r).R := fun e he => by rw [hR]; exact aW _ he
 have FQ : (S.put y r).R.take (S.put y r).head = S.R.take S.head := by
  show (S.put y r).R.take S.head = _
  rw [hR, kU JF]
 refine ⟨⟨okP, h.jE, ?_, ?_, ?_, ⟨h.wi.nd, h.wi.wd, h.wi.wc⟩, fun j hj hl e he => ?_⟩, hR, FQ⟩
 ·intro A e B Mn hr
  rw [hR] at Mn
  rcases lh Mn.symm with ⟨h3, h4, h5⟩ | ⟨B', h3, h4⟩
  ·subst h4
   rw [h5] at hr ⊢
   exact h1 hr
  ·exact h.wN A e B' h4 hr
 ·intro A e B Mn hr
  rw [hR] at Mn
  rcases lh Mn.symm with ⟨h3, h4, h5⟩ | ⟨B', h3, h4⟩
  ·subst h4
   rw [h5] at hr ⊢
   rcases h2 hr with h6 | h6
   ·left
    show ((S.T.levels.length : Nat) : Int) = 0
    rw [h6]
    rfl
   ·exact .inr h6
  ·exact h.dec A e B' h4 hr
 ·intro e he
  have he : e ∈ (S.put y r).R.drop S.head := he
  rw [hle]
  rw [hR, List.drop_append_of_le_length JF] at he
  rcases aj.1 he with h3 | h3
  ·exact h.hd e h3
  ·rw [an.1 h3]
 ·rw [FQ] at he
  obtain ⟨h3, h4⟩ := h.wt j hj hl e he
  refine ⟨fun h5 => ?_, fun h5 => ?_⟩
  ·obtain ⟨e', eG, h6⟩ := h3 h5
   exact ⟨e', oU e' eG, h6⟩
  ·obtain ⟨e', eG, h6⟩ := h4 h5
   exact ⟨e', oU e' eG, h6⟩
theorem Jb.whole {S : Sv} {x : Nat} (h : S.Jb x) (h1 : S.Y5 (S.R.take S.head) x) : S.Inv :=
 ⟨h.ok, h.jE, h.wN, h.dec, h.hd, h.wi, fun n => by
  by_cases e : n = x
  ·rw [e]; exact h1
  ·exact h.wt n e⟩
theorem o5 {S : Sv} {m : Nat} (ok : S.Ok m) {x : Int} (h : S.val x = 0) : ∀ e ∈ S.R, e.x ≠ x ∧ e.x ≠ -x := fun e he => by
 constructor
 ·intro hx
  have := (mW ok x).2 ⟨e, he, hx⟩
  omega
 ·intro hx
  have := (val_neg ok).2 ⟨e, he, hx⟩
  omega
theorem Inv.put {S : Sv} (h : S.Inv) {y r : Int} (hb : S.T.i8 y = true) (hr : 0 ≤ r ∧ r ≤ S.list.length)
  (h1 : r ≠ 0 → ∃ n : Nat, r = (n : Int) + 1 ∧ ∃ ls, (S.rc n).lits = y :: ls ∧ ∀ z ∈ ls, ∃ e' ∈ S.R, e'.x = -z)
  (h2 : r = 0 → S.T.levels.length = 0 ∨ ∀ e ∈ S.R, e.l < S.T.levels.length) : (S.put y r).Inv ∧ (S.put y r).R = S.R ++ [⟨y, S.T.levels.length, r⟩] := by
 obtain ⟨k1, k2, k3⟩ := Ad (h.but S.list.length) hb hr h1 h2
 refine ⟨k1.whole ?_, k2⟩
 intro hl
 exact absurd (show (S.rc S.list.length).lits = [] by rw [oh (ao _)]) hl
theorem tQ (S : Sv) (l : List Int) (b : Bool) (c : Nat) : (S.gh l b).eX c = S.eX c := rfl
theorem zF (S : Sv) {c n : Nat} (hc : c < S.watch.length) (j : Nat) : (S.fP c n).eX j = if j = c then S.eX c ++ [n] else S.eX j := mh S _ hc j
theorem Inv.attach {S : Sv} (h : S.Inv) {l : List Int} (hf : S.Fits l) (hd : (l.map tv).Nodup) (b : Bool) (hr : S.list.length < 2199023255552) :
  (S.attach l b).Jb S.list.length ∧ (S.attach l b).rc S.list.length = ⟨l, b, S.used⟩ ∧ ∀ n, n ≠ S.list.length → (S.attach l b).rc n = S.rc n := by
 have h2 := hf.two
 have ok := h.ok.attach hf b hr
 have l0 := hf.lit _ (get_mem (l := l) (i := 0) (by omega))
 have l1 := hf.lit _ (get_mem (l := l) (i := 1) (by omega))
 have fm : ∀ n, (S.attach l b).rc n = if n = S.list.length then ⟨l, b, S.used⟩ else S.rc n := fun n => sH S l b n
 have hc0 : aJ l[0]! < S.watch.length := by rw [h.ok.wl]; exact fG l0.2.1 l0.2.2
 have Ev : aJ l[1]! < S.watch.length := by rw [h.ok.wl]; exact fG l1.2.1 l1.2.2
 have h01 : aJ l[0]! ≠ aJ l[1]! := fun e => by
  have := sU hd (by omega : 0 < _) (by omega : 1 < _) (by omega)
  rw [ia e] at this
  exact this rfl
 have uc : ∀ c, (S.attach l b).eX c = if c = aJ l[0]! ∨ c = aJ l[1]! then S.eX c ++ [S.list.length] else S.eX c := fun c => by
  show (((S.gh l b).fP (aJ l[0]!) S.list.length).fP (aJ l[1]!) S.list.length).eX c = _
  have hq := fun j => zF (S.gh l b) (c := aJ l[0]!) (n := S.list.length) hc0 j
  rw [zF _ (by show _ < (S.watch.set _ _).length; rw [ak]; exact Ev), hq, hq, tQ, tQ, tQ]
  by_cases e1 : c = aJ l[1]!
  ·rw [if_pos e1, if_neg (fun e => h01 e.symm), if_pos (.inr e1), e1]
  ·rw [if_neg e1]
   by_cases e0 : c = aJ l[0]!
   ·rw [if_pos e0, if_pos (.inl e0), e0]
   ·rw [if_neg e0, if_neg (fun e => e.elim e0 e1)]
 have kG : (S.attach l b).rc S.list.length = ⟨l, b, S.used⟩ := by rw [fm, if_pos rfl]
 have hold : ∀ n, n ≠ S.list.length → (S.attach l b).rc n = S.rc n := fun n hn => by rw [fm, if_neg hn]
 have PW : ∀ n, (S.rc n).lits ≠ [] → n ≠ S.list.length := fun n hn e => by
  have := sK hn
  omega
 refine ⟨⟨ok, fun n => ?_, fun A e B k1 k2 => ?_, h.dec, h.hd, ⟨fun c => ?_, fun c n hn hl => ?_, fun n hl => ?_⟩, fun n hn hl e he => ?_⟩, kG, hold⟩
 ·by_cases e : n = S.list.length
  ·rw [e, kG]; exact hd
  ·rw [hold n e]; exact h.jE n
 ·obtain ⟨n, k3, ls, k4, k5⟩ := h.wN A e B k1 k2
  exact ⟨n, k3, ls, by rw [hold n (PW n (by rw [k4]; simp))]; exact k4, k5⟩
 ·rw [uc]
  have := h.wi.nd c
  split
  ·rw [List.nodup_append]
   refine ⟨this, by simp, fun a ha b' hb' => ?_⟩
   rw [an.1 hb']
   have := h.ok.wb c a ha
   omega
  ·exact this
 ·rw [uc] at hn
  by_cases e : n = S.list.length
  ·rw [e, kG]
   split at hn
   ·rename_i hc
    exact hc.imp Eq.symm Eq.symm
   ·have := h.ok.wb c n hn
    omega
  ·rw [hold n e] at hl ⊢
   refine h.wi.wd c n ?_ hl
   split at hn
   ·rcases aj.1 hn with h3 | h3
    ·exact h3
    ·exact absurd (an.1 h3) e
   ·exact hn
 ·by_cases e : n = S.list.length
  ·rw [e, kG]
   rw [uc, uc, if_pos (.inl rfl), if_pos (.inr rfl)]
   exact ⟨by simp, by simp⟩
  ·rw [hold n e] at hl ⊢
   have hq := h.wi.wc n hl
   have vO : ∀ c, n ∈ S.eX c → n ∈ (S.attach l b).eX c := fun c hc => by
    rw [uc]
    split
    ·exact aW _ hc
    ·exact hc
   exact ⟨vO _ hq.1, vO _ hq.2⟩
 ·rw [hold n hn] at hl ⊢
  exact h.wt n hl e he
end Sv
theorem Fs {x : Int} {v : Nat} (h0 : x ≠ 0) (h1 : -(v : Int) ≤ x) (h2 : x ≤ v) (hv : v ≤ 262143) : 1 ≤ tv x ∧ tv x ≤ v := by
 unfold tv
 split
 ·omega
 ·split <;> omega
namespace Sv
structure Nu (S S2 : Sv) : Prop where
 vars : S2.vars = S.vars
 Xa : S.list.length ≤ S2.list.length
 Rn : S2.list.length ≤ S.list.length + 1
 used : S2.used = S.used
 bump : S2.bump ≤ 1073741824
 Ky : S.many ≤ S2.many
 many1 : S2.many ≤ S.many + 1
 bU : S2.bU = S.bU
 core : S2.core = S.core
 cO : S2.T.levels.length ≤ S.T.levels.length
 bad : S2.bad = S.bad
theorem Dp {B : Sv} (h : B.Inv) {l : List Int} (hr : B.list.length < 2199023255552) (l0 : 0 < l.length) (l1 : l.length ≤ 1048576) (hl : ∀ x ∈ l, x ≠ 0 ∧ -(B.vars : Int) ≤ x ∧ x ≤ B.vars) (Cs : (l.map tv).Nodup)
  (hv : B.val l[0]! = 0) (oU : ∀ k, 1 ≤ k → k < l.length → ∃ e ∈ B.R, e.x = -l[k]!) (h1 : l.length = 1 → B.T.levels.length = 0) (h2 : 2 ≤ l.length → ∃ e ∈ B.R, e.x = -l[1]! ∧ e.l = B.T.levels.length) : (B.bW l).Inv := by
 have JD := hl _ (get_mem (l := l) (i := 0) l0)
 have ht := Fs JD.1 JD.2.1 JD.2.2 h.ok.vl
 unfold bW
 by_cases e1 : l.length = 1
 ·rw [if_pos e1]
  exact (h.put (r := 0) (pr h.ok ht.1 ht.2 hv) (by omega) (fun h => absurd rfl h) (fun _ => .inl (h1 e1))).1
 ·rw [if_neg e1]
  obtain ⟨k1, k2, k3⟩ := h.attach (l := l) ⟨by omega, l1, hl⟩ Cs true hr
  have hs := ed B l true
  have hb : (B.attach l true).T.i8 l[0]! = true := by
   rw [hs.1]
   exact pr h.ok ht.1 ht.2 hv
  have hRa : (B.attach l true).R = B.R := nv hs.1
  obtain ⟨y, ls, oR⟩ : ∃ y ls, l = y :: ls := by
   cases l with
   | nil => simp at l0
   | cons y ls => exact ⟨y, ls, rfl⟩
  have hy : l[0]! = y := by rw [oR]; rfl
  obtain ⟨p1, p2, p3⟩ := Ad k1 (r := (B.list.length : Int) + 1) hb (by rw [hs.2.2.1]; omega) (fun _ => ⟨B.list.length, rfl, ls, by rw [k2, hy]; exact oR, fun z hz => by
   obtain ⟨i, hi, hg⟩ := List.getElem_of_mem hz
   obtain ⟨e, he, hx⟩ := oU (i + 1) (by omega) (by rw [oR]; simp; omega)
   refine ⟨e, by rw [hRa]; exact he, ?_⟩
   rw [hx, oR, pK (by simp; omega)]
   simp [hg]⟩) (fun e => by omega)
  have hI : ((B.attach l true).put l[0]! ((B.list.length : Int) + 1)).Inv := by
   refine p1.whole ?_
   intro dN e he
   have fm : ((B.attach l true).put l[0]! ((B.list.length : Int) + 1)).rc B.list.length = ⟨l, true, B.used⟩ := k2
   rw [fm]
   rw [p3, hRa] at he
   have Um : e ∈ B.R := List.mem_of_mem_take he
   have Jx := o5 h.ok hv e Um
   refine ⟨fun hx => absurd hx Jx.2, fun hx => ?_⟩
   obtain ⟨e2, iW, iP, oS⟩ := h2 (by omega)
   have hee : e = e2 := mU h.ok Um iW (by
    have hx : e.x = -l[1]! := hx
    rw [hx, iP])
   refine ⟨⟨l[0]!, (B.attach l true).T.levels.length, (B.list.length : Int) + 1⟩, by rw [p2]; simp, rfl, ?_⟩
   show ((B.attach l true).T.levels.length : Int) ≤ e.l
   rw [hs.1, hee, oS]
   exact kf _
  exact hI.congr (hI.ok.Fz _) rfl rfl (fun _ => rfl) rfl
theorem Hc (B : Sv) (l : List Int) : Nu B (B.bW l).cX := by
 have hm : (B.bW l).cX.bump ≤ 1073741824 := Nat.min_le_right _ _
 by_cases e1 : l.length = 1
 ·have e : (B.bW l) = B.put l[0]! 0 := by unfold bW; rw [if_pos e1]
  rw [e] at hm ⊢
  exact ⟨rfl, ao _, by show B.list.length ≤ _; omega, rfl, hm, kf _, by show B.many ≤ _; omega, rfl, rfl, by show (B.put l[0]! 0).T.levels.length ≤ _; rw [dz]; exact ao _, rfl⟩
 ·have e : (B.bW l) = { ((B.attach l true).put l[0]! (B.list.length + 1)) with many := B.many + 1 } := by unfold bW; rw [if_neg e1]
  have hs := ed B l true
  rw [e] at hm ⊢
  exact ⟨rfl, by show B.list.length ≤ (B.attach l true).list.length; omega, by show (B.attach l true).list.length ≤ _; omega, rfl, hm, by show B.many ≤ B.many + 1; omega, kf _, rfl, rfl, by show ((B.attach l true).put l[0]! _).T.levels.length ≤ _; rw [dz, hs.1]; exact ao _, rfl⟩
theorem vW {S : Sv} (h : S.Inv) {n : Nat} (hc : S.Sz n) (hn : (S.rc n).lits ≠ []) (hr : S.list.length < 2199023255552) (hd : 0 < S.T.levels.length) :
  ∃ S2 l cO, S.Lrd l cO ∧ S.conflict n = some (S2, true) ∧ S2.Inv ∧ Nu S S2 ∧ ∃ S1 : Sv, S1.li = S.li ∧ S2 = ((S1.back cO.toNat).bW l).cX := by
 obtain ⟨S1, l, cO, h1, h2, h3⟩ := yt h.ok h.wN h.dec hc hd hn
 obtain ⟨Jr, eT, eV, eL, eU, f0, f1, f2, f3, f4⟩ := mL h.ok h1
 have Qq : S1.Inv := h.congr Jr eT (congrArg (fun x => x.2.2.2.2.2.2.1) h2) (fun j => (xX h2 j).1) (congrArg (fun x => x.2.2.1) h2)
 have hR1 : S1.R = S.R := nv eT
 have bM := h3.lt
 have oD : cO.toNat < S1.T.levels.length := by rw [eT]; omega
 obtain ⟨b1, b2, b3, b4, BB, b5, b6, b7⟩ := uX Qq.ok oD
 have aii : ((cO.toNat : Nat) : Int) = cO := by omega
 have hbv := (Qq.ok.back cO.toNat).2.1
 have hIB := Qq.back cO.toNat
 have xm : ∀ e ∈ S.R, e.l ≤ cO → e ∈ (S1.back cO.toNat).R := fun e he hle => by
  rw [← hR1, b5] at he
  rcases aj.1 he with h8 | h8
  ·exact h8
  ·have := b6 e h8; omega
 have oU : ∀ e ∈ (S1.back cO.toNat).R, e ∈ S.R := fun e he => by rw [← hR1, b5]; exact aW _ he
 obtain ⟨et, het, Ee, P9⟩ := h3.top
 have hIL : ((S1.back cO.toNat).bW l).Inv := by
  refine Dp hIB (by rw [b1, eL]; exact hr) f0 f1 (by rw [hbv, eV]; exact f2) h3.nd ?_ (fun k k1 k2 => ?_) (fun k1 => by rw [b3, h3.one k1]; rfl) (fun k2 => ?_)
  ·rcases wH hIB.ok l[0]! with h5 | h5 | h5
   ·exact h5
   ·exfalso
    obtain ⟨e, he, hx⟩ := (mW hIB.ok l[0]!).1 (by omega)
    exact px h.ok (oU e he) het (by rw [hx, Ee])
   ·exfalso
    obtain ⟨e, he, hx⟩ := (val_neg hIB.ok).1 (by omega : (S1.back cO.toNat).val l[0]! < 0)
    have sL : e.x = et.x := by rw [hx, Ee]; omega
    have := mU h.ok (oU e he) het (by rw [sL])
    have := b7 e he
    subst_vars
    omega
  ·obtain ⟨e, he, hx, _, hle⟩ := h3.tail k k1 k2
   exact ⟨e, xm e he hle, hx⟩
  ·obtain ⟨e, he, hx, hle⟩ := h3.two k2
   exact ⟨e, xm e he (by omega), hx, by rw [b3]; omega⟩
 refine ⟨((S1.back cO.toNat).bW l).cX, l, cO, h3, ?_, hIL.congr hIL.ok.cX rfl rfl (fun _ => rfl) rfl, ?_, S1, h2, rfl⟩
 ·unfold conflict
  rw [if_neg (by omega), h1]
 ·have Lz := Hc (S1.back cO.toNat) l
  have IA := jo S1 cO.toNat
  have j3 : S1.many = S.many := congrArg (fun x => x.2.2.2.2.2.2.2.2.2.1) h2
  have oE : S1.bU = S.bU := congrArg (fun x => x.2.2.2.2.2.2.2.2.2.2.1) h2
  have iX : S1.core = S.core := congrArg (fun x => x.2.2.2.2.2.1) h2
  have aez : S1.bad = S.bad := congrArg (fun x => x.2.2.2.2.2.2.2.2.2.2.2.1) h2
  have RL := Lz.Xa
  have jZ := Lz.Rn
  have vp := Lz.Ky
  have lX := Lz.many1
  have PU := Lz.cO
  rw [b1, eL] at RL jZ
  rw [IA.2.2.1, j3] at vp lX
  have XX := IA.2.2.2.2.2.1
  rw [eT] at XX
  exact ⟨Lz.vars.trans (hbv.trans eV), RL, jZ, Lz.used.trans (IA.2.1.trans eU), Lz.bump, vp, lX, Lz.bU.trans (IA.2.2.2.1.trans oE), Lz.core.trans (IA.1.trans iX), aE PU XX, Lz.bad.trans (IA.2.2.2.2.1.trans aez)⟩
theorem Om {S : Sv} {m : Nat} (ok : S.Ok m) {x : Int} (h : S.val x = 0) : S.val (-x) = 0 := by
 rcases wH ok (-x) with h1 | h1 | h1
 ·exact h1
 ·exfalso
  obtain ⟨e, he, hx⟩ := (mW ok (-x)).1 (by omega)
  exact (o5 ok h e he).2 hx
 ·exfalso
  obtain ⟨e, he, hx⟩ := (val_neg ok).1 (by omega : S.val (-x) < 0)
  exact (o5 ok h e he).1 (by omega)
theorem wR {S0 : Sv} {m : Nat} (ok : S0.Ok m) : ∀ (f : Nat) (S : Sv), S.T = S0.T → (cW f S).2 ≠ 0 → S0.val (cW f S).2 = 0
 | 0, S, hT, h => absurd rfl h
 | f + 1, S, hT, h => by
  rw [cW] at h ⊢
  split at h
  ·exact absurd rfl h
  ·rename_i hi
   rw [if_neg hi]
   simp only at h ⊢
   split at h
   ·rename_i hv
    rw [if_pos hv]
    exact wR ok f _ hT h
   ·rename_i hv
    rw [if_neg hv]
    have h0 : S0.val (S.H.it 0) = 0 := by
     have : ({ S with H := S.H.kw } : Sv).val (S.H.it 0) = S0.val (S.H.it 0) := by unfold val; rw [show ({ S with H := S.H.kw } : Sv).T = S0.T from hT]
     rw [← this]
     exact Classical.byContradiction fun e => hv e
    simp only
    split
    ·exact h0
    ·exact Om ok h0
theorem Inv.deep {S : Sv} (h : S.Inv) (hf : S.head = S.T.lits.length) : S.deep.Inv := by
 have hR := MZ h.ok
 refine ⟨h.ok.deep, h.jE, fun A e B h1 h2 => h.wN A e B (hR ▸ h1) h2, fun A e B h1 h2 => h.dec A e B (hR ▸ h1) h2, fun e he => ?_, ⟨h.wi.nd, h.wi.wd, h.wi.wc⟩, h.wt⟩
 exfalso
 rw [hR] at he
 have he : e ∈ S.R.drop S.head := he
 rw [hf, ← iD, List.drop_length] at he
 cases he
theorem Inv.choice {S : Sv} (h : S.Inv) (hf : S.head = S.T.lits.length) {x : Int} (h0 : x ≠ 0) (h1 : -(S.vars : Int) ≤ x) (h2 : x ≤ S.vars) (hv : S.val x = 0) : (S.deep.put x 0).Inv ∧ (S.deep.put x 0).R = S.R ++ [⟨x, (S.T.levels.length + 1 : Nat), 0⟩] := by
 have ht := Fs h0 h1 h2 h.ok.vl
 have hb : S.deep.T.i8 x = true := pr (S := S.deep) h.ok.deep ht.1 ht.2 hv
 have hR := MZ h.ok
 obtain ⟨k1, k2⟩ := (h.deep hf).put (r := 0) hb ⟨kf _, by omega⟩ (fun h => absurd rfl h) (fun _ => .inr fun e he => by
  rw [hR] at he
  have := (kN h.ok he).2.2.2
  rw [eK]
  omega)
 rw [eK, hR] at k2
 exact ⟨k1, k2⟩
theorem choose_spec {S : Sv} (h : S.Inv) (hf : S.head = S.T.lits.length) : S.choose.1.Inv ∧ (S.choose.2 = 0 → S.choose.1.T.lits.length = S.T.lits.length + 1) := by
 obtain ⟨p1, p2, p3, p4, p5, p6, p7⟩ := h.ok.pick
 have hw : S.pick.1.watch = S.watch := by
  have : ∀ (f : Nat) (S : Sv), (cW f S).1.watch = S.watch := by
   intro f
   induction f with
   | zero => intro S; rfl
   | succ f ih =>
    intro S
    rw [cW]
    split
    ·rfl
    ·simp only
     split
     ·exact ih _
     ·rfl
  exact this _ S
 have hI : S.pick.1.Inv := h.congr p1 p2 p5 (fun n => by rw [FG p4]) hw
 unfold choose
 by_cases h0 : S.pick.2 = 0
 ·rw [if_pos h0]
  exact ⟨hI.congr hI.ok.keep rfl rfl (fun _ => rfl) rfl, fun h => by cases h⟩
 ·rw [if_neg h0]
  have hv := wR h.ok _ S rfl h0
  obtain ⟨k1, k2⟩ := hI.choice (by rw [p2, p5]; exact hf) h0 (by rw [p3]; exact p6) (by rw [p3]; exact p7) (by unfold val; rw [p2]; exact hv)
  refine ⟨k1, fun _ => ?_⟩
  rw [← iD, k2, ai, iD, p2]
  rfl
theorem pP {us : List Int} : ∀ (f : Nat) (S : Sv), S.Inv → S.head = S.T.lits.length → (∀ x ∈ us, x ≠ 0 ∧ -(S.vars : Int) ≤ x ∧ x ≤ S.vars) → (bQ us f S).1.Inv ∧ ((bQ us f S).2 = 0 → (bQ us f S).1.T.lits.length = S.T.lits.length + 1)
 | 0, S, h, hf, hu => choose_spec h hf
 | f + 1, S, h, hf, hu => by
  rw [bQ]
  split
  ·rename_i hd
   have ha := hu _ (get_mem (l := us) hd)
   simp only
   split
   ·exact ⟨h.congr (h.ok.mY _) rfl rfl (fun _ => rfl) rfl, fun h => by cases h⟩
   ·split
    ·rename_i h1 h2
     obtain ⟨k1, k2⟩ := h.choice hf ha.1 ha.2.1 ha.2.2 h2
     refine ⟨k1, fun _ => ?_⟩
     rw [← iD, k2, ai, iD]
     rfl
    ·have := pP f S.deep (h.deep hf) hf hu
     exact this
  ·exact choose_spec h hf
theorem BF {S : Sv} {us : List Int} (h : S.Inv) (hf : S.head = S.T.lits.length) (hu : ∀ x ∈ us, x ≠ 0 ∧ -(S.vars : Int) ≤ x ∧ x ≤ S.vars) : (S.aS us).1.Inv ∧ ((S.aS us).2 = 0 → (S.aS us).1.T.lits.length = S.T.lits.length + 1) := pP _ S h hf hu
end Sv
theorem G6 (w : World) (a : Int) : Calls Tryz.prog 196 #[.int .i64 a] w fun e w' => e = .returned (.bool false) ∧ w = w' := by
 have h : (a != a) = false := by simp
 go_enter Tryz.func196, Tryz.ntmps196
 go_wp2_with fail
 go_ret
 exact ⟨by simp, rfl⟩
def ib (a b : Int) : Int := if a < b then -1 else if b < a then 1 else 0
theorem vX (w : World) (a b : Int) : Calls Tryz.prog 177 #[.int .i64 a, .int .i64 b] w fun e w' => e = .returned (.int .i64 (ib a b)) ∧ w = w' := by
 have KN := aa (fun x => G6 w x)
 have hK : Hid (∀ s, ib a b = s → Ending.returned (.int .i64 s) = .returned (.int .i64 (ib a b))) := fun s h => by rw [h]
 go_enter Tryz.func177, Tryz.ntmps177
 go_wp2_with fail
 refine (KN.out _).mono ?_
 rintro e w1 ⟨rfl, rfl⟩
 go_wp2_with fail
 refine (KN.out _).mono ?_
 rintro e w1 ⟨rfl, rfl⟩
 by_cases h1 : a < b
 ·have d1 : decide (a < b) = true := decide_eq_true h1
  have HV : Hid (ib a b = -1) := (by rw [ib, if_pos h1] : ib a b = -1)
  go_wp2_with fail
  go_ret
  exact ⟨hK.out _ HV.out, rfl⟩
 ·have d1 : decide (a < b) = false := decide_eq_false h1
  by_cases h2 : b < a
  ·have d2 : decide (b < a) = true := decide_eq_true h2
   have HV : Hid (ib a b = 1) := (by rw [ib, if_neg h1, if_pos h2] : ib a b = 1)
   go_wp2_with fail
   go_ret
   exact ⟨hK.out _ HV.out, rfl⟩
  ·have d2 : decide (b < a) = false := decide_eq_false h2
   have HV : Hid (ib a b = 0) := (by rw [ib, if_neg h1, if_neg h2] : ib a b = 0)
   go_wp2_with fail
   go_ret
   exact ⟨hK.out _ HV.out, rfl⟩
def fN (a : Int) : Int := if a < wrap64 (-a) then wrap64 (-a) else a
theorem ET (w : World) (a : Int) : Calls Tryz.prog 55 #[.int .i64 a] w fun e w' => e = .returned (.int .i64 (fN a)) ∧ w = w' := by
 go_enter Tryz.func55, Tryz.ntmps55
 go_wp2_with fail
 all_goals (go_ret; first | exact ⟨by rw [fN, if_pos (by assumption)]; rfl, rfl⟩ | exact ⟨by rw [fN, if_neg (by omega)]; rfl, rfl⟩)
def Jq (a b : Int) : Int := if a = 0 then b else a
set_option maxHeartbeats 1000000 in
theorem Kl (w : World) (g : Nat) (a b : Int) (h0 : w.cell? ⟨g, 0, none⟩ = some (.int .i64 a)) (h1 : w.cell? ⟨g, 1, none⟩ = some (.int .i64 b)) :
  Calls Tryz.prog 176 #[.slice (some ⟨g, 0, none⟩) 2 2] w fun e w' => e = .returned (.int .i64 (Jq a b)) ∧ w = w' := by
 have hK : Hid (∀ s, Jq a b = s → Ending.returned (.int .i64 s) = .returned (.int .i64 (Jq a b))) := fun s h => by rw [h]
 have H0 := aa h0
 have H1 := aa h1
 clear h0 h1
 go_enter Tryz.func176, Tryz.ntmps176
 go_wp2_with fail
 go_loopg [8] 2 (fun gk i wr => wr = w ∧ ((gk = 2 ∧ i = .int .i64 0) ∨ (gk = 1 ∧ i = .int .i64 1 ∧ a = 0) ∨ (gk = 0 ∧ i = .int .i64 2 ∧ a = 0 ∧ b = 0)))
 case atStart => exact ⟨rfl, .inl ⟨rfl, rfl⟩⟩
 case round =>
  obtain ⟨rfl, hc⟩ := hrel
  rcases hc with ⟨rfl, rfl⟩ | ⟨rfl, rfl, rfl⟩ | ⟨rfl, rfl, rfl, rfl⟩
  ·have h0 := H0.out
   by_cases ha : a = 0
   ·have hb : (a != 0) = false := by simp [ha]
    go_wp2_with fail
    go_roundg 1
    case measure => decide
    case rel => exact ⟨rfl, .inr (.inl ⟨rfl, rfl, ha⟩)⟩
   ·have hb : (a != 0) = true := by simp [ha]
    have HV : Hid (Jq a b = a) := (by rw [Jq, if_neg ha] : Jq a b = a)
    go_wp2_with fail
    go_ret
    exact ⟨hK.out _ HV.out, rfl⟩
  ·have h1 := H1.out
   by_cases ha : b = 0
   ·have hb : (b != 0) = false := by simp [ha]
    go_wp2_with fail
    go_roundg 0
    case measure => decide
    case rel => exact ⟨rfl, .inr (.inr ⟨by first | rfl | trivial, by first | rfl | trivial, by first | rfl | trivial, ha⟩)⟩
   ·have hb : (b != 0) = true := by simp [ha]
    have HV : Hid (Jq 0 b = b) := (by rw [Jq, if_pos rfl] : Jq 0 b = b)
    go_wp2_with fail
    go_ret
    exact ⟨hK.out _ HV.out, rfl⟩
  ·go_wp2_with fail
   go_ret
   exact ⟨rfl, rfl⟩
def qw (a b : Int) : Int := Jq (ib (fN a) (fN b)) (ib a b)
set_option maxHeartbeats 1000000 in
theorem Ah (w : World) (a b : Int) : Calls Tryz.prog 157 #[.int .i64 a, .int .i64 b] w fun e w' => e = .returned (.int .i64 (qw a b)) ∧ w' = w.alloc (.cells #[.int .i64 (ib (fN a) (fN b)), .int .i64 (ib a b)] 3) := by
 have KA := aa (fun x => ET w x)
 have KC := aa (fun x y => vX w x y)
 have hn := At.new w 3 #[.int .i64 (ib (fN a) (fN b)), .int .i64 (ib a b)]
 have KO := aa (Kl (w.alloc (.cells #[.int .i64 (ib (fN a) (fN b)), .int .i64 (ib a b)] 3)) w.heap.size (ib (fN a) (fN b)) (ib a b) (by rw [hn.cell]; rfl) (by rw [hn.cell]; rfl))
 have hK : Hid (Ending.returned (.int .i64 (Jq (ib (fN a) (fN b)) (ib a b))) = .returned (.int .i64 (qw a b))) := rfl
 clear hn
 go_enter Tryz.func157, Tryz.ntmps157
 go_wp2_with fail
 refine (KA.out _).mono ?_
 rintro e w1 ⟨rfl, rfl⟩
 go_wp2_with fail
 refine (KA.out _).mono ?_
 rintro e w1 ⟨rfl, rfl⟩
 go_wp2_with fail
 refine (KC.out _ _).mono ?_
 rintro e w1 ⟨rfl, rfl⟩
 go_wp2_with fail
 refine (KC.out _ _).mono ?_
 rintro e w1 ⟨rfl, rfl⟩
 go_wp2_with fail
 refine KO.out.mono ?_
 rintro e w1 ⟨rfl, rfl⟩
 go_wp2_with fail
 go_ret
 exact ⟨hK.out, rfl⟩
end Go.Proofs.YtpjbaobgnhjgoaaGreat
