/- Parts of a proof. -/
import Derived.Test.YtpjbaobgnhjgoaaGreatGAB
set_option linter.unusedVariables false
set_option linter.unusedSimpArgs false
namespace Go.Proofs.YtpjbaobgnhjgoaaGreat
open Go.RowKit
theorem FA (l : List Int) (i j : Nat) (x : Int) : (l.set i x)[j]! = if i = j ∧ i < l.length then x else l[j]! := by
 simp only [ae, List.getElem?_set]
 by_cases h : i = j
 ·subst h
  by_cases hl : i < l.length
  ·simp [hl]
  ·simp [hl]
 ·simp [h]
theorem dY {l : List Int} {i : Nat} (x : Int) (h : i < l.length) : (l.set i x)[i]! = x := by rw [FA]; simp [h]
theorem fh {l : List Int} {i j : Nat} (x : Int) (h : i ≠ j) : (l.set i x)[j]! = l[j]! := by rw [FA]; simp [h]
structure PC (V : Hp) : Prop where
 m9 : V.EW
 pos : ∀ j : Nat, j < V.items.length → V.at_[(V.items[j]!).toNat]! = j
 inv : ∀ x : Nat, x < V.at_.length → 0 ≤ V.at_[x]! → (V.at_[x]!).toNat < V.items.length ∧ V.items[(V.at_[x]!).toNat]! = x
theorem PC.inj {V : Hp} (h : PC V) {i j : Nat} (hi : i < V.items.length) (hj : j < V.items.length) (e : V.items[i]! = V.items[j]!) : i = j := by
 have h1 := h.pos i hi
 have h2 := h.pos j hj
 rw [e] at h1
 omega
def Hp.swp (V : Hp) (i p : Nat) : Hp := (V.put (i : Int) V.items[p]!).put (p : Int) V.items[i]!
theorem mX (V : Hp) (i p : Nat) : (V.swp i p).items.length = V.items.length ∧ (V.swp i p).at_.length = V.at_.length ∧ (V.swp i p).score = V.score := by simp [Hp.swp, Hp.put]
theorem ct (V : Hp) {i p : Nat} (hi : i < V.items.length) (hp : p < V.items.length) (j : Nat) :
  (V.swp i p).items[j]! = if j = p then V.items[i]! else if j = i then V.items[p]! else V.items[j]! := by
 simp only [Hp.swp, Hp.put, Int.toNat_natCast]
 by_cases h1 : j = p
 ·subst h1
  rw [if_pos rfl, dY _ (by simpa using hp)]
 ·rw [if_neg h1, fh _ (fun e => h1 e.symm)]
  by_cases h2 : j = i
  ·subst h2; rw [if_pos rfl, dY _ hi]
  ·rw [if_neg h2, fh _ (fun e => h2 e.symm)]
theorem PC.swp {V : Hp} (h : PC V) {i p : Nat} (hi : i < V.items.length) (hp : p < V.items.length) (dN : i ≠ p) : PC (V.swp i p) := by
 obtain ⟨l1, l2, _⟩ := mX V i p
 have ri := h.m9 i hi
 have rp := h.m9 p hp
 have hab : V.items[i]! ≠ V.items[p]! := fun e => dN (h.inj hi hp e)
 have kk : ∀ x : Nat, (V.swp i p).at_[x]! = if x = (V.items[i]!).toNat then (p : Int) else if x = (V.items[p]!).toNat then (i : Int) else V.at_[x]! := by
  intro x
  simp only [Hp.swp, Hp.put]
  by_cases h1 : x = (V.items[i]!).toNat
  ·subst h1; rw [if_pos rfl, dY _ (by simp only [ak]; omega)]
  ·rw [if_neg h1, fh _ (fun e => h1 e.symm)]
   by_cases h2 : x = (V.items[p]!).toNat
   ·subst h2; rw [if_pos rfl, dY _ (by omega)]
   ·rw [if_neg h2, fh _ (fun e => h2 e.symm)]
 refine ⟨fun j hj => ?_, fun j hj => ?_, fun x hx h0 => ?_⟩
 ·rw [l1] at hj
  rw [ct V hi hp, l2]
  split
  ·exact ri
  ·split
   ·exact rp
   ·exact h.m9 j hj
 ·rw [l1] at hj
  rw [ct V hi hp, kk]
  by_cases h1 : j = p
  ·subst h1; simp
  ·by_cases h2 : j = i
   ·subst h2
    rw [if_neg h1, if_pos rfl, if_neg (by omega), if_pos rfl]
   ·have rj := h.m9 j hj
    have e1 : V.items[j]! ≠ V.items[i]! := fun e => h2 (h.inj hj hi e)
    have e2 : V.items[j]! ≠ V.items[p]! := fun e => h1 (h.inj hj hp e)
    rw [if_neg h1, if_neg h2, if_neg (by omega), if_neg (by omega)]
    exact h.pos j hj
 ·rw [l2] at hx
  rw [kk] at h0 ⊢
  by_cases h1 : x = (V.items[i]!).toNat
  ·rw [if_pos h1, ct V hi hp, l1]
   simp only [Int.toNat_natCast, if_true]
   exact ⟨hp, by omega⟩
  ·by_cases h2 : x = (V.items[p]!).toNat
   ·rw [if_neg h1, if_pos h2, ct V hi hp, l1]
    simp only [Int.toNat_natCast, if_true]
    rw [if_neg dN]
    exact ⟨hi, by omega⟩
   ·rw [if_neg h1, if_neg h2] at h0 ⊢
    obtain ⟨k1, k2⟩ := h.inv x hx h0
    rw [ct V hi hp, l1]
    refine ⟨k1, ?_⟩
    rw [if_neg, if_neg, k2]
    ·intro e; rw [e] at k2; omega
    ·intro e; rw [e] at k2; omega
theorem tJ {V : Hp} (h : PC V) {i : Nat} (hi : i < V.items.length) : V.put (i : Int) V.items[i]! = V := by
 have e1 : V.items.set i V.items[i]! = V.items := by
  apply List.ext_getElem?
  intro j
  rw [List.getElem?_set]
  by_cases hj : i = j
  ·subst hj; simp [hi]
  ·simp [hj]
 have e2 : V.at_.set (V.items[i]!).toNat (i : Int) = V.at_ := by
  have hp := h.pos i hi
  have r := h.m9 i hi
  apply List.ext_getElem?
  intro j
  rw [List.getElem?_set]
  by_cases hj : (V.items[i]!).toNat = j
  ·rw [if_pos hj, if_pos (by omega), ← hj, ← hp]
   rw [ae, af (by omega : (V.items[i]!).toNat < V.at_.length)]
   rfl
  ·rw [if_neg hj]
 show Hp.mk (V.items.set (i : Int).toNat V.items[i]!) (V.at_.set (V.items[i]!).toNat (i : Int)) V.score = V
 rw [Int.toNat_natCast, e1, e2]
theorem FI {K : Hp} {i p : Nat} {x y : Int} (Ju : x.toNat ≠ y.toNat) : ((K.put (i : Int) x).put (i : Int) y).put (p : Int) x = (K.put (i : Int) y).put (p : Int) x := by
 simp only [Hp.put, Int.toNat_natCast, List.set_set, Hp.mk.injEq, and_true, true_and]
 rw [List.set_comm _ _ Ju, List.set_set]
theorem dS {V : Hp} {x y : Int} : V.bi x y = true ↔ (V.sc y < V.sc x ∨ (V.sc x = V.sc y ∧ x < y)) := by simp [Hp.bi]
theorem qM {V : Hp} {x y : Int} (h : V.bi x y = true) : V.bi y x = false := by
 cases hh : V.bi y x with
 | false => rfl
 | true => rw [dS] at h hh; omega
theorem B3 {V : Hp} {x y z : Int} (h : V.bi x y = true) (k : V.bi y z = true) : V.bi x z = true := by rw [dS] at *; omega
theorem iN {V : Hp} {x y z : Int} (h : V.bi x y = false) (k : V.bi y z = false) : V.bi x z = false := by
 cases hh : V.bi x z with
 | false => rfl
 | true =>
  rw [dS] at hh
  have h1 : ¬ (V.sc y < V.sc x ∨ (V.sc x = V.sc y ∧ x < y)) := fun e => by rw [← dS, h] at e; cases e
  have h2 : ¬ (V.sc z < V.sc y ∨ (V.sc y = V.sc z ∧ y < z)) := fun e => by rw [← dS, k] at e; cases e
  omega
theorem u3 {V : Hp} {x : Int} : V.bi x x = false := by
 cases hh : V.bi x x with
 | false => rfl
 | true => rw [dS] at hh; omega
theorem eM {V W : Hp} (h : V.score = W.score) (x y : Int) : V.bi x y = W.bi x y := by simp [Hp.bi, Hp.sc, h]
structure I8 (V : Hp) (i : Nat) : Prop where
 all : ∀ j : Nat, 0 < j → j < V.items.length → j ≠ i → V.bi V.items[j]! V.items[(j - 1) / 2]! = false
 over : ∀ j : Nat, 0 < j → j < V.items.length → (j - 1) / 2 = i → 0 < i → V.bi V.items[j]! V.items[(i - 1) / 2]! = false
def Ord (V : Hp) : Prop := ∀ j : Nat, 0 < j → j < V.items.length → V.bi V.items[j]! V.items[(j - 1) / 2]! = false
theorem I8.step {V : Hp} {i : Nat} (h : I8 V i) (P2 : 0 < i) (hi : i < V.items.length) (ha : V.bi V.items[i]! V.items[(i - 1) / 2]! = true) : I8 (V.swp i ((i - 1) / 2)) ((i - 1) / 2) := by
 have hp : (i - 1) / 2 < V.items.length := by omega
 have dN : i ≠ (i - 1) / 2 := by omega
 obtain ⟨l1, _, l3⟩ := mX V i ((i - 1) / 2)
 refine ⟨fun j h0 hj T8 => ?_, fun j h0 hj T8 Ln => ?_⟩
 ·rw [l1] at hj
  rw [eM l3, ct V hi hp, ct V hi hp, if_neg T8]
  by_cases e1 : j = i
  ·subst e1
   rw [if_pos rfl, if_pos rfl]
   exact qM ha
  ·rw [if_neg e1]
   by_cases e2 : (j - 1) / 2 = (i - 1) / 2
   ·rw [if_pos e2]
    have h1 := h.all j h0 hj e1
    rw [e2] at h1
    cases hh : V.bi V.items[j]! V.items[i]! with
    | false => rfl
    | true => rw [B3 hh ha] at h1; cases h1
   ·rw [if_neg e2]
    by_cases e3 : (j - 1) / 2 = i
    ·rw [if_pos e3]; exact h.over j h0 hj e3 P2
    ·rw [if_neg e3]; exact h.all j h0 hj e1
 ·rw [l1] at hj
  rw [eM l3, ct V hi hp, ct V hi hp]
  have hq := h.all ((i - 1) / 2) Ln hp (fun e => dN e.symm)
  rw [if_neg (by omega : ¬ j = (i - 1) / 2), if_neg (by omega : ¬ ((i - 1) / 2 - 1) / 2 = (i - 1) / 2), if_neg (by omega : ¬ ((i - 1) / 2 - 1) / 2 = i)]
  by_cases e1 : j = i
  ·rw [if_pos e1]; exact hq
  ·rw [if_neg e1]
   have h1 := h.all j h0 hj e1
   rw [T8] at h1
   exact iN h1 hq
def Hp.Jp : Nat → Hp → Nat → Hp
 | 0, V, _ => V
 | f + 1, V, i => if 0 < i ∧ V.bi V.items[i]! V.items[(i - 1) / 2]! = true then Hp.Jp f (V.swp i ((i - 1) / 2)) ((i - 1) / 2) else V
theorem iO (V : Hp) (j : Nat) : V.it (j : Int) = V.items[j]! := by simp [Hp.it]
theorem Fq (x : Int) : ∀ (f : Nat) (K : Hp) (i : Nat), i < K.items.length → i < f → PC (K.put (i : Int) x) → Hp.nO x f K i = Hp.Jp f (K.put (i : Int) x) i := by
 intro f
 induction f with
 | zero => intro K i _ h _; omega
 | succ f ih =>
  intro K i hi hf hP
  simp only [Hp.nO, Hp.Jp]
  have e0 : (K.put (i : Int) x).items[i]! = x := by simp only [Hp.put, Int.toNat_natCast]; exact dY x hi
  have es : ∀ a b, (K.put (i : Int) x).bi a b = K.bi a b := fun a b => eM rfl a b
  by_cases h0 : 0 < i
  ·have dN : i ≠ (i - 1) / 2 := by omega
   have e1 : (K.put (i : Int) x).items[(i - 1) / 2]! = K.items[(i - 1) / 2]! := by simp only [Hp.put, Int.toNat_natCast]; exact fh x dN
   rw [iO, e0, e1, es]
   by_cases ha : K.bi x K.items[(i - 1) / 2]! = true
   ·rw [if_pos ⟨h0, ha⟩, if_pos ⟨h0, ha⟩]
    have hl : (i - 1) / 2 < (K.put (i : Int) x).items.length := by rw [Hp.dx]; omega
    have LK : i < (K.put (i : Int) x).items.length := by rw [Hp.dx]; omega
    have rx := hP.m9 i LK
    have ry := hP.m9 ((i - 1) / 2) hl
    have Ju : (K.put (i : Int) x).items[i]! ≠ (K.put (i : Int) x).items[(i - 1) / 2]! := fun e => dN (hP.inj LK hl e)
    rw [e0] at rx Ju
    rw [e1] at ry Ju
    have e2 : (K.put (i : Int) x).swp i ((i - 1) / 2) = (K.put (i : Int) K.items[(i - 1) / 2]!).put (((i - 1) / 2 : Nat) : Int) x := by
     unfold Hp.swp
     rw [e0, e1]
     exact FI (by omega)
    rw [e2]
    refine ih _ _ (by rw [Hp.dx]; omega) (by omega) ?_
    rw [← e2]
    exact hP.swp LK hl dN
   ·rw [if_neg (fun h => ha h.2), if_neg (fun h => ha h.2)]
  ·rw [if_neg (fun h => h0 h.1), if_neg (fun h => h0 h.1)]
theorem iI : ∀ (f : Nat) (V : Hp) (i : Nat), i < V.items.length → i < f → PC V → I8 V i →
  PC (Hp.Jp f V i) ∧ Ord (Hp.Jp f V i) ∧ (Hp.Jp f V i).score = V.score ∧ (Hp.Jp f V i).items.length = V.items.length ∧ (Hp.Jp f V i).at_.length = V.at_.length ∧ (∀ y : Int, y ∈ (Hp.Jp f V i).items ↔ y ∈ V.items) := by
 intro f
 induction f with
 | zero => intro V i _ h; omega
 | succ f ih =>
  intro V i hi hf hP hO
  simp only [Hp.Jp]
  by_cases hc : 0 < i ∧ V.bi V.items[i]! V.items[(i - 1) / 2]! = true
  ·rw [if_pos hc]
   obtain ⟨l1, l2, l3⟩ := mX V i ((i - 1) / 2)
   have hl : (i - 1) / 2 < V.items.length := by omega
   have := ih (V.swp i ((i - 1) / 2)) ((i - 1) / 2) (by rw [l1]; omega) (by omega) (hP.swp hi hl (by omega)) (hO.step hc.1 hi hc.2)
   obtain ⟨r1, r2, r3, r4, r5, r6⟩ := this
   refine ⟨r1, r2, by rw [r3, l3], by rw [r4, l1], by rw [r5, l2], fun y => (r6 y).trans ?_⟩
   constructor
   ·intro hy
    obtain ⟨j, hj, rfl⟩ := List.mem_iff_getElem.1 hy
    rw [l1] at hj
    have e := ct V hi hl j
    rw [ae, af (by rw [l1]; exact hj)] at e
    simp only [aq] at e
    rw [e]
    split
    ·exact bw hi
    ·split
     ·exact bw hl
     ·exact bw hj
   ·intro hy
    obtain ⟨j, hj, rfl⟩ := List.mem_iff_getElem.1 hy
    have e0 : V.items[j] = V.items[j]! := by simp [hj]
    rw [e0]
    by_cases e1 : j = i
    ·subst e1
     have := ct V hi hl ((j - 1) / 2)
     rw [if_pos rfl] at this
     rw [← this]; exact bw (by rw [l1]; exact hl)
    ·by_cases e2 : j = (i - 1) / 2
     ·have := ct V hi hl i
      rw [if_neg (by omega), if_pos rfl] at this
      rw [e2, ← this]; exact bw (by rw [l1]; exact hi)
     ·have := ct V hi hl j
      rw [if_neg e2, if_neg e1] at this
      rw [← this]; exact bw (by rw [l1]; exact hj)
  ·rw [if_neg hc]
   refine ⟨hP, fun j h0 hj => ?_, rfl, rfl, rfl, fun _ => Iff.rfl⟩
   by_cases e : j = i
   ·subst e
    cases hh : V.bi V.items[j]! V.items[(j - 1) / 2]! with
    | false => rfl
    | true => exact absurd ⟨h0, hh⟩ hc
   ·exact hO.all j h0 hj e
where
 bw {l : List Int} {j : Nat} (h : j < l.length) : l[j]! ∈ l := by
  rw [ae, af h]; exact List.getElem_mem h
theorem Ou {V : Hp} {i p : Nat} (hi : i < V.items.length) (hp : p < V.items.length) (y : Int) : y ∈ (V.swp i p).items ↔ y ∈ V.items := by
 obtain ⟨l1, _, _⟩ := mX V i p
 constructor
 ·intro hy
  obtain ⟨j, hj, rfl⟩ := List.mem_iff_getElem.1 hy
  rw [l1] at hj
  have e := ct V hi hp j
  rw [ae, af (by rw [l1]; exact hj)] at e
  simp only [aq] at e
  rw [e]
  split
  ·exact iI.bw hi
  ·split
   ·exact iI.bw hp
   ·exact iI.bw hj
 ·intro hy
  obtain ⟨j, hj, rfl⟩ := List.mem_iff_getElem.1 hy
  have e0 : V.items[j] = V.items[j]! := by simp [hj]
  rw [e0]
  by_cases e1 : j = i
  ·subst e1
   have := ct V hi hp p
   rw [if_pos rfl] at this
   rw [← this]; exact iI.bw (by rw [l1]; exact hp)
  ·by_cases e2 : j = p
   ·subst e2
    have := ct V hi hp i
    rw [if_neg (fun e => e1 e.symm), if_pos rfl] at this
    rw [← this]; exact iI.bw (by rw [l1]; exact hi)
   ·have := ct V hi hp j
    rw [if_neg e2, if_neg e1] at this
    rw [← this]; exact iI.bw (by rw [l1]; exact hj)
structure M4 (V : Hp) (i : Nat) : Prop where
 all : ∀ j : Nat, 0 < j → j < V.items.length → (j - 1) / 2 ≠ i → V.bi V.items[j]! V.items[(j - 1) / 2]! = false
 over : ∀ j : Nat, 0 < j → j < V.items.length → (j - 1) / 2 = i → 0 < i → V.bi V.items[j]! V.items[(i - 1) / 2]! = false
theorem sW (V : Hp) {i : Nat} (hi : 2 * i + 1 < V.items.length) :
  V.bF i < V.items.length ∧ (V.bF i - 1) / 2 = i ∧ 0 < V.bF i ∧ ∀ j : Nat, 0 < j → j < V.items.length → (j - 1) / 2 = i → V.bi V.items[j]! V.items[V.bF i]! = false := by
 unfold Hp.bF
 rw [iO, iO]
 by_cases h : 2 * i + 2 < V.items.length ∧ V.bi V.items[2 * i + 2]! V.items[2 * i + 1]! = true
 ·rw [if_pos h]
  refine ⟨h.1, by omega, by omega, fun j h0 hj hp => ?_⟩
  rcases (by omega : j = 2 * i + 1 ∨ j = 2 * i + 2) with rfl | rfl
  ·exact qM h.2
  ·exact u3
 ·rw [if_neg h]
  refine ⟨hi, by omega, by omega, fun j h0 hj hp => ?_⟩
  rcases (by omega : j = 2 * i + 1 ∨ j = 2 * i + 2) with rfl | rfl
  ·exact u3
  ·cases hh : V.bi V.items[2 * i + 2]! V.items[2 * i + 1]! with
   | false => rfl
   | true => exact absurd ⟨hj, hh⟩ h
theorem M4.step {V : Hp} {i : Nat} (h : M4 V i) (hi : 2 * i + 1 < V.items.length) (ha : V.bi V.items[V.bF i]! V.items[i]! = true) : M4 (V.swp i (V.bF i)) (V.bF i) := by
 obtain ⟨hb, Md, Mg, F4⟩ := sW V hi
 generalize V.bF i = b at hb Md Mg F4 ha
 have hii : i < V.items.length := by omega
 obtain ⟨l1, _, l3⟩ := mX V i b
 refine ⟨fun j h0 hj T8 => ?_, fun j h0 hj T8 Ln => ?_⟩
 ·rw [l1] at hj
  rw [eM l3, ct V hii hb, ct V hii hb, if_neg T8]
  by_cases e1 : j = b
  ·subst e1
   rw [if_pos rfl, if_pos Md]
   exact qM ha
  ·rw [if_neg e1]
   by_cases e2 : (j - 1) / 2 = i
   ·rw [if_pos e2, if_neg (by omega)]
    exact F4 j h0 hj e2
   ·rw [if_neg e2]
    by_cases e3 : j = i
    ·subst e3
     rw [if_pos rfl]
     exact h.over b Mg hb Md h0
    ·rw [if_neg e3]; exact h.all j h0 hj e2
 ·rw [l1] at hj
  rw [eM l3, ct V hii hb, ct V hii hb, Md]
  rw [if_neg (by omega : ¬ j = b), if_neg (by omega : ¬ j = i), if_neg (by omega : ¬ i = b), if_pos rfl]
  have := h.all j h0 hj (by omega)
  rw [T8] at this
  exact this
def Hp.mS : Nat → Hp → Nat → Hp
 | 0, V, _ => V
 | f + 1, V, i => if 2 * i + 1 < V.items.length ∧ V.bi V.items[V.bF i]! V.items[i]! = true then Hp.mS f (V.swp i (V.bF i)) (V.bF i) else V
theorem MR (K : Hp) (i : Nat) (x : Int) : (K.put (i : Int) x).bF i = K.bF i := by
 unfold Hp.bF
 rw [iO, iO, iO, iO, Hp.dx]
 have e1 : (K.put (i : Int) x).items[2 * i + 2]! = K.items[2 * i + 2]! := by simp only [Hp.put, Int.toNat_natCast]; exact fh x (by omega)
 have e2 : (K.put (i : Int) x).items[2 * i + 1]! = K.items[2 * i + 1]! := by simp only [Hp.put, Int.toNat_natCast]; exact fh x (by omega)
 have es := eM (V := K.put (i : Int) x) (W := K) rfl K.items[2 * i + 2]! K.items[2 * i + 1]!
 rw [e1, e2, es]
theorem BE (x : Int) : ∀ (f : Nat) (K : Hp) (i : Nat), i < K.items.length → PC (K.put (i : Int) x) → Hp.fu x f K i = Hp.mS f (K.put (i : Int) x) i := by
 intro f
 induction f with
 | zero => intro K i _ _; rfl
 | succ f ih =>
  intro K i hi hP
  simp only [Hp.fu, Hp.mS]
  rw [MR, Hp.dx]
  have e0 : (K.put (i : Int) x).items[i]! = x := by simp only [Hp.put, Int.toNat_natCast]; exact dY x hi
  have es : ∀ a b, (K.put (i : Int) x).bi a b = K.bi a b := fun a b => eM rfl a b
  by_cases h0 : 2 * i + 1 < K.items.length
  ·obtain ⟨hb, Md, Mg, _⟩ := sW K h0
   generalize K.bF i = b at hb Md Mg
   have dN : i ≠ b := by omega
   have e1 : (K.put (i : Int) x).items[b]! = K.items[b]! := by simp only [Hp.put, Int.toNat_natCast]; exact fh x dN
   rw [iO, e0, e1, es]
   by_cases ha : K.bi K.items[b]! x = true
   ·rw [if_pos ⟨h0, ha⟩, if_pos ⟨h0, ha⟩]
    have hl : b < (K.put (i : Int) x).items.length := by rw [Hp.dx]; omega
    have LK : i < (K.put (i : Int) x).items.length := by rw [Hp.dx]; omega
    have rx := hP.m9 i LK
    have ry := hP.m9 b hl
    have Ju : (K.put (i : Int) x).items[i]! ≠ (K.put (i : Int) x).items[b]! := fun e => dN (hP.inj LK hl e)
    rw [e0] at rx Ju
    rw [e1] at ry Ju
    have e2 : (K.put (i : Int) x).swp i b = (K.put (i : Int) K.items[b]!).put (b : Int) x := by
     unfold Hp.swp
     rw [e0, e1]
     exact FI (by omega)
    rw [e2]
    refine ih _ _ (by rw [Hp.dx]; omega) ?_
    rw [← e2]
    exact hP.swp LK hl dN
   ·rw [if_neg (fun h => ha h.2), if_neg (fun h => ha h.2)]
  ·rw [if_neg (fun h => h0 h.1), if_neg (fun h => h0 h.1)]
theorem MH : ∀ (f : Nat) (V : Hp) (i : Nat), i < V.items.length → V.items.length ≤ i + f → PC V → M4 V i →
  PC (Hp.mS f V i) ∧ Ord (Hp.mS f V i) ∧ (Hp.mS f V i).score = V.score ∧ (Hp.mS f V i).items.length = V.items.length ∧ (Hp.mS f V i).at_.length = V.at_.length ∧ (∀ y : Int, y ∈ (Hp.mS f V i).items ↔ y ∈ V.items) := by
 intro f
 induction f with
 | zero => intro V i _ h; omega
 | succ f ih =>
  intro V i hi hf hP hO
  simp only [Hp.mS]
  by_cases hc : 2 * i + 1 < V.items.length ∧ V.bi V.items[V.bF i]! V.items[i]! = true
  ·rw [if_pos hc]
   obtain ⟨hb, Md, Mg, _⟩ := sW V hc.1
   obtain ⟨l1, l2, l3⟩ := mX V i (V.bF i)
   have := ih (V.swp i (V.bF i)) (V.bF i) (by rw [l1]; omega) (by rw [l1]; omega) (hP.swp hi hb (by omega)) (hO.step hc.1 hc.2)
   obtain ⟨r1, r2, r3, r4, r5, r6⟩ := this
   exact ⟨r1, r2, by rw [r3, l3], by rw [r4, l1], by rw [r5, l2], fun y => (r6 y).trans (Ou hi hb y)⟩
  ·rw [if_neg hc]
   refine ⟨hP, fun j h0 hj => ?_, rfl, rfl, rfl, fun _ => Iff.rfl⟩
   by_cases e : (j - 1) / 2 = i
   ·have qg : 2 * i + 1 < V.items.length := by omega
    obtain ⟨_, _, _, F4⟩ := sW V qg
    have h2 : V.bi V.items[V.bF i]! V.items[i]! = false := by
     cases hh : V.bi V.items[V.bF i]! V.items[i]! with
     | false => rfl
     | true => exact absurd ⟨qg, hh⟩ hc
    rw [e]
    exact iN (F4 j h0 hj e) h2
   ·exact hO.all j h0 hj e
structure HI (H : Hp) : Prop where
 pc : PC H
 ord : Ord H
 same : H.at_.length = H.score.length
 SJ : ∀ x : Nat, x < H.score.length → 0 ≤ H.score[x]!
theorem HI.push {H : Hp} (h : HI H) {x : Int} (hb : H.gX x = true) (hp : H.pl x < 0) :
  HI (H.pt x) ∧ (H.pt x).score = H.score ∧ (H.pt x).items.length = H.items.length + 1 ∧ (H.pt x).at_.length = H.at_.length ∧ ∀ y : Int, y ∈ (H.pt x).items ↔ y ∈ H.items ∨ y = x := by
 obtain ⟨h0, h1⟩ := Hp.cQ hb
 have hx : x.toNat < H.at_.length := by omega
 have hni : ∀ j : Nat, j < H.items.length → H.items[j]! ≠ x := by
  intro j hj e
  have := h.pc.pos j hj
  rw [e] at this
  unfold Hp.pl at hp
  omega
 have gl : ∀ j : Nat, j < H.items.length → (H.items ++ [x])[j]! = H.items[j]! := fun j hj => by simp [ae, eS hj]
 have gn : (H.items ++ [x])[H.items.length]! = x := by simp
 have hK : PC { H with items := H.items ++ [x], at_ := H.at_.set x.toNat H.items.length } := by
  refine ⟨fun j hj => ?_, fun j hj => ?_, fun y hy jJ => ?_⟩
  ·simp only [ai, kV, List.length_nil] at hj
   simp only [ak]
   by_cases e : j < H.items.length
   ·rw [gl j e]; exact h.pc.m9 j e
   ·obtain rfl : j = H.items.length := by omega
    rw [gn]; exact ⟨h0, h1⟩
  ·simp only [ai, kV, List.length_nil] at hj
   by_cases e : j < H.items.length
   ·show (H.at_.set x.toNat (H.items.length : Int))[((H.items ++ [x])[j]!).toNat]! = j
    rw [gl j e]
    have r := h.pc.m9 j e
    have := hni j e
    rw [fh _ (by omega)]
    exact h.pc.pos j e
   ·obtain rfl : j = H.items.length := by omega
    show (H.at_.set x.toNat (H.items.length : Int))[((H.items ++ [x])[H.items.length]!).toNat]! = _
    rw [gn, dY _ hx]
  ·simp only [ak] at hy
   show ((H.at_.set x.toNat (H.items.length : Int))[y]!).toNat < (H.items ++ [x]).length ∧ (H.items ++ [x])[((H.at_.set x.toNat (H.items.length : Int))[y]!).toNat]! = y
   by_cases e : x.toNat = y
   ·subst e
    rw [dY _ hx, Int.toNat_natCast, gn]
    exact ⟨by simp, by omega⟩
   ·have adp : 0 ≤ H.at_[y]! := by
     have : 0 ≤ (H.at_.set x.toNat (H.items.length : Int))[y]! := jJ
     rwa [fh _ e] at this
    rw [fh _ e]
    obtain ⟨k1, k2⟩ := h.pc.inv y hy adp
    rw [gl _ k1]
    exact ⟨by rw [ai]; exact aQ k1 (Nat.le_add_right _ _), k2⟩
 have XM : Hp.put { H with items := H.items ++ [x], at_ := H.at_.set x.toNat H.items.length } (H.items.length : Int) x = { H with items := H.items ++ [x], at_ := H.at_.set x.toNat H.items.length } := by
  have := tJ hK (i := H.items.length) (by simp)
  rwa [show ({ H with items := H.items ++ [x], at_ := H.at_.set x.toNat H.items.length } : Hp).items[H.items.length]! = x from gn] at this
 have hO : I8 { H with items := H.items ++ [x], at_ := H.at_.set x.toNat H.items.length } H.items.length := by
  refine ⟨fun j zt hj dN => ?_, fun j zt hj hpj P2 => ?_⟩
  ·simp only [ai, kV, List.length_nil] at hj
   show H.bi (H.items ++ [x])[j]! (H.items ++ [x])[(j - 1) / 2]! = false
   rw [gl j (by omega), gl _ (by omega)]
   exact h.ord j zt (by omega)
  ·simp only [ai, kV, List.length_nil] at hj
   omega
 have e : H.pt x = Hp.Jp (H.items.length + 1) { H with items := H.items ++ [x], at_ := H.at_.set x.toNat H.items.length } H.items.length := by
  unfold Hp.pt
  rw [Fq x _ _ _ (by simp) (by omega) (by rw [XM]; exact hK), XM]
 obtain ⟨r1, r2, r3, r4, r5, r6⟩ := iI (H.items.length + 1) _ H.items.length (by simp) (by omega) hK hO
 rw [← e] at r1 r2 r3 r4 r5 r6
 refine ⟨⟨r1, r2, ?_, ?_⟩, r3, by rw [r4]; simp, by rw [r5]; simp, fun y => (r6 y).trans (by simp)⟩
 ·rw [r5, r3]; simp [h.same]
 ·rw [r3]; exact h.SJ
theorem J0 (l : List Int) {n j : Nat} (h : j < n) : (l.take n)[j]! = l[j]! := by
 simp only [ae, List.getElem?_take]
 rw [if_pos h]
theorem HI.pop {H : Hp} (h : HI H) (h0 : 0 < H.items.length) :
  HI H.kw ∧ H.kw.score = H.score ∧ H.kw.items.length = H.items.length - 1 ∧ H.kw.at_.length = H.at_.length ∧ ∀ y : Int, y ∈ H.kw.items ↔ y ∈ H.items ∧ y ≠ H.it 0 := by
 obtain ⟨n, hn⟩ : ∃ n, H.items.length = n + 1 := ⟨H.items.length - 1, by omega⟩
 have er : H.it 0 = H.items[0]! := iO H 0
 have el : H.it (n : Int) = H.items[n]! := iO H n
 have r0 := h.pc.m9 0 h0
 have rn := h.pc.m9 n (by omega)
 have tl : (H.items.take n).length = n := by simp; omega
 by_cases hz : n = 0
 ·subst hz
  have e : H.kw = { H with items := H.items.take 0, at_ := H.at_.set (H.items[0]!).toNat (-1) } := by
   unfold Hp.kw
   rw [hn, er]
   simp
  rw [e]
  refine ⟨⟨⟨fun j hj => ?_, fun j hj => ?_, fun y hy jJ => ?_⟩, fun j _ hj => ?_, by simpa using h.same, h.SJ⟩, rfl, by simp [hn], by simp, fun y => ?_⟩
  ·simp at hj
  ·simp at hj
  ·exfalso
   simp only [ak] at hy
   have gx : 0 ≤ (H.at_.set (H.items[0]!).toNat (-1))[y]! := jJ
   by_cases e1 : (H.items[0]!).toNat = y
   ·subst e1; rw [dY _ (by omega)] at gx; omega
   ·rw [fh _ e1] at gx
    obtain ⟨k1, k2⟩ := h.pc.inv y hy gx
    have e2 : (H.at_[y]!).toNat = 0 := by omega
    rw [e2] at k2
    omega
  ·simp at hj
  ·constructor
   ·intro hy; simp at hy
   ·rintro ⟨hy, dN⟩
    exfalso
    obtain ⟨j, hj, rfl⟩ := List.mem_iff_getElem.1 hy
    obtain rfl : j = 0 := by omega
    apply dN
    rw [er]; simp [hj]
 ·have adb : H.items[0]! ≠ H.items[n]! := fun e => hz (h.pc.inj h0 (by omega) e).symm
  -- SH heap with its last one at SH root
  obtain ⟨V, hV⟩ : ∃ V : Hp, V = Hp.put { H with items := H.items.take n, at_ := H.at_.set (H.items[0]!).toNat (-1) } ((0 : Nat) : Int) H.items[n]! := ⟨_, rfl⟩
  have vi : V.items = (H.items.take n).set 0 H.items[n]! := by rw [hV]; rfl
  have va : V.at_ = (H.at_.set (H.items[0]!).toNat (-1)).set (H.items[n]!).toNat 0 := by rw [hV]; rfl
  have vs : V.score = H.score := by rw [hV]; rfl
  have vl : V.items.length = n := by rw [vi, ak, tl]
  have val : V.at_.length = H.at_.length := by rw [va]; simp
  have v0 : V.items[0]! = H.items[n]! := by rw [vi]; exact dY _ (by omega)
  have vj : ∀ j : Nat, 0 < j → j < n → V.items[j]! = H.items[j]! := fun j zt hj => by rw [vi, fh _ (by omega), J0 _ hj]
  have vat : ∀ y : Nat, V.at_[y]! = if y = (H.items[n]!).toNat then 0 else if y = (H.items[0]!).toNat then -1 else H.at_[y]! := by
   intro y
   rw [va]
   by_cases e1 : y = (H.items[n]!).toNat
   ·subst e1; rw [if_pos rfl, dY _ (by simp only [ak]; omega)]
   ·rw [if_neg e1, fh _ (fun e => e1 e.symm)]
    by_cases e2 : y = (H.items[0]!).toNat
    ·subst e2; rw [if_pos rfl, dY _ (by omega)]
    ·rw [if_neg e2, fh _ (fun e => e2 e.symm)]
  have hP : PC V := by
   refine ⟨fun j hj => ?_, fun j hj => ?_, fun y hy jJ => ?_⟩
   ·rw [vl] at hj
    rw [val]
    by_cases e : j = 0
    ·subst e; rw [v0]; exact rn
    ·rw [vj j (by omega) hj]; exact h.pc.m9 j (by omega)
   ·rw [vl] at hj
    by_cases e : j = 0
    ·subst e; rw [v0, vat, if_pos rfl]; rfl
    ·rw [vj j (by omega) hj, vat]
     have rj := h.pc.m9 j (by omega)
     have n1 : H.items[j]! ≠ H.items[n]! := fun e' => by have := h.pc.inj (by omega) (by omega) e'; omega
     have n2 : H.items[j]! ≠ H.items[0]! := fun e' => e (h.pc.inj (by omega) h0 e')
     rw [if_neg (by omega), if_neg (by omega)]
     exact h.pc.pos j (by omega)
   ·rw [val] at hy
    rw [vat] at jJ ⊢
    rw [vl]
    by_cases e1 : y = (H.items[n]!).toNat
    ·rw [if_pos e1]
     show (0 : Nat) < n ∧ V.items[0]! = y
     rw [v0]; omega
    ·by_cases e2 : y = (H.items[0]!).toNat
     ·rw [if_neg e1, if_pos e2] at jJ; omega
     ·rw [if_neg e1, if_neg e2] at jJ ⊢
      obtain ⟨k1, k2⟩ := h.pc.inv y hy jJ
      have k3 : (H.at_[y]!).toNat ≠ n := fun e => by rw [e] at k2; omega
      have k4 : (H.at_[y]!).toNat ≠ 0 := fun e => by rw [e] at k2; omega
      rw [vj _ (by omega) (by omega)]
      exact ⟨by omega, k2⟩
  have hO : M4 V 0 := by
   refine ⟨fun j zt hj hp => ?_, fun j zt hj hp hi => by omega⟩
   rw [vl] at hj
   rw [eM vs, vj j zt hj, vj _ (by omega) (by omega)]
   exact h.ord j zt (by omega)
  have e : H.kw = Hp.mS n V 0 := by
   have hi : (H.it (n : Int)) = H.items[n]! := el
   unfold Hp.kw
   rw [hn, er]
   simp only [eo]
   rw [if_neg hz, hi]
   have hp := BE H.items[n]! n (Hp.put { H with items := H.items.take n, at_ := H.at_.set (H.items[0]!).toNat (-1) } 0 H.items[n]!) 0 (by rw [Hp.dx, tl]; omega)
   have pp : ((Hp.put { H with items := H.items.take n, at_ := H.at_.set (H.items[0]!).toNat (-1) } 0 H.items[n]!).put ((0 : Nat) : Int) H.items[n]!) = V := by
    rw [hV]
    simp only [Hp.put, Int.toNat_natCast, Int.toNat_zero, List.set_set]
   rw [pp] at hp
   exact hp hP
  obtain ⟨s1, s2, s3, s4, s5, s6⟩ := MH n V 0 (by omega) (by omega) hP hO
  rw [← e] at s1 s2 s3 s4 s5 s6
  refine ⟨⟨s1, s2, by rw [s5, val, s3, vs]; exact h.same, by rw [s3, vs]; exact h.SJ⟩, by rw [s3, vs], by rw [s4, vl, hn]; omega, by rw [s5, val], fun y => (s6 y).trans ?_⟩
  rw [er]
  constructor
  ·intro hy
   obtain ⟨j, hj, rfl⟩ := List.mem_iff_getElem.1 hy
   have e0 : V.items[j] = V.items[j]! := by simp [hj]
   rw [e0]
   rw [vl] at hj
   by_cases e : j = 0
   ·subst e; rw [v0]; exact ⟨iI.bw (by omega), fun e => adb e.symm⟩
   ·rw [vj j (by omega) hj]; exact ⟨iI.bw (by omega), fun e' => e (h.pc.inj (by omega) h0 e')⟩
  ·rintro ⟨hy, dN⟩
   obtain ⟨j, hj, rfl⟩ := List.mem_iff_getElem.1 hy
   have e0 : H.items[j] = H.items[j]! := by simp [hj]
   rw [e0] at dN ⊢
   by_cases e1 : j = 0
   ·subst e1; exact absurd rfl dN
   ·by_cases e2 : j = n
    ·subst e2; rw [← v0]; exact iI.bw (by omega)
    ·rw [← vj j (by omega) (by omega)]; exact iI.bw (by omega)
theorem HI.raise {H : Hp} (h : HI H) {x b : Int} (hb : H.gX x = true) (Mg : 0 ≤ b) (sT : b ≤ 1099511627776) (rA : H.sc x ≤ 1125899906842624 - b) :
  HI (H.iM x b) ∧ (H.iM x b).score = H.score.set x.toNat (H.sc x + b) ∧ (H.iM x b).items.length = H.items.length ∧ (H.iM x b).at_.length = H.at_.length ∧ ∀ y : Int, y ∈ (H.iM x b).items ↔ y ∈ H.items := by
 obtain ⟨h0, h1⟩ := Hp.cQ hb
 have hs := h.same
 have hx : x.toNat < H.score.length := by omega
 obtain ⟨K, hK⟩ : ∃ K : Hp, K = { H with score := H.score.set x.toNat (H.sc x + b) } := ⟨_, rfl⟩
 have ki : K.items = H.items := by rw [hK]
 have ka : K.at_ = H.at_ := by rw [hK]
 have ks : K.score = H.score.set x.toNat (H.sc x + b) := by rw [hK]
 have kx : K.sc x = H.sc x + b := by unfold Hp.sc; rw [ks]; exact dY _ hx
 have ky : ∀ y : Int, 0 ≤ y → y ≠ x → K.sc y = H.sc y := fun y hy dN => by unfold Hp.sc; rw [ks]; exact fh _ (by omega)
 have kP : PC K := ⟨fun j hj => by rw [ki, ka]; rw [ki] at hj; exact h.pc.m9 j hj, fun j hj => by rw [ki, ka]; rw [ki] at hj; exact h.pc.pos j hj, fun y hy jJ => by rw [ki, ka]; rw [ka] at hy jJ; exact h.pc.inv y hy jJ⟩
 have k0 : ∀ y : Nat, y < K.score.length → 0 ≤ K.score[y]! := by
  intro y hy
  rw [ks] at hy ⊢
  rw [ak] at hy
  by_cases e : x.toNat = y
  ·subst e
   rw [dY _ hx]
   have : 0 ≤ H.sc x := h.SJ _ hx
   omega
  ·rw [fh _ e]; exact h.SJ y hy
 have kl : K.at_.length = K.score.length := by rw [ka, ks, ak]; exact hs
 -- of two WD are not x nothing has changed; ada is ahead of x who ma not
 have fy : ∀ y z : Int, 0 ≤ y → 0 ≤ z → y ≠ x → z ≠ x → H.bi y z = false → K.bi y z = false := by
  intro y z hy hz hyx hzx hh
  cases hc : K.bi y z with
  | false => rfl
  | true =>
   rw [dS, ky y hy hyx, ky z hz hzx] at hc
   have : H.bi y z = true := dS.2 hc
   rw [this] at hh; cases hh
 have below : ∀ y : Int, 0 ≤ y → y ≠ x → H.bi y x = false → K.bi y x = false := by
  intro y hy hyx hh
  cases hc : K.bi y x with
  | false => rfl
  | true =>
   rw [dS, ky y hy hyx, kx] at hc
   have : H.bi y x = true := dS.2 (by omega)
   rw [this] at hh; cases hh
 have e0 : H.iM x b = if 0 ≤ H.pl x then Hp.nO (K.it (H.pl x)) ((H.pl x).toNat + 1) K (H.pl x).toNat else K := by
  unfold Hp.iM
  rw [if_pos ⟨hb, Mg, sT, rA⟩, hK]
 by_cases hp : 0 ≤ H.pl x
 ·rw [if_pos hp] at e0
  obtain ⟨q1, q2⟩ := h.pc.inv x.toNat (by omega) hp
  have ex : ((x.toNat : Nat) : Int) = x := by omega
  rw [ex] at q2
  have q1' : (H.pl x).toNat < K.items.length := by rw [ki]; exact q1
  have q2' : H.items[(H.pl x).toNat]! = x := q2
  have e1 : K.it (H.pl x) = K.items[(H.pl x).toNat]! := rfl
  have e2 : H.iM x b = Hp.Jp ((H.pl x).toNat + 1) K (H.pl x).toNat := by
   rw [e0, e1, Fq _ _ _ _ q1' (by omega) (by rw [tJ kP q1']; exact kP), tJ kP q1']
  have dN : ∀ j : Nat, j < H.items.length → j ≠ (H.pl x).toNat → H.items[j]! ≠ x := fun j hj oT e => oT (h.pc.inj hj q1 (by rw [e, q2']))
  have hO : I8 K (H.pl x).toNat := by
   refine ⟨fun j zt hj oT => ?_, fun j zt hj hpj P2 => ?_⟩
   ·rw [ki] at hj ⊢
    have r := h.pc.m9 j hj
    have rp := h.pc.m9 ((j - 1) / 2) (by omega)
    have ho := h.ord j zt hj
    by_cases e : (j - 1) / 2 = (H.pl x).toNat
    ·rw [e, q2'] at ho ⊢
     exact below _ r.1 (dN j hj oT) ho
    ·exact fy _ _ r.1 rp.1 (dN j hj oT) (dN _ (by omega) e) ho
   ·rw [ki] at hj ⊢
    have r := h.pc.m9 j hj
    have rp := h.pc.m9 (((H.pl x).toNat - 1) / 2) (by omega)
    have ho := h.ord j zt hj
    rw [hpj] at ho
    have xh := h.ord (H.pl x).toNat P2 q1
    exact fy _ _ r.1 rp.1 (dN j hj (by omega)) (dN _ (by omega) (by omega)) (iN ho xh)
  obtain ⟨s1, s2, s3, s4, s5, s6⟩ := iI ((H.pl x).toNat + 1) K (H.pl x).toNat q1' (by omega) kP hO
  rw [← e2] at s1 s2 s3 s4 s5 s6
  exact ⟨⟨s1, s2, by rw [s5, s3]; exact kl, by rw [s3]; exact k0⟩, by rw [s3, ks], by rw [s4, ki], by rw [s5, ka], fun y => by rw [s6 y, ki]⟩
 ·rw [if_neg hp] at e0
  rw [e0]
  have dN : ∀ j : Nat, j < H.items.length → H.items[j]! ≠ x := by
   intro j hj e
   have := h.pc.pos j hj
   rw [e] at this
   apply hp
   unfold Hp.pl
   rw [this]; omega
  refine ⟨⟨kP, fun j zt hj => ?_, kl, k0⟩, ks, by rw [ki], by rw [ka], fun y => by rw [ki]⟩
  rw [ki] at hj ⊢
  exact fy _ _ (h.pc.m9 j hj).1 (h.pc.m9 ((j - 1) / 2) (by omega)).1 (dN j hj) (dN _ (by omega)) (h.ord j zt hj)
theorem sX {l r : List Int} {j : Nat} (h : j < l.length) : (l ++ r)[j]! = l[j]! := by simp [ae, eS h]
theorem Gm {l : List Int} {m j : Nat} {x : Int} (h : l.length ≤ j) (h2 : j < l.length + m) : (l ++ List.replicate m x)[j]! = x := by
 rw [ae, List.getElem?_append_right h, List.getElem?_replicate, if_pos (by omega)]; rfl
theorem HI.grow {H : Hp} (h : HI H) (m : Nat) : HI (H.growBy m) := by
 have hs := h.same
 have hsc : ∀ y : Int, 0 ≤ y → y < H.at_.length → (H.growBy m).sc y = H.sc y := fun y h0 h1 => sX (by omega)
 refine ⟨⟨fun j hj => ?_, fun j hj => ?_, fun y hy jJ => ?_⟩, fun j zt hj => ?_, ?_, fun y hy => ?_⟩
 ·have := h.pc.m9 j hj
  show 0 ≤ H.items[j]! ∧ H.items[j]! < ((H.at_ ++ List.replicate m (-1)).length : Int)
  rw [ai]; omega
 ·have r := h.pc.m9 j hj
  show (H.at_ ++ List.replicate m (-1))[(H.items[j]!).toNat]! = j
  rw [sX (by omega)]
  exact h.pc.pos j hj
 ·have gx : 0 ≤ (H.at_ ++ List.replicate m (-1))[y]! := jJ
  have kg : y < (H.at_ ++ List.replicate m (-1)).length := hy
  rw [ai, a7] at kg
  show ((H.at_ ++ List.replicate m (-1))[y]!).toNat < H.items.length ∧ H.items[((H.at_ ++ List.replicate m (-1))[y]!).toNat]! = y
  by_cases e : y < H.at_.length
  ·rw [sX e] at gx ⊢; exact h.pc.inv y e gx
  ·rw [Gm (by omega) kg] at gx; omega
 ·have r := h.pc.m9 j hj
  have Ua : j < H.items.length := hj
  have rp := h.pc.m9 ((j - 1) / 2) (by omega)
  have ho := h.ord j zt hj
  show (H.growBy m).bi H.items[j]! H.items[(j - 1) / 2]! = false
  cases hc : (H.growBy m).bi H.items[j]! H.items[(j - 1) / 2]! with
  | false => rfl
  | true =>
   rw [dS, hsc _ r.1 r.2, hsc _ rp.1 rp.2] at hc
   have := dS.2 hc
   rw [this] at ho; cases ho
 ·show (H.at_ ++ List.replicate m (-1)).length = (H.score ++ List.replicate m 0).length
  simp [hs]
 ·have kg : y < (H.score ++ List.replicate m 0).length := hy
  rw [ai, a7] at kg
  show 0 ≤ (H.score ++ List.replicate m 0)[y]!
  by_cases e : y < H.score.length
  ·rw [sX e]; exact h.SJ y e
  ·rw [Gm (by omega) kg]; omega
theorem HI.none_ : HI { items := [], at_ := [], score := [] } :=
 ⟨⟨fun j hj => by simp at hj, fun j hj => by simp at hj, fun j hj => by simp at hj⟩, fun j _ hj => by simp at hj, rfl, fun j hj => by simp at hj⟩
structure Rc where
 lits : List Int
 jI : Bool
 act : Int
instance : Inhabited Rc := ⟨⟨[], false, 0⟩⟩
structure Sv where
 T : Tr
 H : Hp
 vars : Nat
 list : List Rc
 watch : List (List Nat)
 phase : List Bool
 model : List Bool
 core : List Int
 head : Nat
 used : Nat
 bump : Nat
 many : Int
 bU : Nat
 bad : Bool
 has : Bool
def aJ (l : Int) : Nat := if l < 0 then (-2 * l + 1).toNat else (2 * l).toNat
def cj (l : List Int) (i j : Nat) : List Int := (l.set i l[j]!).set j l[i]!
namespace Sv
def val (S : Sv) (l : Int) : Int := S.T.km l
def rc (S : Sv) (n : Nat) : Rc := S.list[n]!
def eX (S : Sv) (c : Nat) : List Nat := S.watch[c]!
def bS (S : Sv) (c : Nat) (l : List Nat) : Sv := { S with watch := S.watch.set c l }
def fP (S : Sv) (c n : Nat) : Sv := S.bS c (S.eX c ++ [n])
def dH (S : Sv) (n : Nat) (l : List Int) : Sv := { S with list := S.list.set n { S.rc n with lits := l } }
def put (S : Sv) (l r : Int) : Sv := { S with T := if S.T.i8 l = true then S.T.mH l r else S.T }
def deep (S : Sv) : Sv := { S with T := S.T.uM }
def attach (S : Sv) (l : List Int) (b : Bool) : Sv :=
 (({ S with list := S.list ++ [⟨l, b, S.used⟩] } : Sv).fP (aJ l[0]!) S.list.length).fP (aJ l[1]!) S.list.length
def ft (S : Sv) (l : List Int) : Nat → Nat → Option Nat
 | 0, _ => none
 | f + 1, k => if k < l.length then (if 0 ≤ S.val l[k]! then some k else ft S l f (k + 1)) else none
def nb (S : Sv) (n : Nat) (l : List Int) : Option Nat → Sv × Bool
 | some k => ((S.dH n (cj l 1 k)).fP (aJ l[k]!) n, true)
 | none => (S, false)
def cP (S : Sv) (n : Nat) : Sv × Bool := S.nb n (S.rc n).lits (S.ft (S.rc n).lits (S.rc n).lits.length 2)
def ch (S : Sv) (n : Nat) (off : Int) : Sv := if (S.rc n).lits[0]! = off then S.dH n (cj (S.rc n).lits 0 1) else S
def eY (S : Sv) (n : Nat) : Sv × Bool × Bool :=
 let x := (S.rc n).lits[0]!
 if 0 < S.val x then (S, true, true)
 else if (S.cP n).2 = true then ((S.cP n).1, false, true)
 else if S.val x < 0 then (S, true, false)
 else (S.put x (n + 1), true, true)
def cF (S : Sv) (n : Nat) (off : Int) : Sv × Bool × Bool :=
 if (S.rc n).lits.length = 0 then (S, false, true) else (S.ch n off).eY n
def bH (off : Int) : List Nat → List Nat → Sv → Sv × Option Nat
 | [], keep, S => (S.bS (aJ off) (keep ++ S.eX (aJ off)), none)
 | n :: r, keep, S =>
  let q := S.cF n off
  let Ro := if q.2.1 = true then keep ++ [n] else keep
  if q.2.2 = true then bH off r Ro q.1 else (q.1.bS (aJ off) (Ro ++ r), some n)
def cI : Nat → Sv → Sv × Option Nat
 | 0, S => (S, none)
 | f + 1, S =>
  if S.head < S.T.lits.length then
   let off := -(S.T.lits[S.head]!)
   let q := bH off (S.eX (aJ off)) [] (S.bS (aJ off) [])
   match q.2 with
   | some n => (q.1, some n)
   | none => cI f { q.1 with head := q.1.head + 1 }
  else (S, none)
def follow (S : Sv) : Sv × Option Nat := cI (S.vars + 1) S
def io (H : Hp) (x : Int) : Hp := if H.gX x = true ∧ H.pl x < 0 then H.pt x else H
def ol (H : Hp) (x b : Int) : Hp := if H.gX x = true ∧ 0 ≤ b ∧ b ≤ 1099511627776 ∧ H.sc x ≤ 1125899906842624 - b then H.iM x b else H
def dy (level : Int) : List Int → Sv → Sv
 | [], S => S
 | l :: r, S => if S.T.cK (tv l) ≤ level then S else dy level r { S with phase := S.phase.set (tv l).toNat (decide (0 < l)), H := io S.H (tv l) }
def back (S : Sv) (level : Nat) : Sv :=
 if S.T.levels.length ≤ level then S
 else
  let q := dy level S.T.lits.reverse S
  { q with T := q.T.cD level, head := min q.head (q.T.cD level).lits.length }
structure Gr where
 S : Sv
 seen : List Int
 fg : Int
 a8 : List Int
def meet (G : Gr) (l : Int) : Gr :=
 let v := tv l
 if v ∈ G.seen ∨ G.S.T.cK v ≤ 0 then G
 else
  let S1 : Sv := { G.S with H := ol G.S.H v G.S.bump }
  if S1.T.cK v = S1.T.levels.length then { G with S := S1, seen := v :: G.seen, fg := G.fg + 1 }
  else { G with S := S1, seen := v :: G.seen, a8 := G.a8 ++ [l] }
def meets (skip : Int) : List Int → Gr → Gr
 | [], G => G
 | l :: r, G => meets skip r (if l ≠ skip then meet G l else G)
def fV (S : Sv) (n : Nat) : Sv := { S with list := S.list.set n { S.rc n with act := S.used } }
def eZ : Nat → Gr → Int → Int → List Int → Option (Gr × Int)
 | 0, _, _, _, _ => none
 | f + 1, G, n, skip, rest =>
  let G1 := if 0 ≤ n then meets skip (G.S.rc n.toNat).lits { G with S := G.S.fV n.toNat } else G
  match rest.dropWhile (fun x => decide (tv x ∉ G1.seen)) with
  | [] => none
  | x :: r =>
   let G2 := { G1 with fg := G1.fg - 1 }
   if G2.fg = 0 then some (G2, x) else eZ f G2 (G2.S.T.eD (tv x) - 1) x r
def second (T : Tr) : Nat → Nat → List Int → Int → List Int × Int
 | 0, _, l, cO => (l, cO)
 | f + 1, k, l, cO => if k < l.length then (if cO < T.cK (tv l[k]!) then second T f (k + 1) (cj l 1 k) (T.cK (tv l[k]!)) else second T f (k + 1) l cO) else (l, cO)
def gO (S : Sv) (n : Nat) : Option (Sv × List Int × Int) :=
 match eZ (S.T.lits.length + 1) ⟨S, [], 0, [0]⟩ n 0 S.T.lits.reverse with
 | none => none
 | some (G, x) =>
  let l := G.a8.set 0 (-x)
  let q := second G.S.T l.length 1 l 0
  some (G.S, q.1, q.2)
def cX (S : Sv) : Sv := { S with bump := min (S.bump + S.bump / 16 + 1) 1073741824 }
def bW (S : Sv) (l : List Int) : Sv :=
 if l.length = 1 then S.put l[0]! 0
 else { ((S.attach l true).put l[0]! (S.list.length + 1)) with many := S.many + 1 }
def conflict (S : Sv) (n : Nat) : Option (Sv × Bool) :=
 if S.T.levels.length = 0 then some ({ S with bad := true }, false)
 else
  match S.gO n with
  | none => none
  | some (S1, l, level) => some (((S1.back level.toNat).bW l).cX, true)
def locked (S : Sv) (n : Nat) : Bool := decide (0 < S.val (S.rc n).lits[0]!) && decide (S.T.eD (tv (S.rc n).lits[0]!) = n + 1)
def qk (S : Sv) : List Nat := (List.range S.list.length).filter fun n => (S.rc n).jI && decide (2 < (S.rc n).lits.length) && !S.locked n
def cu (S : Sv) (n : Nat) : Sv := { S with list := S.list.set n ⟨[], false, (S.rc n).act⟩, many := S.many - 1 }
def dP (S : Sv) : List Int → List Int → List Int → List Int
 | [], _, met => met
 | l :: r, g, met =>
  if tv l ∉ g ∨ S.T.cK (tv l) = 0 then dP S r g met
  else if S.T.eD (tv l) - 1 < 0 then dP S r g (l :: met)
  else dP S r ((S.rc (S.T.eD (tv l) - 1).toNat).lits.map tv ++ g) met
def jF (met : List Int) : List Int → List Int → List Int
 | [], core => core
 | x :: r, core => jF met r (if x ∈ met ∧ x ∉ core then core ++ [x] else core)
def BX (S : Sv) (a : Int) (assume : List Int) : Sv := { S with core := jF (dP S S.T.lits.reverse [tv a] [a]) assume S.core }
def cW : Nat → Sv → Sv × Int
 | 0, S => (S, 0)
 | f + 1, S =>
  if S.H.items.length = 0 then (S, 0)
  else
   let v := S.H.it 0
   let S1 : Sv := { S with H := S.H.kw }
   if S1.val v ≠ 0 then cW f S1 else (S1, if S1.phase[v.toNat]! = true then v else -v)
def pick (S : Sv) : Sv × Int := cW (S.H.items.length + 1) S
def keep (S : Sv) : Sv := { S with model := (List.range (S.vars + 1)).map fun v : Nat => decide (0 < S.val (v : Int)), has := true }
def choose (S : Sv) : Sv × Int := if S.pick.2 = 0 then (S.pick.1.keep, 1) else (S.pick.1.deep.put S.pick.2 0, 0)
def bQ (assume : List Int) : Nat → Sv → Sv × Int
 | 0, S => S.choose
 | f + 1, S =>
  if S.T.levels.length < assume.length then
   let a := assume[S.T.levels.length]!
   if S.val a = -1 then (S.BX a assume, 2)
   else if S.val a = 0 then (S.deep.put a 0, 0)
   else bQ assume f S.deep
  else S.choose
def aS (S : Sv) (assume : List Int) : Sv × Int := bQ assume (assume.length + 1) S
def cH (S : Sv) (n next : Nat) : Sv := if next ≤ n then S.back 0 else S
def jv : Nat → Int → Hp → Hp
 | 0, _, H => H
 | n + 1, v, H => jv n (v + 1) (io H v)
def grow (S : Sv) (n : Nat) : Sv :=
 { S with T := S.T.dZ n, H := jv n (S.vars + 1) (S.H.dZ n), phase := S.phase ++ List.replicate n false, watch := S.watch ++ List.replicate (2 * n) [], vars := S.vars + n }
def bare : Sv := { T := Tr.fresh.dZ 0, H := Hp.none_.dZ 1, vars := 0, list := [], watch := [[], []], phase := [false], model := [], core := [], head := 0, used := 0, bump := 1, many := 0, bU := 400, bad := false, has := false }
def new (vars : Int) : Sv := bare.grow (min (max vars 0) 262143).toNat
end Sv
structure Cw where
 A : Option Addr
 c : Nat
 lits : List Int
 jI : Bool
 act : Int
instance : Inhabited Cw := ⟨⟨none, 0, [], false, 0⟩⟩
def Cw.rc (x : Cw) : Rc := ⟨x.lits, x.jI, x.act⟩
structure Wl where
 A : Option Addr
 c : Nat
 l : List Nat
instance : Inhabited Wl := ⟨⟨none, 0, []⟩⟩
def Wl.val (h : Wl) : Value := .slice h.A h.l.length h.c
def bv (l : List Nat) : List Int := l.map (fun n : Nat => (n : Int))
theorem aR (l : List Nat) : (bv l).length = l.length := by simp [bv]
theorem nt (l : List Nat) (i : Nat) : (bv l)[i]! = ((l[i]! : Nat) : Int) := by
 simp only [bv, ae, bh]
 cases l[i]? <;> simp
def ew : List Cw → List Value
 | [] => []
 | x :: r => .slice x.A x.lits.length x.c :: .bool x.jI :: .int .i64 x.act :: ew r
theorem IH (cs : List Cw) : (ew cs).length = cs.length * 3 := by
 induction cs with
 | nil => rfl
 | cons x r ih => simp only [ew, kV, ih]; omega
theorem II (a b : List Cw) : ew (a ++ b) = ew a ++ ew b := by
 induction a with
 | nil => rfl
 | cons x r ih => simp [ew, ih]
theorem kJ : ∀ (cs : List Cw) (i : Nat), i < cs.length → (ew cs)[i * 3]? = some (.slice (cs[i]!).A (cs[i]!).lits.length (cs[i]!).c) ∧ (ew cs)[i * 3 + 1]? = some (.bool (cs[i]!).jI) ∧ (ew cs)[i * 3 + 2]? = some (.int .i64 (cs[i]!).act)
 | [], i, h => by simp at h
 | x :: r, 0, h => by simp [ew]
 | x :: r, i + 1, h => by
  simp only [kV] at h
  have ih := kJ r i (by omega)
  have e0 : (i + 1) * 3 = i * 3 + 3 := by omega
  simp only [ew, e0]
  have e1 : (x :: r)[i + 1]! = r[i]! := by simp
  rw [e1]
  refine ⟨?_, ?_, ?_⟩
  ·simpa [cg] using ih.1
  ·have : i * 3 + 3 + 1 = (i * 3 + 1) + 3 := by omega
   rw [this]; simpa [cg] using ih.2.1
  ·have : i * 3 + 3 + 2 = (i * 3 + 2) + 3 := by omega
   rw [this]; simpa [cg] using ih.2.2
theorem ns : ∀ (cs : List Cw) (i : Nat) (x : Cw), i < cs.length → (((ew cs).set (i * 3) (.slice x.A x.lits.length x.c)).set (i * 3 + 1) (.bool x.jI)).set (i * 3 + 2) (.int .i64 x.act) = ew (cs.set i x)
 | [], i, x, h => by simp at h
 | y :: r, 0, x, h => by simp [ew]
 | y :: r, i + 1, x, h => by
  simp only [kV] at h
  have ih := ns r i x (by omega)
  have e0 : (i + 1) * 3 = i * 3 + 1 + 1 + 1 := by omega
  have e1 : i * 3 + 1 + 1 + 1 + 1 = (i * 3 + 1) + 1 + 1 + 1 := rfl
  have e2 : i * 3 + 1 + 1 + 1 + 2 = (i * 3 + 2) + 1 + 1 + 1 := rfl
  simp only [ew, e0, e1, e2, List.set_cons_succ, ih]
structure aH where
 a : Nat
 tL : dL
 hL : eW
 cA : Option Addr
 cC : Nat
 wA : Option Addr
 wC : Nat
 pA : Option Addr
 pC : Nat
 mA : Option Addr
 mC : Nat
 oA : Option Addr
 oC : Nat
 cs : List Cw
 ws : List Wl
 id : Nat
 cv : Nat → Nat × Nat × Nat
def m7 (L : aH) (S : Sv) : Array Value :=
 #[.pointer (some ⟨L.tL.a, 0, none⟩), .pointer (some ⟨L.hL.a, 0, none⟩), .int .i64 S.vars, .slice L.cA L.cs.length L.cC, .slice L.wA L.ws.length L.wC, .slice L.pA S.phase.length L.pC, .slice L.mA S.model.length L.mC, .slice L.oA S.core.length L.oC,
  .int .i64 S.head, .int .i64 S.used, .int .i64 S.bump, .int .i64 S.many, .int .i64 S.bU, .bool S.bad, .bool S.has]
def Bools (w : World) (A : Option Addr) (c : Nat) (l : List Bool) : Prop := w.ownsRow 0 4 1 (.slice A l.length c) l.length (l.map Value.bool)
def qc (w : World) (A : Option Addr) (c : Nat) (l : List Cw) : Prop := w.ownsRow 0 168 3 (.slice A l.length c) l.length (ew l)
def qa (w : World) (A : Option Addr) (c : Nat) (l : List Wl) : Prop := w.ownsRow 0 22 1 (.slice A l.length c) l.length (l.map Wl.val)
theorem di {w : World} {b : Nat} {e : TypeId} {size n m c : Nat} {A : Option Addr} {vs : List Value} (h : w.ownsRow b e size (.slice A m c) n vs) : ∀ k, k ∈ ah A → k < w.heap.size := by
 intro k hk
 rcases h.2 with ⟨h1, _⟩ | ⟨g, cap, cur, hv, _, hg, _⟩
 ·simp only [Value.slice.injEq] at h1
  rw [h1.1] at hk
  simp [ah] at hk
 ·simp only [Value.slice.injEq] at hv
  obtain ⟨rfl, _⟩ := hv
  simp [ah] at hk
  subst hk
  exact At.lt (t := e) hg
structure aK (w : World) (L : aH) (S : Sv) : Prop where
 obj : At w L.a 112 (m7 L S)
 tr : TrAt w L.tL S.T
 hp : b8 w L.hL S.H
 gy : L.hL.A2.isSome = true
 yP : L.cs.map Cw.rc = S.list
 yN : L.ws.map (·.l) = S.watch
 sG : qc w L.cA L.cC L.cs
 rws : qa w L.wA L.wC L.ws
 sE : Bools w L.pA L.pC S.phase
 vh : Bools w L.mA L.mC S.model
 rV : Ints w L.oA L.oC S.core
 nK : ∀ n : Nat, n < L.cs.length → Ints w (L.cs[n]!).A (L.cs[n]!).c (L.cs[n]!).lits
 pN : ∀ c : Nat, c < L.ws.length → Ints w (L.ws[c]!).A (L.ws[c]!).c (bv (L.ws[c]!).l)
 t0 : L.cv L.a = (L.id, 0, 0)
 t1 : ∀ k, k ∈ L.tL.fp → L.cv k = (L.id, 1, 0)
 t2 : ∀ k, k ∈ L.hL.fp → L.cv k = (L.id, 2, 0)
 t3 : ∀ k, k ∈ ah L.cA → L.cv k = (L.id, 3, 0)
 t4 : ∀ k, k ∈ ah L.wA → L.cv k = (L.id, 4, 0)
 t5 : ∀ k, k ∈ ah L.pA → L.cv k = (L.id, 5, 0)
 t6 : ∀ k, k ∈ ah L.mA → L.cv k = (L.id, 6, 0)
 t7 : ∀ k, k ∈ ah L.oA → L.cv k = (L.id, 7, 0)
 t8 : ∀ n : Nat, n < L.cs.length → ∀ k, k ∈ ah (L.cs[n]!).A → L.cv k = (L.id, 8, n)
 t9 : ∀ c : Nat, c < L.ws.length → ∀ k, k ∈ ah (L.ws[c]!).A → L.cv k = (L.id, 9, c)
def aH.own (L : aH) (w : World) : List Nat := (List.range w.heap.size).filter fun k => (L.cv k).1 == L.id
theorem aH.bI {L : aH} {w : World} {k : Nat} : k ∈ L.own w ↔ k < w.heap.size ∧ (L.cv k).1 = L.id := by simp [aH.own]
def aH.ext (L L' : aH) (w : World) : Prop := L'.a = L.a ∧ L'.id = L.id ∧ ∀ k, k < w.heap.size → (L'.cv k).1 = L.id → (L.cv k).1 = L.id
theorem aH.bX (L : aH) (w : World) : L.ext L w := ⟨rfl, rfl, fun _ _ h => h⟩
theorem aH.aM {L M N : aH} {w w' : World} (h : L.ext M w) (k : M.ext N w') (hw : w.heap.size ≤ w'.heap.size) : L.ext N w :=
 ⟨k.1.trans h.1, k.2.1.trans h.2.1, fun j hj e => h.2.2 j hj ((k.2.2 j (aQ hj hw) (e.trans h.2.1.symm)).trans h.2.1)⟩
theorem aH.aI {L M : aH} {w w' vg : World} (h : L.ext M w) (h1 : Fr (L.own w) w w') (h2 : Fr (M.own w') w' vg) : Fr (L.own w) w vg :=
 h1.trans h2 fun x hx => by
  rw [aH.bI] at hx
  rcases bl x w.heap.size with hl | hl
  ·left
   rw [aH.bI]
   exact ⟨hl, h.2.2 x hl (hx.2.trans h.2.1)⟩
  ·exact .inr hl
def aH.re (L : aH) (w : World) (t : Nat × Nat) : Nat → Nat × Nat × Nat := fun k => if k < w.heap.size then L.cv k else (L.id, t)
theorem aH.ge {L : aH} {w : World} {t : Nat × Nat} {k : Nat} (h : k < w.heap.size) : L.re w t k = L.cv k := if_pos h
theorem aH.Ke {L : aH} {w : World} {t : Nat × Nat} {k : Nat} (h : w.heap.size ≤ k) : L.re w t k = (L.id, t) := if_neg (by omega)
theorem dX {w w' : World} {F : List Nat} {e : TypeId} {size n m c b : Nat} {A : Option Addr} {vs : List Value} (h : w.ownsRow b e size (.slice A m c) n vs) (hf : Fr F w w') (hd : ∀ k, k ∈ ah A → k ∉ F) : w'.ownsRow b e size (.slice A m c) n vs :=
 hf.own h fun k hk => hd k ((iz k).1 hk)
structure Y6 (w' : World) (L : aH) (S : Sv) (P : Nat × Nat → Prop) : Prop where
 obj : ¬ P (0, 0) → At w' L.a 112 (m7 L S)
 tr : ¬ P (1, 0) → TrAt w' L.tL S.T
 hp : ¬ P (2, 0) → b8 w' L.hL S.H
 sG : ¬ P (3, 0) → qc w' L.cA L.cC L.cs
 rws : ¬ P (4, 0) → qa w' L.wA L.wC L.ws
 sE : ¬ P (5, 0) → Bools w' L.pA L.pC S.phase
 vh : ¬ P (6, 0) → Bools w' L.mA L.mC S.model
 rV : ¬ P (7, 0) → Ints w' L.oA L.oC S.core
 nK : ∀ n : Nat, n < L.cs.length → ¬ P (8, n) → Ints w' (L.cs[n]!).A (L.cs[n]!).c (L.cs[n]!).lits
 pN : ∀ c : Nat, c < L.ws.length → ¬ P (9, c) → Ints w' (L.ws[c]!).A (L.ws[c]!).c (bv (L.ws[c]!).l)
theorem aK.off {w w' : World} {L : aH} {S : Sv} (h : aK w L S) {P : Nat × Nat → Prop} {F : List Nat} (hf : Fr F w w') (hF : ∀ k, k ∈ F → k < w.heap.size → ∃ t, P t ∧ L.cv k = (L.id, t)) : Y6 w' L S P := by
 have key : ∀ {k : Nat} {u : Nat × Nat}, k < w.heap.size → L.cv k = (L.id, u) → ¬ P u → k ∉ F := fun hk hl dN hm => dN (by
  obtain ⟨t, ht, h2⟩ := hF _ hm hk
  have := h2.symm.trans hl
  simp only [Prod.mk.injEq, true_and] at this
  obtain rfl : t = _ := by simpa [Prod.ext_iff] using this
  exact ht)
 refine ⟨fun hn => hf.at_ h.obj (key h.obj.lt h.t0 hn), fun hn => h.tr.fr hf (fun k hk => key (h.tr.lt k hk) (h.t1 k hk) hn), fun hn => h.hp.fr hf (fun k hk => key (h.hp.lt k hk) (h.t2 k hk) hn),
  fun hn => dX h.sG hf (fun k hk => key (di h.sG k hk) (h.t3 k hk) hn), fun hn => dX h.rws hf (fun k hk => key (di h.rws k hk) (h.t4 k hk) hn),
  fun hn => dX h.sE hf (fun k hk => key (di h.sE k hk) (h.t5 k hk) hn), fun hn => dX h.vh hf (fun k hk => key (di h.vh k hk) (h.t6 k hk) hn),
  fun hn => h.rV.fr hf (fun k hk => key (h.rV.lt k hk) (h.t7 k hk) hn), fun n hl hn => (h.nK n hl).fr hf (fun k hk => key ((h.nK n hl).lt k hk) (h.t8 n hl k hk) hn),
  fun c hl hn => (h.pN c hl).fr hf (fun k hk => key ((h.pN c hl).lt k hk) (h.t9 c hl k hk) hn)⟩
theorem aK.fr {w w' : World} {L : aH} {S : Sv} (h : aK w L S) {F : List Nat} (hf : Fr F w w') (hF : ∀ k, k ∈ F → k < w.heap.size → (L.cv k).1 ≠ L.id) : aK w' L S := by
 have key : ∀ {k : Nat} {u : Nat × Nat}, k < w.heap.size → L.cv k = (L.id, u) → k ∉ F := fun hk hl hm => hF _ hm hk (by rw [hl])
 exact ⟨hf.at_ h.obj (key h.obj.lt h.t0), h.tr.fr hf (fun k hk => key (h.tr.lt k hk) (h.t1 k hk)), h.hp.fr hf (fun k hk => key (h.hp.lt k hk) (h.t2 k hk)), h.gy, h.yP, h.yN,
  dX h.sG hf (fun k hk => key (di h.sG k hk) (h.t3 k hk)), dX h.rws hf (fun k hk => key (di h.rws k hk) (h.t4 k hk)),
  dX h.sE hf (fun k hk => key (di h.sE k hk) (h.t5 k hk)), dX h.vh hf (fun k hk => key (di h.vh k hk) (h.t6 k hk)),
  h.rV.fr hf (fun k hk => key (h.rV.lt k hk) (h.t7 k hk)), fun n hl => (h.nK n hl).fr hf (fun k hk => key ((h.nK n hl).lt k hk) (h.t8 n hl k hk)),
  fun c hl => (h.pN c hl).fr hf (fun k hk => key ((h.pN c hl).lt k hk) (h.t9 c hl k hk)), h.t0, h.t1, h.t2, h.t3, h.t4, h.t5, h.t6, h.t7, h.t8, h.t9⟩
theorem aK.keep {w w' : World} {L : aH} {S : Sv} (h : aK w L S) (hf : Fr [] w w') : aK w' L S := h.fr hf (fun k hk => by cases hk)
structure UL (L : aH) (cv : Nat → Nat × Nat × Nat) : Prop where
 t0 : cv L.a = (L.id, 0, 0)
 t1 : ∀ k, k ∈ L.tL.fp → cv k = (L.id, 1, 0)
 t2 : ∀ k, k ∈ L.hL.fp → cv k = (L.id, 2, 0)
 t3 : ∀ k, k ∈ ah L.cA → cv k = (L.id, 3, 0)
 t4 : ∀ k, k ∈ ah L.wA → cv k = (L.id, 4, 0)
 t5 : ∀ k, k ∈ ah L.pA → cv k = (L.id, 5, 0)
 t6 : ∀ k, k ∈ ah L.mA → cv k = (L.id, 6, 0)
 t7 : ∀ k, k ∈ ah L.oA → cv k = (L.id, 7, 0)
 t8 : ∀ n : Nat, n < L.cs.length → ∀ k, k ∈ ah (L.cs[n]!).A → cv k = (L.id, 8, n)
 t9 : ∀ c : Nat, c < L.ws.length → ∀ k, k ∈ ah (L.ws[c]!).A → cv k = (L.id, 9, c)
theorem aK.tags {w : World} {L : aH} {S : Sv} (h : aK w L S) (t : Nat × Nat) : UL L (L.re w t) := by
 refine ⟨?_, fun k hk => ?_, fun k hk => ?_, fun k hk => ?_, fun k hk => ?_, fun k hk => ?_, fun k hk => ?_, fun k hk => ?_, fun n hn k hk => ?_, fun n hn k hk => ?_⟩
 ·rw [aH.ge h.obj.lt]; exact h.t0
 ·rw [aH.ge (h.tr.lt k hk)]; exact h.t1 k hk
 ·rw [aH.ge (h.hp.lt k hk)]; exact h.t2 k hk
 ·rw [aH.ge (di h.sG k hk)]; exact h.t3 k hk
 ·rw [aH.ge (di h.rws k hk)]; exact h.t4 k hk
 ·rw [aH.ge (di h.sE k hk)]; exact h.t5 k hk
 ·rw [aH.ge (di h.vh k hk)]; exact h.t6 k hk
 ·rw [aH.ge (h.rV.lt k hk)]; exact h.t7 k hk
 ·rw [aH.ge ((h.nK n hn).lt k hk)]; exact h.t8 n hn k hk
 ·rw [aH.ge ((h.pN n hn).lt k hk)]; exact h.t9 n hn k hk
theorem aH.lj {L : aH} {w : World} {t : Nat × Nat} {k : Nat} (h : (k < w.heap.size ∧ L.cv k = (L.id, t)) ∨ w.heap.size ≤ k) : L.re w t k = (L.id, t) := by
 rcases h with ⟨h1, h2⟩ | h1
 ·rw [aH.ge h1, h2]
 ·exact aH.Ke h1
theorem aH.fE {L : aH} {w w' : World} {F : List Nat} (hf : Fr F w w') (hF : ∀ k, k ∈ F → k < w.heap.size → (L.cv k).1 = L.id) : Fr (L.own w) w w' :=
 hf.mono fun k hk => by
  rcases bl k w.heap.size with hl | hl
  ·left
   rw [aH.bI]
   exact ⟨hl, hF k hk hl⟩
  ·exact .inr hl
theorem aH.mE {L : aH} {w : World} {t : Nat × Nat} {k : Nat} (h : k < w.heap.size) (e : (L.re w t k).1 = L.id) : (L.cv k).1 = L.id := by rwa [aH.ge h] at e
theorem aK.tz {w w' : World} {L : aH} {S : Sv} (h : aK w L S) {WE : dL} {T' : Tr} (ht : TrAt w' WE T') (he : L.tL.ext WE w) (hf : Fr L.tL.fp w w') :
  ∃ L', aK w' L' { S with T := T' } ∧ L.ext L' w ∧ Fr (L.own w) w w' := by
 have hF : ∀ k, k ∈ L.tL.fp → k < w.heap.size → L.cv k = (L.id, 1, 0) := fun k hk _ => h.t1 k hk
 have o := h.off (P := (· = (1, 0))) hf (fun k hk hl => ⟨_, rfl, hF k hk hl⟩)
 have g := h.tags (1, 0)
 have ea := he.1
 refine ⟨{ L with tL := WE, cv := L.re w (1, 0) }, ⟨?_, ht, o.hp (by decide), h.gy, h.yP, h.yN, o.sG (by decide), o.rws (by decide), o.sE (by decide), o.vh (by decide), o.rV (by decide), fun n hn => o.nK n hn (by simp), fun n hn => o.pN n hn (by simp),
  g.t0, fun k hk => aH.lj ((he.2 k hk).imp (fun h1 => ⟨h.tr.lt k h1, h.t1 k h1⟩) id), g.t2, g.t3, g.t4, g.t5, g.t6, g.t7, g.t8, g.t9⟩, ⟨rfl, rfl, fun k hk e => aH.mE hk e⟩, aH.fE hf (fun k hk hl => by rw [hF k hk hl])⟩
 have := o.obj (by decide)
 simp only [m7] at this ⊢
 rw [ea]
 exact this
theorem aK.heap {w w' : World} {L : aH} {S : Sv} (h : aK w L S) {hL' : eW} {H' : Hp} (ht : b8 w' hL' H') (he : L.hL.ext hL' w) (hf : Fr L.hL.fp w w') :
  ∃ L', aK w' L' { S with H := H' } ∧ L.ext L' w ∧ Fr (L.own w) w w' := by
 have hF : ∀ k, k ∈ L.hL.fp → k < w.heap.size → L.cv k = (L.id, 2, 0) := fun k hk _ => h.t2 k hk
 have o := h.off (P := (· = (2, 0))) hf (fun k hk hl => ⟨_, rfl, hF k hk hl⟩)
 have g := h.tags (2, 0)
 have ea := he.1
 refine ⟨{ L with hL := hL', cv := L.re w (2, 0) }, ⟨?_, o.tr (by decide), ht, he.2.2 h.gy, h.yP, h.yN, o.sG (by decide), o.rws (by decide), o.sE (by decide), o.vh (by decide), o.rV (by decide), fun n hn => o.nK n hn (by simp), fun n hn => o.pN n hn (by simp),
  g.t0, g.t1, fun k hk => aH.lj ((he.2.1 k hk).imp (fun h1 => ⟨h.hp.lt k h1, h.t2 k h1⟩) id), g.t3, g.t4, g.t5, g.t6, g.t7, g.t8, g.t9⟩, ⟨rfl, rfl, fun k hk e => aH.mE hk e⟩, aH.fE hf (fun k hk hl => by rw [hF k hk hl])⟩
 have := o.obj (by decide)
 simp only [m7] at this ⊢
 rw [ea]
 exact this
theorem aK.top {w w' : World} {L L' : aH} {S S' : Sv} (h : aK w L S) (hf : Fr [L.a] w w') (ho : At w' L.a 112 (m7 L' S'))
  (hL : L'.a = L.a ∧ L'.tL = L.tL ∧ L'.hL = L.hL ∧ L'.cA = L.cA ∧ L'.cC = L.cC ∧ L'.wA = L.wA ∧ L'.wC = L.wC ∧ L'.pA = L.pA ∧ L'.pC = L.pC ∧ L'.mA = L.mA ∧ L'.mC = L.mC ∧ L'.oA = L.oA ∧ L'.oC = L.oC ∧ L'.cs = L.cs ∧ L'.ws = L.ws ∧ L'.id = L.id ∧ L'.cv = L.cv)
  (hS : S'.T = S.T ∧ S'.H = S.H ∧ S'.list = S.list ∧ S'.watch = S.watch ∧ S'.phase = S.phase ∧ S'.model = S.model ∧ S'.core = S.core) : aK w' L' S' ∧ L.ext L' w ∧ Fr (L.own w) w w' := by
 have hF : ∀ k, k ∈ [L.a] → k < w.heap.size → L.cv k = (L.id, 0, 0) := fun k hk _ => by simp at hk; subst hk; exact h.t0
 have o := h.off (P := (· = (0, 0))) hf (fun k hk hl => ⟨_, rfl, hF k hk hl⟩)
 obtain ⟨L1, L2, L3, L4, L5, L6, L7, L8, L9, L10, L11, L12, L13, L14, L15, M8, M7⟩ := hL
 obtain ⟨S1, S2, S3, S4, S5, S6, S7⟩ := hS
 refine ⟨⟨by rw [L1]; exact ho, ?_, ?_, ?_, ?_, ?_, ?_, ?_, ?_, ?_, ?_, ?_, ?_, ?_, ?_, ?_, ?_, ?_, ?_, ?_, ?_, ?_, ?_⟩, ⟨L1, M8, fun k _ e => by rwa [M7] at e⟩, aH.fE hf (fun k hk hl => by rw [hF k hk hl])⟩
 ·rw [L2, S1]; exact o.tr (by decide)
 ·rw [L3, S2]; exact o.hp (by decide)
 ·rw [L3]; exact h.gy
 ·rw [L14, S3]; exact h.yP
 ·rw [L15, S4]; exact h.yN
 ·rw [L4, L5, L14]; exact o.sG (by decide)
 ·rw [L6, L7, L15]; exact o.rws (by decide)
 ·rw [L8, L9, S5]; exact o.sE (by decide)
 ·rw [L10, L11, S6]; exact o.vh (by decide)
 ·rw [L12, L13, S7]; exact o.rV (by decide)
 ·rw [L14]; exact fun n hn => o.nK n hn (by simp)
 ·rw [L15]; exact fun n hn => o.pN n hn (by simp)
 ·rw [M7, L1, M8]; exact h.t0
 ·rw [M7, L2, M8]; exact h.t1
 ·rw [M7, L3, M8]; exact h.t2
 ·rw [M7, L4, M8]; exact h.t3
 ·rw [M7, L6, M8]; exact h.t4
 ·rw [M7, L8, M8]; exact h.t5
 ·rw [M7, L10, M8]; exact h.t6
 ·rw [M7, L12, M8]; exact h.t7
 ·rw [M7, L14, M8]; exact h.t8
 ·rw [M7, L15, M8]; exact h.t9
theorem js {α : Type} {l : List α} {i : Nat} {x : α} (h : l[i]? = some x) : l.set i x = l := by
 apply List.ext_getElem?
 intro j
 rw [List.getElem?_set]
 split
 ·rename_i e
  subst e
  split
  ·exact h.symm
  ·rename_i hl
   rw [List.getElem?_eq_none (by omega)]
 ·rfl
theorem du {α : Type} [Inhabited α] (l : List α) (i j : Nat) (x : α) : (l.set i x)[j]! = if i = j ∧ i < l.length then x else l[j]! := by
 simp only [ae, List.getElem?_set]
 by_cases h : i = j
 ·subst h
  by_cases h2 : i < l.length
  ·simp [h2]
  ·simp [h2]
 ·simp [h]
theorem aK.Rk {w w' : World} {L : aH} {S : Sv} (h : aK w L S) {n : Nat} (hn : n < L.cs.length) {ls : List Int} {F : List Nat} (hi : Ints w' (L.cs[n]!).A (L.cs[n]!).c ls) (hl : ls.length = (L.cs[n]!).lits.length)
  (hf : Fr F w w') (hF : ∀ k, k ∈ F → k < w.heap.size → L.cv k = (L.id, 8, n)) : ∃ L', aK w' L' (S.dH n ls) ∧ L.ext L' w ∧ Fr (L.own w) w w' ∧ L'.cs = L.cs.set n { L.cs[n]! with lits := ls } ∧ L'.ws = L.ws ∧ L'.wA = L.wA ∧ L'.tL = L.tL := by
 have o := h.off (P := (· = (8, n))) hf (fun k hk hl => ⟨_, rfl, hF k hk hl⟩)
 have nI : ∀ j : Nat, (L.cs.set n { L.cs[n]! with lits := ls })[j]! = if n = j ∧ n < L.cs.length then { L.cs[n]! with lits := ls } else L.cs[j]! := fun j => du _ _ _ _
 refine ⟨{ L with cs := L.cs.set n { L.cs[n]! with lits := ls } }, ⟨?_, o.tr (by simp), o.hp (by simp), h.gy, ?_, h.yN, ?_, o.rws (by simp), o.sE (by simp), o.vh (by simp), o.rV (by simp), ?_, fun c hc => o.pN c hc (by simp), h.t0, h.t1, h.t2, h.t3, h.t4, h.t5, h.t6, h.t7, ?_, h.t9⟩, ⟨rfl, rfl, fun k _ e => e⟩, aH.fE hf (fun k hk hl => by rw [hF k hk hl]), rfl, rfl, rfl, rfl⟩
 ·have := o.obj (by simp)
  simp only [m7, Sv.dH, ak] at this ⊢
  exact this
 ·simp only [Sv.dH, Sv.rc]
  rw [← h.yP, List.map_set]
  congr 1
  simp only [Cw.rc, ae, bh, af hn, dc, aq]
 ·have := o.sG (by simp)
  unfold qc at this ⊢
  have e : ew (L.cs.set n { L.cs[n]! with lits := ls }) = ew L.cs := by
   obtain ⟨g0, g1, g2⟩ := kJ L.cs n hn
   rw [← ns L.cs n _ hn]
   simp only
   have e0 : (ew L.cs).set (n * 3) (.slice (L.cs[n]!).A ls.length (L.cs[n]!).c) = ew L.cs := js (by rw [hl]; exact g0)
   rw [e0, js g1, js g2]
  simp only [ak, e]
  exact this
 ·intro j hj
  simp only [ak] at hj
  simp only
  rw [nI]
  by_cases e : n = j
  ·subst e
   rw [if_pos ⟨rfl, hn⟩]
   exact hi
  ·rw [if_neg (fun x => e x.1)]
   exact o.nK j hj (by simp; omega)
 ·intro j hj k hk
  simp only [ak] at hj
  simp only at hk
  rw [nI] at hk
  by_cases e : n = j
  ·subst e
   rw [if_pos ⟨rfl, hn⟩] at hk
   exact h.t8 n hn k hk
  ·rw [if_neg (fun x => e x.1)] at hk
   exact h.t8 j hj k hk
theorem aK.lits {w w' : World} {L : aH} {S : Sv} (h : aK w L S) {n : Nat} (hn : n < L.cs.length) {ls : List Int} {F : List Nat} (hi : Ints w' (L.cs[n]!).A (L.cs[n]!).c ls) (hl : ls.length = (L.cs[n]!).lits.length)
  (hf : Fr F w w') (hF : ∀ k, k ∈ F → k < w.heap.size → L.cv k = (L.id, 8, n)) : ∃ L', aK w' L' (S.dH n ls) ∧ L.ext L' w ∧ Fr (L.own w) w w' ∧ L'.cs = L.cs.set n { L.cs[n]! with lits := ls } ∧ L'.ws = L.ws ∧ L'.wA = L.wA := by
 obtain ⟨L', h1, h2, h3, h4, h5, h6, _⟩ := h.Rk hn hi hl hf hF
 exact ⟨L', h1, h2, h3, h4, h5, h6⟩
theorem aK.bS {w w1 : World} {L : aH} {S : Sv} (h : aK w L S) {c : Nat} (hc : c < L.ws.length) {A' : Option Addr} {c' : Nat} {l' : List Nat} {F : List Nat} (hi : Ints w1 A' c' (bv l'))
  (hf : Fr F w w1) (hF : ∀ k, k ∈ F → k < w.heap.size → L.cv k = (L.id, 9, c)) (hA : ∀ k, k ∈ ah A' → (k < w.heap.size ∧ L.cv k = (L.id, 9, c)) ∨ w.heap.size ≤ k) :
  ∃ gw, L.wA = some ⟨gw, 0, none⟩ ∧ gw < w.heap.size ∧ w1.frozen? ⟨gw, c, none⟩ = false ∧ ∃ L', aK (w1.setCell ⟨gw, c, none⟩ (.slice A' l'.length c')) L' (S.bS c l') ∧ L.ext L' w ∧ Fr (L.own w) w (w1.setCell ⟨gw, c, none⟩ (.slice A' l'.length c')) ∧ L' = { L with ws := L.ws.set c ⟨A', c', l'⟩, cv := L.re w (9, c) } := by
 have o1 := h.off (P := (· = (9, c))) hf (fun k hk hl => ⟨_, rfl, hF k hk hl⟩)
 have r1 := o1.rws (by simp)
 have sf : ∃ gw, L.wA = some ⟨gw, 0, none⟩ ∧ gw < w.heap.size := by
  rcases h.rws.2 with ⟨_, h2⟩ | ⟨g, cap, cur, hv, _, hg, _⟩
  ·omega
  ·simp only [Value.slice.injEq, true_and] at hv
   exact ⟨g, hv.1, At.lt (t := 22) hg⟩
 obtain ⟨gw, hwA, ru⟩ := sf
 have jy : L.cv gw = (L.id, 4, 0) := h.t4 gw (by rw [hwA]; simp [ah])
 have r1' := r1
 unfold qa at r1
 rw [hwA] at r1
 have ni := (World.ownsRow.stored r1 c (.slice A' l'.length c')).1
 have cd : Fr (gw :: F) w (w1.setCell ⟨gw, c, none⟩ (.slice A' l'.length c')) := (hf.mono (fun k hk => .inl (by simp [hk]))).setCell (.inl (by simp)) _
 have zw : ∀ k, k ∈ gw :: F → k < w.heap.size → ∃ t, (t = (9, c) ∨ t = (4, 0)) ∧ L.cv k = (L.id, t) := by
  intro k hk hl
  rcases ay.1 hk with rfl | hk
  ·exact ⟨_, .inr rfl, jy⟩
  ·exact ⟨_, .inl rfl, hF k hk hl⟩
 have o := h.off (P := fun t => t = (9, c) ∨ t = (4, 0)) cd zw
 have g := h.tags (9, c)
 have dN : ∀ k, k ∈ ah A' → k ≠ gw := by
  rintro k hk rfl
  rcases hA k hk with ⟨_, h2⟩ | h2
  ·rw [jy] at h2; simp at h2
  ·omega
 have nI : ∀ j : Nat, (L.ws.set c ⟨A', c', l'⟩)[j]! = if c = j ∧ c < L.ws.length then ⟨A', c', l'⟩ else L.ws[j]! := fun j => du _ _ _ _
 refine ⟨gw, hwA, ru, World.ownsRow.frozenAt r1 c, { L with ws := L.ws.set c ⟨A', c', l'⟩, cv := L.re w (9, c) }, ⟨?_, o.tr (by simp), o.hp (by simp), h.gy, h.yP, ?_, o.sG (by simp), ?_, o.sE (by simp), o.vh (by simp), o.rV (by simp), fun n hn => o.nK n hn (by simp), ?_,
  g.t0, g.t1, g.t2, g.t3, g.t4, g.t5, g.t6, g.t7, g.t8, ?_⟩, ⟨rfl, rfl, fun k hk e => aH.mE hk e⟩, aH.fE cd (fun k hk hl => by obtain ⟨t, _, e⟩ := zw k hk hl; rw [e]), rfl⟩
 ·have := o.obj (by simp)
  simp only [m7, Sv.bS, ak] at this ⊢
  exact this
 ·simp only [Sv.bS]
  rw [← h.yN, List.map_set]
 ·unfold qa
  simp only [ak, List.map_set]
  rw [hwA]
  exact ni
 ·intro j hj
  simp only [ak] at hj
  simp only
  rw [nI]
  by_cases e : c = j
  ·subst e
   rw [if_pos ⟨rfl, hc⟩]
   exact hi.fy (p := ⟨gw, c, none⟩) (fun hk => dN _ hk rfl) _
  ·rw [if_neg (fun x => e x.1)]
   exact o.pN j hj (by simp; omega)
 ·intro j hj k hk
  simp only [ak] at hj
  simp only at hk
  rw [nI] at hk
  by_cases e : c = j
  ·subst e
   rw [if_pos ⟨rfl, hc⟩] at hk
   exact aH.lj (hA k hk)
  ·rw [if_neg (fun x => e x.1)] at hk
   exact g.t9 j hj k hk
theorem lF (w : World) (l : Int) (h0 : -1000000000 ≤ l) (h1 : l ≤ 1000000000) :
  Calls Tryz.prog 136 #[.int .i64 l] w fun e w' => e = .returned (.int .i64 (aJ l : Nat)) ∧ w = w' := by
 by_cases hn : l < 0
 ·have hd : decide (l < 0) = true := decide_eq_true hn
  have hc : Hid ((aJ l : Int) = -2 * l + 1) := by unfold aJ Hid; rw [if_pos hn]; omega
  have hk : Hid (∀ x : Int, x = -2 * l + 1 → Ending.returned (.int .i64 x) = .returned (.int .i64 (aJ l : Nat))) := fun x hx => by rw [hx, hc.out]
  go_enter Tryz.func136, Tryz.ntmps136
  go_wp2_with fail
  go_ret
  exact ⟨hk.out _ (by first | rfl | omega | (simp; omega)), rfl⟩
 ·have hd : decide (l < 0) = false := decide_eq_false hn
  have hc : Hid ((aJ l : Int) = 2 * l) := by unfold aJ Hid; rw [if_neg hn]; omega
  have hk : Hid (∀ x : Int, x = 2 * l → Ending.returned (.int .i64 x) = .returned (.int .i64 (aJ l : Nat))) := fun x hx => by rw [hx, hc.out]
  go_enter Tryz.func136, Tryz.ntmps136
  go_wp2_with fail
  go_ret
  exact ⟨hk.out _ (by first | rfl | omega | (simp; omega)), rfl⟩
theorem aK.cells {w : World} {L : aH} {S : Sv} (h : aK w L S) :
  w.cell? ⟨L.a, 0, none⟩ = some (.pointer (some ⟨L.tL.a, 0, none⟩)) ∧ w.cell? ⟨L.a, 1, none⟩ = some (.pointer (some ⟨L.hL.a, 0, none⟩)) ∧ w.cell? ⟨L.a, 2, none⟩ = some (.int .i64 S.vars) ∧ w.cell? ⟨L.a, 3, none⟩ = some (.slice L.cA L.cs.length L.cC) ∧
  w.cell? ⟨L.a, 4, none⟩ = some (.slice L.wA L.ws.length L.wC) ∧ w.cell? ⟨L.a, 5, none⟩ = some (.slice L.pA S.phase.length L.pC) ∧ w.cell? ⟨L.a, 6, none⟩ = some (.slice L.mA S.model.length L.mC) ∧ w.cell? ⟨L.a, 7, none⟩ = some (.slice L.oA S.core.length L.oC) ∧
  w.cell? ⟨L.a, 8, none⟩ = some (.int .i64 S.head) ∧ w.cell? ⟨L.a, 9, none⟩ = some (.int .i64 S.used) ∧ w.cell? ⟨L.a, 10, none⟩ = some (.int .i64 S.bump) ∧ w.cell? ⟨L.a, 11, none⟩ = some (.int .i64 S.many) ∧ w.cell? ⟨L.a, 12, none⟩ = some (.int .i64 S.bU) ∧
  w.cell? ⟨L.a, 13, none⟩ = some (.bool S.bad) ∧ w.cell? ⟨L.a, 14, none⟩ = some (.bool S.has) := by
 have o := h.obj
 refine ⟨?_, ?_, ?_, ?_, ?_, ?_, ?_, ?_, ?_, ?_, ?_, ?_, ?_, ?_, ?_⟩ <;> (rw [o.cell]; rfl)
theorem lp (w : World) (L : aH) (S : Sv) (h : aK w L S) :
  Calls Tryz.prog 74 #[.pointer (some ⟨L.a, 0, none⟩)] w fun e w' => e = .returned (.bool true) ∧ w = w' := by
 obtain ⟨c0, -⟩ := h.cells
 clear h
 go_enter Tryz.func74, Tryz.ntmps74
 go_wp2_with fail
 go_ret
 exact ⟨rfl, rfl⟩
theorem CP (w : World) (L : aH) (S : Sv) (h : aK w L S) :
  Calls Tryz.prog 42 #[.pointer (some ⟨L.a, 0, none⟩)] w fun e w' => e = .returned (.int .i64 S.used) ∧ w = w' := by
 have HM := aa (lp w L S h)
 obtain ⟨-, -, -, -, -, -, -, -, -, c9, -⟩ := h.cells
 clear h
 go_enter Tryz.func42, Tryz.ntmps42
 go_wp2_with fail
 refine HM.out.mono ?_
 rintro e w1 ⟨rfl, rfl⟩
 go_wp2_with fail
 go_ret
 exact ⟨rfl, rfl⟩
structure Sv.Ok (S : Sv) (m : Nat) : Prop where
 vl : S.vars ≤ 262143
 tr : ∃ R, TRep S.T S.vars R S.T.levels.length
 hi : HI S.H
 hl : S.H.at_.length = S.vars + 1
 ph : S.phase.length = S.vars + 1
 wl : S.watch.length = 2 * S.vars + 2
 ll : S.list.length ≤ 2199023255552
 wb : ∀ c n : Nat, n ∈ S.watch[c]! → n < S.list.length
 wt : (S.watch.map List.length).sum + m ≤ 2 * S.list.length
 lr : ∀ n : Nat, ∀ x ∈ (S.rc n).lits, x ≠ 0 ∧ -(S.vars : Int) ≤ x ∧ x ≤ S.vars
 ln : ∀ n : Nat, (S.rc n).lits.length ≠ 1
 lb : ∀ n : Nat, (S.rc n).lits.length ≤ 1048576
 hd : S.head ≤ S.T.lits.length
 rs : ∀ v : Int, 0 ≤ S.T.eD v ∧ S.T.eD v ≤ S.list.length
theorem Sv.Ok.small {S : Sv} {m : Nat} (ok : S.Ok m) : ∀ v : Int, 1 ≤ v → v < S.T.cells.length → -1 ≤ (S.T.jm v).v ∧ (S.T.jm v).v ≤ 1 := by
 obtain ⟨R, hR⟩ := ok.tr
 exact hR.small
theorem Sv.Ok.lit {S : Sv} {m : Nat} (ok : S.Ok m) {n k : Nat} (hk : k < (S.rc n).lits.length) : (S.rc n).lits[k]! ≠ 0 ∧ -(S.vars : Int) ≤ (S.rc n).lits[k]! ∧ (S.rc n).lits[k]! ≤ S.vars :=
 ok.lr n _ (by simp only [ae, af hk, aq]; exact List.getElem_mem hk)
theorem fG {x : Int} {v : Nat} (h0 : -(v : Int) ≤ x) (h1 : x ≤ v) : aJ x < 2 * v + 2 := by
 unfold aJ
 split <;> omega
theorem Fv : ∀ (l : List Nat) (c : Nat), l[c]! ≤ l.sum
 | [], c => by simp
 | x :: r, 0 => by simp
 | x :: r, c + 1 => by have := Fv r c; simp only [List.sum_cons]; simp at this ⊢; omega
theorem Sv.Ok.room {S : Sv} {m : Nat} (ok : S.Ok m) (c : Nat) : (S.watch[c]!).length ≤ 4398046511104 := by
 have h1 := Fv (S.watch.map List.length) c
 have h2 := ok.wt
 have h3 := ok.ll
 have e : (S.watch.map List.length)[c]! = (S.watch[c]!).length := by
  simp only [ae, bh]
  cases S.watch[c]? <;> rfl
 omega
theorem ED {S : Sv} {l : List Int} {f k : Nat} (h : l.length ≤ k) : S.ft l f k = none := by
 cases f with
 | zero => rfl
 | succ f => simp only [Sv.ft]; rw [if_neg (by omega)]
theorem MA {S : Sv} {l : List Int} {f k : Nat} (h : k < l.length) (hv : ¬ 0 ≤ S.val l[k]!) : S.ft l (f + 1) k = S.ft l f (k + 1) := by
 simp only [Sv.ft]
 rw [if_pos h, if_neg hv]
theorem IJ {S : Sv} {l : List Int} {f k : Nat} (h : k < l.length) (hv : 0 ≤ S.val l[k]!) : S.ft l (f + 1) k = some k := by
 simp only [Sv.ft]
 rw [if_pos h, if_pos hv]
theorem aK.nS {w : World} {L : aH} {S : Sv} (h : aK w L S) {n : Nat} (hn : n < L.cs.length) : S.rc n = (L.cs[n]!).rc := by
 unfold Sv.rc
 rw [← h.yP]
 simp only [ae, bh, af hn, dc, aq]
theorem aK.ql {w : World} {L : aH} {S : Sv} (h : aK w L S) {c : Nat} (hc : c < L.ws.length) : S.eX c = (L.ws[c]!).l := by
 unfold Sv.eX
 rw [← h.yN]
 simp only [ae, bh, af hc, dc, aq]
theorem aK.lU {w : World} {L : aH} {S : Sv} (h : aK w L S) : L.cs.length = S.list.length := by rw [← h.yP, ax]
theorem aK.pE {w : World} {L : aH} {S : Sv} (h : aK w L S) : L.ws.length = S.watch.length := by rw [← h.yN, ax]
theorem aK.nR {w : World} {L : aH} {S : Sv} (h : aK w L S) {n : Nat} (hn : n < L.cs.length) : ∃ g, L.cA = some ⟨g, 0, none⟩ ∧
  w.cell? ⟨g, n * 3, none⟩ = some (.slice (L.cs[n]!).A (L.cs[n]!).lits.length (L.cs[n]!).c) ∧ w.cell? ⟨g, n * 3 + 1, none⟩ = some (.bool (L.cs[n]!).jI) ∧ w.cell? ⟨g, n * 3 + 2, none⟩ = some (.int .i64 (L.cs[n]!).act) := by
 have r := h.sG
 unfold qc at r
 obtain ⟨g, hg⟩ : ∃ g, L.cA = some ⟨g, 0, none⟩ := by
  rcases r.2 with ⟨_, h2⟩ | ⟨g, cap, cur, hv, _, hg, _⟩
  ·omega
  ·simp only [Value.slice.injEq, true_and] at hv
   exact ⟨g, hv.1⟩
 rw [hg] at r
 obtain ⟨g0, g1, g2⟩ := kJ L.cs n hn
 have hl := IH L.cs
 refine ⟨g, hg, ?_, ?_, ?_⟩
 ·rw [World.ownsRow.cellAt r (n * 3) (by omega)]; exact g0
 ·rw [World.ownsRow.cellAt r (n * 3 + 1) (by omega)]; exact g1
 ·rw [World.ownsRow.cellAt r (n * 3 + 2) (by omega)]; exact g2
theorem aK.SD {w : World} {L : aH} {S : Sv} (h : aK w L S) {c : Nat} (hc : c < L.ws.length) : ∃ g, L.wA = some ⟨g, 0, none⟩ ∧ w.cell? ⟨g, c, none⟩ = some (.slice (L.ws[c]!).A (L.ws[c]!).l.length (L.ws[c]!).c) ∧ w.frozen? ⟨g, c, none⟩ = false := by
 have r := h.rws
 unfold qa at r
 obtain ⟨g, hg⟩ : ∃ g, L.wA = some ⟨g, 0, none⟩ := by
  rcases r.2 with ⟨_, h2⟩ | ⟨g, cap, cur, hv, _, hg, _⟩
  ·omega
  ·simp only [Value.slice.injEq, true_and] at hv
   exact ⟨g, hv.1⟩
 rw [hg] at r
 refine ⟨g, hg, ?_, World.ownsRow.frozenAt r c⟩
 rw [World.ownsRow.cellAt r c (by omega)]
 simp only [bh, af hc, dc, ae, aq, Wl.val]
theorem Fr.aZ {w w' : World} {F : List Nat} {p : Addr} {v : Value} (h : Fr F w w') (hn : p.block ∉ F) (hc : w.cell? p = some v) : w'.cell? p = some v := by
 rw [World.cell?_of_block (h.block p.block (bt hc) hn)]
 exact hc
theorem jn (l : List Nat) (n : Nat) : bv l ++ [(n : Int)] = bv (l ++ [n]) := by simp [bv]
def MvP (MV : Sv × Bool) (L : aH) (w : World) (e : Ending) (w' : World) : Prop :=
 (e = .returned (.bool false) ∧ MV.2 = false ∧ Fr [] w w') ∨ (e = .returned (.bool true) ∧ MV.2 = true ∧ ∃ L', aK w' L' MV.1 ∧ L.ext L' w ∧ Fr (L.own w) w w')
def me (r : Value) (S' : Sv) (L : aH) (w : World) (e : Ending) (w' : World) : Prop := e = .returned r ∧ ∃ L', aK w' L' S' ∧ L.ext L' w ∧ Fr (L.own w) w w'
set_option maxRecDepth 100000 in
set_option maxHeartbeats 4000000 in
theorem qW (w : World) (L : aH) (S : Sv) (h : aK w L S) (m : Nat) (ok : S.Ok m) (n : Nat) (hn : n < S.list.length) :
  Calls Tryz.prog 160 #[.pointer (some ⟨L.a, 0, none⟩), .int .i64 n] w (MvP (S.cP n) L w) := by
 have qf : n < L.cs.length := by rw [h.lU]; exact hn
 have fm := h.nS qf
 obtain ⟨-, -, -, -⟩ := h.cells
 obtain ⟨gc, gY, x0, -, -⟩ := h.nR qf
 have fJ := h.nK n qf
 have jy := h.t8 n qf
 have ug := ok.lb n
 have iq := fun k hk => ok.lit (n := n) (k := k) hk
 rw [fm] at ug iq
 simp only [Cw.rc] at ug iq
 obtain ⟨⟨A, c, l, b, ac⟩, hx⟩ : ∃ x, L.cs[n]! = x := ⟨_, rfl⟩
 rw [hx] at fm x0 fJ ug iq jy
 simp only [Cw.rc] at fm x0 fJ ug iq jy
 have jM := aa fJ
 have HH := aa h
 have HV := aa (fun (u : Ext w) (y : Int) (h0 : -9223372036854775808 ≤ y) (h1 : y ≤ 9223372036854775807) => dt u.v L.tL S.T (h.tr.fr u.fr (by simp)) y h0 h1 ok.small)
 have HVL := ok.vl
 have Fa := aa iq
 have vq := ok.ll
 obtain ⟨fk, hfk⟩ : ∃ fk, S.ft l l.length 2 = fk := ⟨_, rfl⟩
 have HFK := aa hfk
 have hmv : S.cP n = S.nb n l fk := by
  simp only [Sv.cP, fm, hfk]
 have ve := aa hmv
 obtain ⟨MV, hMV⟩ : ∃ MV, S.cP n = MV := ⟨_, rfl⟩
 rw [hMV] at ve ⊢
 have NO : Hid (fk = none → ∀ W, Fr [] w W → MvP MV L w (.returned (.bool false)) W) := fun h1 W hW => by
  subst h1
  rw [ve.out]
  exact .inl ⟨rfl, rfl, hW⟩
 have rI : Hid (∀ k, fk = some k → ∀ W L', aK W L' ((S.dH n (cj l 1 k)).fP (aJ l[k]!) n) → L.ext L' w → Fr (L.own w) w W → MvP MV L w (.returned (.bool true)) W) := fun k h1 W L' g1 g2 g3 => by
  subst h1
  rw [ve.out]
  exact .inr ⟨rfl, rfl, L', g1, g2, g3⟩
 obtain ⟨c0, -, -, c3, c4, -⟩ := h.cells
 rw [gY] at c3
 have th := aa c0
 have FX := h.lU
 have HX := aa hx
 have agv := aa jy
 have afG : Hid (L.ws.length = 2 * S.vars + 2) := h.pE.trans ok.wl
 have Zm := aa ok.room
 have afH := aa (fun c hc => h.ql (c := c) hc)
 clear hMV hmv hfk fm fJ iq h hx jy
 go_enter Tryz.func160, Tryz.ntmps160
 go_wp2_with fail
 clear c0 c3 c4 x0
 go_loopg [6] l.length (fun g x6 wr => ∃ k : Nat, k + g = l.length + 2 ∧ 2 ≤ k ∧ x6 = .int .i64 k ∧ Hid (S.ft l g k = fk) ∧ Fr [] w wr)
 case atStart => exact ⟨2, by omega, by omega, rfl, HFK.out, Fr.refl _ _⟩
 case round =>
  obtain ⟨k, hk, LM, rfl, cJ, hf⟩ := hrel
  have HK := aa hk
  have HF := aa hf
  have nH : k ≤ l.length + 2 := by omega
  clear hk hf
  by_cases bM : k < l.length
  ·obtain ⟨f, cE⟩ : ∃ f, gk = f + 1 := ⟨gk - 1, by have := HK.out; omega⟩
   obtain ⟨jJ, gx, kg⟩ := Fa.out k bM
   obtain ⟨gb, hA, ru⟩ := jM.out.pos bM
   have cy := HF.out.av ((hA ▸ jM.out : Ints w (some ⟨gb, 0, none⟩) c l).cell bM)
   have c0 := HF.out.av th.out
   obtain ⟨y, hy⟩ : ∃ y, l[k]! = y := ⟨_, rfl⟩
   rw [hy] at jJ gx kg cy
   have HY := aa hy
   have e0 := Ext.cell c0
   have ey := Ext.cell cy
   obtain ⟨v, hv⟩ : ∃ v, S.T.km y = v := ⟨_, rfl⟩
   have HVY := aa hv
   have KV := aa (fun u : Ext wr => HV.out ⟨u.v, HF.out.ag u.fr⟩ y (by omega) (by omega))
   simp only [hv] at KV
   clear hy hv
   subst hA
   by_cases NY : 0 ≤ v
   ·have hd : decide (0 ≤ v) = true := decide_eq_true NY
    have HKK : Hid (fk = some k) := by
     have := cJ.out
     rw [cE, IJ bM (by unfold Sv.val; rw [HY.out, HVY.out]; exact NY)] at this
     exact this.symm
    go_wp2_with fail
    refine al (by kernel_rfl) (by kernel_rfl) ?_
    repeat (go_big_quiet_step (exact aV (KV.out _)))
    refine wpQuiet_nil ?_
    rintro w2 ⟨u2, bJ⟩
    have aT : Hid (Fr [] wr w2) := bJ ▸ u2.fr
    clear bJ u2
    clear e0 ey c0 cy
    have lR := aa (HF.out.ag aT.out)
    clear HF aT KV
    have cy := lR.out.av (jM.out.cell bM)
    have c1 := lR.out.av (jM.out.cell (i := 1) (by omega))
    rw [HY.out] at cy
    obtain ⟨z, hz⟩ : ∃ z, l[1]! = z := ⟨_, rfl⟩
    rw [hz] at c1
    have HZ := aa hz
    clear hz
    have f1 := (jM.out.fr lR.out (by simp)).frozen 1
    have fk' := (jM.out.fr lR.out (by simp)).frozen k
    go_upto_region 6 with fail
    go_region
    go_upto_region 7 with fail
    obtain ⟨W, hW⟩ : ∃ W, ((w2.setCell ⟨gb, 1, none⟩ (.int .i64 y)).setCell ⟨gb, k, none⟩ (.int .i64 z)).drew = W := ⟨_, rfl⟩
    rw [hW]
    have hIW : Ints W (some ⟨gb, 0, none⟩) c (cj l 1 k) := by
     have := (((jM.out.fr lR.out (by simp)).cV 1 y).cV k z).drew
     rw [hW] at this
     unfold cj
     rw [HY.out, HZ.out]
     exact this
    have hFW : Fr [gb] w2 W := hW ▸ (((Fr.refl [gb] w2).setCell (.inl (by simp)) _).setCell (.inl (by simp)) _).drew
    have hlen : (cj l 1 k).length = l.length := by simp [cj]
    have h2 := HH.out.keep lR.out
    obtain ⟨L1, h1, sQ, cE, yI, Hl, adr⟩ := h2.lits (n := n) (by omega) (ls := cj l 1 k) (F := [gb]) (by rw [HX.out]; exact hIW) (by rw [HX.out]; exact hlen) hFW (fun j hj _ => by simp at hj; subst hj; exact agv.out _ (by simp [ah]))
    have Ix : aJ y < L1.ws.length := by
     have := fG (v := S.vars) gx kg
     rw [Hl, afG.out]
     exact this
    obtain ⟨oV, Qf⟩ : ∃ oV, aJ y = oV := ⟨_, rfl⟩
    have KC := aa (fun W' => lF W' y (by omega) (by omega))
    have Og := aa Qf
    simp only [Qf] at KC
    rw [Qf] at Ix
    obtain ⟨gw, sf, sw, fw⟩ := h1.SD Ix
    have Cr := h1.pN oV Ix
    have JC := Zm.out oV
    have vn : S.eX oV = (L1.ws[oV]!).l := by rw [Hl]; exact afH.out oV (by rw [← Hl]; exact Ix)
    unfold Sv.eX at vn
    rw [vn] at JC
    have TQ : ∀ j, j ∈ ah (L1.ws[oV]!).A → L1.cv j = (L1.id, 9, oV) := h1.t9 oV Ix
    obtain ⟨⟨A9, c9, l9⟩, Dv⟩ : ∃ x, L1.ws[oV]! = x := ⟨_, rfl⟩
    have HX9 := aa Dv
    rw [Dv] at sw Cr JC vn TQ
    simp only at sw Cr JC vn TQ
    have HW9 : Hid (S.watch[oV]! = l9) := vn
    obtain ⟨s0, -, -, -, s4, -⟩ := h1.cells
    rw [sf, sQ.1, Hl] at s4
    have HN0 : Hid (L.a ∉ ah A9) := fun hm => by
     have e1 := TQ _ hm
     rw [← sQ.1, h1.t0] at e1
     simp at e1
    have rM : Hid (gb ∉ ah A9) := fun hm => by
     have e1 := TQ _ hm
     have e2 := h1.t8 n (by rw [yI]; simp; omega) gb (by rw [yI, du, if_pos ⟨rfl, by omega⟩, HX.out]; simp [ah])
     rw [e2] at e1
     simp at e1
    have jp : Hid (gw ∉ ah A9) := fun hm => by
     have e1 := TQ _ hm
     have e2 := h1.t4 gw (by rw [sf]; simp [ah])
     rw [e2] at e1
     simp at e1
    have s1 : W.cell? ⟨gb, 1, none⟩ = some (.int .i64 y) := by
     rw [hIW.cell (i := 1) (by omega)]
     unfold cj
     rw [HY.out, HZ.out]
     simp only [ae]
     rw [List.getElem?_set_ne (by omega), List.getElem?_set_self (by omega)]
     rfl
    have Wh := aa s4
    have Oc := aa s1
    have qN := aa sw
    have Vs := aa fw
    have zB := aa Cr
    have Wj := aa TQ
    have H1 := aa h1
    have dV := aa (aH.aM (aH.bX L w) (⟨sQ.1, sQ.2.1, fun j hj e => sQ.2.2 j (aQ hj lR.out.size) e⟩ : L.ext L1 w) (ao _))
    have dv := aa (aH.aI (aH.bX L w) (lR.out.mono (fun j hj => by cases hj)) cE)
    have Vz : Hid (oV < L1.ws.length) := Ix
    have amh : oV < L.ws.length := by rw [← Hl]; exact Ix
    have FY : (1 : Int) < l.length := by omega
    have X0 : l9.length < 17592186044416 := by omega
    have Vl := aa X0
    have agK : Hid (Fr (ah A9) W W) := Fr.refl _ _
    have Vq := aa sf
    clear sf Hl adr Ix
    clear hW hIW hFW hlen h2 sQ cE yI Cr JC vn TQ Dv s0 s4 s1 sw fw h1 cy c1 f1 fk' Qf X0
    refine wp_region_noPanic ?_
    refine bj (fun w' : World => Fr (ah A9) W w') 22 (by kernel_rfl) (agK.out.drew) (fun dd => ?_)
    apply TB 15 [(0, []), (1, []), (2, []), (3, [3, 22]), (4, []), (5, []), (6, [6, 22]), (8, []), (9, []), (10, []), (11, [11, 22]), (12, []), (13, []), (14, [14, 22]), (18, [])]; kernel_rfl; rfl; · (repeat (apply ef; rfl; rfl; (· intro w aY; (try (have aY := aY.resolve_left (aF _ _); (have s4 := aY.aZ HN0.out Wh.out; have s1 := aY.aZ rM.out Oc.out; have sw := aY.aZ jp.out qN.out))); go_simp <;> with_reducible rfl); try simp only [Act.put, q5, q6, q7])); exact ee
    exact dd; intro dd
    have ap := dd.resolve_left (by decide)
    refine bp (rs := [7, 19]) (by kernel_rfl) (by simp) ?_
    refine aU.cons (o := ?aco) ?Pi ?DB ?_
    case Pi => rfl
    case DB =>
     intro K hK
     (go_simp; refine (KC.out _).mono ?_; rintro e w5 ⟨rfl, rfl⟩; dsimp only)
     refine hK.out _ _ (.inr ?_) (fun kH => ?_)
     ·first | exact ap.ag jc | exact ap.alloc _ | exact ap
     clear hK K
     try simp only [Act.put, q5, q6, q7]
     have ap := kH.resolve_left (by decide)
     refine bp (rs := [15, 19]) (by kernel_rfl) (by simp) ?_
     refine aU.cons (o := ?acn) ?Ph ?DA ?_
     case Ph => rfl
     case DA =>
      intro K hK
      (go_simp; refine (KC.out _).mono ?_; rintro e w5 ⟨rfl, rfl⟩; dsimp only)
      refine hK.out _ _ (.inr ?_) (fun fK => ?_)
      ·first | exact ap.ag jc | exact ap.alloc _ | exact ap
      clear hK K
      try simp only [Act.put, q5, q6, q7]
      apply TB 2 [(16, []), (17, [17, 22])]; kernel_rfl; rfl; · (repeat (apply ef; rfl; rfl; (· intro w aY; (try (have aY := aY.resolve_left (aF _ _); (have s4 := aY.aZ HN0.out Wh.out; have s1 := aY.aZ rM.out Oc.out; have sw := aY.aZ jp.out qN.out))); go_simp <;> with_reducible rfl); try simp only [Act.put, q5, q6, q7])); exact ee
      exact fK; intro fK
      refine R2 19 (by kernel_rfl) (by rfl) fK fun K hK ap => ?_
      go_simp
      refine hK.out _ _ (.inr ?_) (fun Bm => ?_)
      ·first | exact ap.ag jc | exact ap.alloc _ | exact ap
      clear hK K
      try simp only [Act.put, q5, q6, q7]
      refine R2 20 (by kernel_rfl) (by rfl) Bm fun K hK ap => ?_
      (refine bK rfl _ _ rfl A9 c9 (bv l9) _ rfl (aR l9).symm ?Hy _ 1 n rfl ?Ei (by rw [aR]; exact Vl.out) ?_; (case Hy => first | exact zB.out.drew.alloc _ | exact zB.out.alloc _ | exact zB.out); (case Ei => simp); intro gA cA wA Iq jc Ir VV)
      refine hK.out _ _ (.inr ?_) (fun fq => ?_)
      ·first | exact ap.ag jc | exact ap.alloc _ | exact ap
      clear hK K
      try simp only [Act.put, q5, q6, q7]
      apply TB 1 [(21, [])]; kernel_rfl; rfl; · (repeat (apply ef; rfl; rfl; (· intro w aY; go_simp <;> with_reducible rfl); try simp only [Act.put, q5, q6, q7])); exact ee
      exact fq; intro fq
      refine R2 22 (by kernel_rfl) (by rfl) fq fun K hK ap => ?_
      (have sb := ap.aZ jp.out qN.out; have fb : World.frozen? _ _ = _ := (World.frozen?_of_block (ap.block gw (bt qN.out) jp.out)).trans Vs.out; go_simp)
      refine hK.out _ _ (.inl rfl) (fun vS => ?_)
      clear hK K
      try simp only [Act.put, q5, q6, q7]
      refine az (by kernel_rfl) ?_ _
      refine NoPanic.normal ?_
      have pG : W.heap.size ≤ wA.heap.size := ap.size
      have LQ : Ints wA (some ⟨gA, 0, none⟩) cA (bv (l9 ++ [n])) := by rw [← jn]; exact Iq
      obtain ⟨EA, eJ, _, _, L2, h2, iW, cd, _⟩ := H1.out.bS Vz.out LQ ap (fun j hj _ => Wj.out j hj) (fun j hj => by
       simp [ah] at hj
       subst hj
       rcases Ir with h5 | h5
       ·exact .inl ⟨(zB.out.lt _ h5), Wj.out _ h5⟩
       ·right
        rw [h5]
        first | exact ao _ | (simp))
      obtain rfl : gw = EA := by rw [Vq.out] at eJ; simpa using eJ
      simp only [ai, bu] at h2 cd
      have E3 : Hid ((S.dH n (cj l 1 k)).bS oV (l9 ++ [n]) = (S.dH n (cj l 1 k)).fP (aJ l[k]!) n) := by
       rw [HY.out, Og.out]
       unfold Sv.fP Sv.eX Hid
       show _ = Sv.bS _ _ (S.watch[oV]! ++ [n])
       rw [HW9.out]
      rw [E3.out] at h2
      have AA : w.heap.size ≤ W.heap.size := dv.out.size
      have l8 := aa (rI.out k HKK.out _ L2 h2 (aH.aM dV.out iW AA) (aH.aI dV.out dv.out cd))
      go_wp2_with fail
      go_ret
      exact l8.out
     refine aU.cons (o := ?acm) ?Pg ?Ti aU.nil
     case Pg => rfl
     intro K hK
     go_simp
     refine hK.out _ _ (.inr ?_) (fun fK => ?_)
     ·first | exact ap.ag jc | exact ap.alloc _ | exact ap
     clear hK K
     try simp only [Act.put, q5, q6, q7]
     refine R2 15 (by kernel_rfl) (by rfl) fK fun K hK ap => ?_
     (go_simp; refine (KC.out _).mono ?_; rintro e w5 ⟨rfl, rfl⟩; dsimp only)
     refine hK.out _ _ (.inr ?_) (fun iS => ?_)
     ·first | exact ap.ag jc | exact ap.alloc _ | exact ap
     clear hK K
     try simp only [Act.put, q5, q6, q7]
     apply TB 2 [(16, []), (17, [17, 22])]; kernel_rfl; rfl; · (repeat (apply ef; rfl; rfl; (· intro w aY; (try (have aY := aY.resolve_left (aF _ _); (have s4 := aY.aZ HN0.out Wh.out; have s1 := aY.aZ rM.out Oc.out; have sw := aY.aZ jp.out qN.out))); go_simp <;> with_reducible rfl); try simp only [Act.put, q5, q6, q7])); exact ee
     exact iS; intro iS
     refine R2 20 (by kernel_rfl) (by rfl) iS fun K hK ap => ?_
     (refine bK rfl _ _ rfl A9 c9 (bv l9) _ rfl (aR l9).symm ?Hx _ 1 n rfl ?Eh (by rw [aR]; exact Vl.out) ?_; (case Hx => first | exact zB.out.drew.alloc _ | exact zB.out.alloc _ | exact zB.out); (case Eh => simp); intro gA cA wA Iq jc Ir VV)
     refine hK.out _ _ (.inr ?_) (fun fq => ?_)
     ·first | exact ap.ag jc | exact ap.alloc _ | exact ap
     clear hK K
     try simp only [Act.put, q5, q6, q7]
     apply TB 1 [(21, [])]; kernel_rfl; rfl; · (repeat (apply ef; rfl; rfl; (· intro w aY; go_simp <;> with_reducible rfl); try simp only [Act.put, q5, q6, q7])); exact ee
     exact fq; intro fq
     refine R2 22 (by kernel_rfl) (by rfl) fq fun K hK ap => ?_
     (have sb := ap.aZ jp.out qN.out; have fb : World.frozen? _ _ = _ := (World.frozen?_of_block (ap.block gw (bt qN.out) jp.out)).trans Vs.out; go_simp)
     refine hK.out _ _ (.inl rfl) (fun vS => ?_)
     clear hK K
     try simp only [Act.put, q5, q6, q7]
     refine az (by kernel_rfl) ?_ _
     refine NoPanic.normal ?_
     have pG : W.heap.size ≤ wA.heap.size := ap.size
     have LQ : Ints wA (some ⟨gA, 0, none⟩) cA (bv (l9 ++ [n])) := by rw [← jn]; exact Iq
     obtain ⟨EA, eJ, _, _, L2, h2, iW, cd, _⟩ := H1.out.bS Vz.out LQ ap (fun j hj _ => Wj.out j hj) (fun j hj => by
      simp [ah] at hj
      subst hj
      rcases Ir with h5 | h5
      ·exact .inl ⟨(zB.out.lt _ h5), Wj.out _ h5⟩
      ·right
       rw [h5]
       first | exact ao _ | (simp))
     obtain rfl : gw = EA := by rw [Vq.out] at eJ; simpa using eJ
     simp only [ai, bu] at h2 cd
     have E3 : Hid ((S.dH n (cj l 1 k)).bS oV (l9 ++ [n]) = (S.dH n (cj l 1 k)).fP (aJ l[k]!) n) := by
      rw [HY.out, Og.out]
      unfold Sv.fP Sv.eX Hid
      show _ = Sv.bS _ _ (S.watch[oV]! ++ [n])
      rw [HW9.out]
     rw [E3.out] at h2
     have AA : w.heap.size ≤ W.heap.size := dv.out.size
     have l8 := aa (rI.out k HKK.out _ L2 h2 (aH.aM dV.out iW AA) (aH.aI dV.out dv.out cd))
     go_wp2_with fail
     go_ret
     exact l8.out
    refine aU.cons (o := ?acl) ?Pf ?Th aU.nil
    case Pf => rfl
    intro K hK
    go_simp
    refine hK.out _ _ (.inr ?_) (fun kH => ?_)
    ·first | exact ap.ag jc | exact ap.alloc _ | exact ap
    clear hK K
    try simp only [Act.put, q5, q6, q7]
    refine R2 7 (by kernel_rfl) (by rfl) kH fun K hK ap => ?_
    (go_simp; refine (KC.out _).mono ?_; rintro e w5 ⟨rfl, rfl⟩; dsimp only)
    refine hK.out _ _ (.inr ?_) (fun fK => ?_)
    ·first | exact ap.ag jc | exact ap.alloc _ | exact ap
    clear hK K
    try simp only [Act.put, q5, q6, q7]
    refine R2 15 (by kernel_rfl) (by rfl) fK fun K hK ap => ?_
    (go_simp; refine (KC.out _).mono ?_; rintro e w5 ⟨rfl, rfl⟩; dsimp only)
    refine hK.out _ _ (.inr ?_) (fun iS => ?_)
    ·first | exact ap.ag jc | exact ap.alloc _ | exact ap
    clear hK K
    try simp only [Act.put, q5, q6, q7]
    apply TB 2 [(16, []), (17, [17, 22])]; kernel_rfl; rfl; · (repeat (apply ef; rfl; rfl; (· intro w aY; (try (have aY := aY.resolve_left (aF _ _); (have s4 := aY.aZ HN0.out Wh.out; have s1 := aY.aZ rM.out Oc.out; have sw := aY.aZ jp.out qN.out))); go_simp <;> with_reducible rfl); try simp only [Act.put, q5, q6, q7])); exact ee
    exact iS; intro iS
    refine R2 20 (by kernel_rfl) (by rfl) iS fun K hK ap => ?_
    (refine bK rfl _ _ rfl A9 c9 (bv l9) _ rfl (aR l9).symm ?Hw _ 1 n rfl ?Eg (by rw [aR]; exact Vl.out) ?_; (case Hw => first | exact zB.out.drew.alloc _ | exact zB.out.alloc _ | exact zB.out); (case Eg => simp); intro gA cA wA Iq jc Ir VV)
    refine hK.out _ _ (.inr ?_) (fun fq => ?_)
    ·first | exact ap.ag jc | exact ap.alloc _ | exact ap
    clear hK K
    try simp only [Act.put, q5, q6, q7]
    apply TB 1 [(21, [])]; kernel_rfl; rfl; · (repeat (apply ef; rfl; rfl; (· intro w aY; go_simp <;> with_reducible rfl); try simp only [Act.put, q5, q6, q7])); exact ee
    exact fq; intro fq
    refine R2 22 (by kernel_rfl) (by rfl) fq fun K hK ap => ?_
    (have sb := ap.aZ jp.out qN.out; have fb : World.frozen? _ _ = _ := (World.frozen?_of_block (ap.block gw (bt qN.out) jp.out)).trans Vs.out; go_simp)
    refine hK.out _ _ (.inl rfl) (fun vS => ?_)
    clear hK K
    try simp only [Act.put, q5, q6, q7]
    refine az (by kernel_rfl) ?_ _
    refine NoPanic.normal ?_
    have pG : W.heap.size ≤ wA.heap.size := ap.size
    have LQ : Ints wA (some ⟨gA, 0, none⟩) cA (bv (l9 ++ [n])) := by rw [← jn]; exact Iq
    obtain ⟨EA, eJ, _, _, L2, h2, iW, cd, _⟩ := H1.out.bS Vz.out LQ ap (fun j hj _ => Wj.out j hj) (fun j hj => by
     simp [ah] at hj
     subst hj
     rcases Ir with h5 | h5
     ·exact .inl ⟨(zB.out.lt _ h5), Wj.out _ h5⟩
     ·right
      rw [h5]
      first | exact ao _ | (simp))
    obtain rfl : gw = EA := by rw [Vq.out] at eJ; simpa using eJ
    simp only [ai, bu] at h2 cd
    have E3 : Hid ((S.dH n (cj l 1 k)).bS oV (l9 ++ [n]) = (S.dH n (cj l 1 k)).fP (aJ l[k]!) n) := by
     rw [HY.out, Og.out]
     unfold Sv.fP Sv.eX Hid
     show _ = Sv.bS _ _ (S.watch[oV]! ++ [n])
     rw [HW9.out]
    rw [E3.out] at h2
    have AA : w.heap.size ≤ W.heap.size := dv.out.size
    have l8 := aa (rI.out k HKK.out _ L2 h2 (aH.aM dV.out iW AA) (aH.aI dV.out dv.out cd))
    go_wp2_with fail
    go_ret
    exact l8.out
   ·have hd : decide (0 ≤ v) = false := decide_eq_false NY
    have CH : Hid (S.ft l f (k + 1) = fk) := by
     have := cJ.out
     rw [cE, MA bM (by unfold Sv.val; rw [HY.out, HVY.out]; exact NY)] at this
     exact this
    go_wp2_with fail
    refine al (by kernel_rfl) (by kernel_rfl) ?_
    repeat (go_big_quiet_step (exact aV (KV.out _)))
    refine wpQuiet_nil ?_
    rintro w2 ⟨u2, bJ⟩
    have aT : Hid (Fr [] wr w2) := bJ ▸ u2.fr
    clear bJ u2
    clear e0 ey c0 cy
    go_wp2_with fail
    go_roundg f
    case measure => omega
    case rel => exact ⟨k + 1, by have := HK.out; omega, by omega, by go_num, CH.out, HF.out.ag aT.out⟩
  ·have CH : Hid (fk = none) := by
    have := cJ.out
    rw [ED (by omega)] at this
    exact this.symm
   go_wp2_with fail
   go_ret
   exact NO.out CH.out _ HF.out
theorem eO (l : List Int) (i j : Nat) : (cj l i j).length = l.length := by simp [cj]
theorem get_mem {l : List Int} {i : Nat} (h : i < l.length) : l[i]! ∈ l := by
 simp only [ae, af h, aq]; exact List.getElem_mem h
theorem pd {l : List Int} {i j : Nat} (hi : i < l.length) (hj : j < l.length) {x : Int} (h : x ∈ cj l i j) : x ∈ l := by
 unfold cj at h
 rcases List.mem_or_eq_of_mem_set h with h | rfl
 ·rcases List.mem_or_eq_of_mem_set h with h | rfl
  ·exact h
  ·exact get_mem hj
 ·exact get_mem hi
theorem ko {l : List Int} {i j k : Nat} (hi : i < l.length) (hj : j < l.length) (hk : k < l.length) : (cj l i j)[k]! = if k = j then l[i]! else if k = i then l[j]! else l[k]! := by
 unfold cj
 rw [du, du]
 by_cases h1 : k = j
 ·subst h1
  simp [hk]
 ·rw [if_neg (by omega), if_neg h1]
  by_cases h2 : k = i
  ·subst h2
   simp [hk]
  ·rw [if_neg (by omega), if_neg h2]
namespace Sv
theorem jU (S : Sv) (n j : Nat) (l : List Int) : (S.dH n l).rc j = if n = j ∧ n < S.list.length then { S.rc n with lits := l } else S.rc j := by
 unfold rc dH
 exact du _ _ _ _
theorem oh {S : Sv} {n : Nat} (h : S.list.length ≤ n) : S.rc n = ⟨[], false, 0⟩ := by
 unfold rc
 simp only [ae, List.getElem?_eq_none h]
 rfl
theorem Ok.dH {S : Sv} {m : Nat} (ok : S.Ok m) {n : Nat} {l : List Int} (hl : l.length = (S.rc n).lits.length) (hm : ∀ x ∈ l, x ∈ (S.rc n).lits) : (S.dH n l).Ok m := by
 refine ⟨ok.vl, ok.tr, ok.hi, ok.hl, ok.ph, ok.wl, by simpa [Sv.dH] using ok.ll, fun c k h => by simpa [Sv.dH] using ok.wb c k h, by simpa [Sv.dH] using ok.wt, fun k x hx => ?_, fun k => ?_, fun k => ?_, ok.hd, fun v => by simpa [Sv.dH] using ok.rs v⟩
 ·rw [jU] at hx
  split at hx
  ·exact ok.lr n x (hm x hx)
  ·exact ok.lr k x hx
 ·rw [jU]
  split
  ·simp only [hl]; exact ok.ln n
  ·exact ok.ln k
 ·rw [jU]
  split
  ·simp only [hl]; exact ok.lb n
  ·exact ok.lb k
theorem Fu : ∀ (l : List Nat) (c x : Nat), c < l.length → (l.set c x).sum + l[c]! = l.sum + x
 | [], c, x, h => by simp at h
 | y :: r, 0, x, h => by simp; omega
 | y :: r, c + 1, x, h => by
  have := Fu r c x (by simpa using h)
  simp only [List.set_cons_succ, List.sum_cons]
  have e : (y :: r)[c + 1]! = r[c]! := by simp
  rw [e]
  omega
theorem Wy (S : Sv) (c : Nat) (l : List Nat) (hc : c < S.watch.length) : ((S.bS c l).watch.map List.length).sum + (S.eX c).length = (S.watch.map List.length).sum + l.length := by
 have h := Fu (S.watch.map List.length) c l.length (by simpa using hc)
 have e : (S.watch.map List.length)[c]! = (S.eX c).length := by
  unfold eX
  simp only [ae, bh, af hc, dc, aq]
 rw [e] at h
 simpa [bS, List.map_set] using h
theorem Ok.bS {S : Sv} {m m' : Nat} (ok : S.Ok m) {c : Nat} {l : List Nat} (hc : c < S.watch.length) (hl : ∀ n ∈ l, n < S.list.length) (hm : l.length + m' ≤ (S.eX c).length + m) : (S.bS c l).Ok m' := by
 have hw := Wy S c l hc
 have ht := ok.wt
 refine ⟨ok.vl, ok.tr, ok.hi, ok.hl, ok.ph, by simpa [Sv.bS] using ok.wl, ok.ll, fun k n h => ?_, ?_, ok.lr, ok.ln, ok.lb, ok.hd, ok.rs⟩
 ·unfold Sv.bS at h
  simp only at h
  rw [du] at h
  split at h
  ·exact hl n h
  ·exact ok.wb k n h
 ·have : (S.bS c l).list = S.list := rfl
  rw [this]
  omega
theorem Ok.fP {S : Sv} {m : Nat} (ok : S.Ok (m + 1)) {c n : Nat} (hc : c < S.watch.length) (hn : n < S.list.length) : (S.fP c n).Ok m := by
 refine ok.bS hc (fun j hj => ?_) (by simp; omega)
 rcases aj.1 hj with h | h
 ·exact ok.wb c j h
 ·simp at h; omega
theorem Ok.less {S : Sv} {m m' : Nat} (ok : S.Ok m) (h : m' ≤ m) : S.Ok m' := ⟨ok.vl, ok.tr, ok.hi, ok.hl, ok.ph, ok.wl, ok.ll, ok.wb, by have := ok.wt; omega, ok.lr, ok.ln, ok.lb, ok.hd, ok.rs⟩
theorem Ok.ch {S : Sv} {m : Nat} (ok : S.Ok m) (n : Nat) (off : Int) : (S.ch n off).Ok m := by
 unfold Sv.ch
 split
 ·by_cases h : (S.rc n).lits.length = 0
  ·refine ok.dH (eO _ _ _) (fun x hx => ?_)
   have : (cj (S.rc n).lits 0 1) = [] := a6 (by rw [eO]; exact h)
   rw [this] at hx
   cases hx
  ·have := ok.ln n
   exact ok.dH (eO _ _ _) (fun x hx => pd (by omega) (by omega) hx)
 ·exact ok
theorem pM {S : Sv} {l : List Int} : ∀ (f k j : Nat), S.ft l f k = some j → k ≤ j ∧ j < l.length ∧ 0 ≤ S.val l[j]!
 | 0, k, j, h => by simp [ft] at h
 | f + 1, k, j, h => by
  simp only [ft] at h
  split at h
  ·split at h
   ·rename_i h1 h2
    simp only [Option.some.injEq] at h
    subst h
    exact ⟨ao _, h1, h2⟩
   ·have := pM f (k + 1) j h
    exact ⟨by omega, this.2⟩
  ·cases h
theorem Ok.wV {S : Sv} {m : Nat} (ok : S.Ok (m + 1)) {n : Nat} (hn : n < S.list.length) (h : (S.cP n).2 = true) : (S.cP n).1.Ok m := by
 unfold Sv.cP at h ⊢
 cases hk : S.ft (S.rc n).lits (S.rc n).lits.length 2 with
 | none => rw [hk] at h; cases h
 | some k =>
  obtain ⟨h1, h2, _⟩ := pM _ _ _ hk
  simp only [Sv.nb]
  have o1 := ok.dH (n := n) (l := cj (S.rc n).lits 1 k) (eO _ _ _) (fun x hx => pd (by omega) h2 hx)
  have hl := ok.lit h2
  have := fG hl.2.1 hl.2.2
  refine o1.fP (by simp only [Sv.dH]; rw [ok.wl]; exact this) (by simpa [Sv.dH] using hn)
theorem oo (S : Sv) (n : Nat) : (S.cP n).1.T = S.T ∧ (S.cP n).1.vars = S.vars ∧ (S.cP n).1.list.length = S.list.length ∧ (S.cP n).1.head = S.head ∧ (S.cP n).1.H = S.H ∧ (S.cP n).1.watch.length = S.watch.length := by
 unfold cP
 cases S.ft (S.rc n).lits (S.rc n).lits.length 2 <;> simp [nb, fP, bS, dH]
theorem mq (S : Sv) (n : Nat) (off : Int) : (S.ch n off).T = S.T ∧ (S.ch n off).vars = S.vars ∧ (S.ch n off).list.length = S.list.length ∧ (S.ch n off).head = S.head ∧ (S.ch n off).H = S.H ∧ (S.ch n off).watch = S.watch := by
 unfold ch
 split <;> simp [dH]
theorem Ok.put {S : Sv} {m : Nat} (ok : S.Ok m) {x r : Int} (hr : 0 ≤ r ∧ r ≤ S.list.length) : (S.put x r).Ok m := by
 by_cases hb : S.T.i8 x = true
 ·have e : S.put x r = { S with T := S.T.mH x r } := by unfold Sv.put; rw [if_pos hb]
  rw [e]
  obtain ⟨R, hR⟩ := ok.tr
  have h2 := hR.put x r hb
  refine ⟨ok.vl, ⟨_, h2⟩, ok.hi, ok.hl, ok.ph, ok.wl, ok.ll, ok.wb, ok.wt, ok.lr, ok.ln, ok.lb, ?_, fun v => ?_⟩
  ·have := ok.hd
   simp only [Tr.mH, ai, bu]
   omega
  ·have h3 := h2.eD v
   have h4 := hR.eD v
   have h5 := ok.rs v
   simp only
   rw [h3, Ap]
   cases jb : look R v with
   | none =>
    split
    ·rename_i e
     split at e
     ·simp at e
     ·omega
    ·rename_i e2 e
     split at e
     ·simp only [Option.none_or, Option.some.injEq] at e
      rw [← e]
      exact hr
     ·cases e
   | some e0 =>
    rw [jb] at h4
    simp only at h4
    split
    ·omega
    ·rename_i e2 e
     have : e2 = e0 := by
      split at e
      ·simpa using e.symm
      ·simpa using e.symm
     rw [this, ← h4]
     exact h5
 ·have e : S.put x r = S := by unfold Sv.put; rw [if_neg hb]
  rw [e]
  exact ok
theorem Ok.visit {S : Sv} {m : Nat} (ok : S.Ok (m + 1)) {n : Nat} (hn : n < S.list.length) (off : Int) :
  (S.cF n off).1.Ok (if (S.cF n off).2.1 = true then m + 1 else m) ∧ (S.cF n off).1.vars = S.vars ∧ (S.cF n off).1.list.length = S.list.length ∧ (S.cF n off).1.head = S.head ∧ (S.cF n off).1.watch.length = S.watch.length := by
 unfold Sv.cF
 split
 ·exact ⟨ok.less (by simp), rfl, rfl, rfl, rfl⟩
 ·have o1 := ok.ch n off
  obtain ⟨q1, q2, q3, q4, q5, q6⟩ := mq S n off
  generalize S.ch n off = S1 at *
  unfold Sv.eY
  simp only
  split
  ·exact ⟨o1, q2, q3, q4, by rw [q6]⟩
  ·split
   ·rename_i h
    obtain ⟨p1, p2, p3, p4, p5, p6⟩ := oo S1 n
    exact ⟨o1.wV (by omega) h, by rw [p2, q2], by rw [p3, q3], by rw [p4, q4], by rw [p6, q6]⟩
   ·split
    ·exact ⟨o1, q2, q3, q4, by rw [q6]⟩
    ·exact ⟨o1.put ⟨by omega, by omega⟩, q2, q3, q4, by show S1.watch.length = _; rw [q6]⟩
end Sv
end Go.Proofs.YtpjbaobgnhjgoaaGreat
