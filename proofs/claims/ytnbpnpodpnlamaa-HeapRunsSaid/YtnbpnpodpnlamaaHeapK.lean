/- The heap's plain law: what up and down do to a heap's order, and where each number lies. No program in sight. -/
import Derived.Test.YtnbpnpodpnlamaaHeapG
namespace Go.Proofs.Ytnbpnpodpnlamaa
open Go.RowKit

theorem set_get (l : List Int) (i j : Nat) (x : Int) : (l.set i x)[j]! = if i = j ∧ i < l.length then x else l[j]! := by
  simp only [List.getElem!_eq_getElem?_getD, List.getElem?_set]
  by_cases h : i = j
  · subst h
    by_cases hl : i < l.length
    · simp [hl]
    · simp [hl]
  · simp [h]
theorem set_same {l : List Int} {i : Nat} (x : Int) (h : i < l.length) : (l.set i x)[i]! = x := by rw [set_get]; simp [h]
theorem set_ne {l : List Int} {i j : Nat} (x : Int) (h : i ≠ j) : (l.set i x)[j]! = l[j]! := by rw [set_get]; simp [h]

/-- Each item lies where it is told to lie; whatever is told to lie somewhere lies there. -/
structure PC (V : Hp) : Prop where
  rng : V.InR
  pos : ∀ j : Nat, j < V.items.length → V.at_[(V.items[j]!).toNat]! = j
  inv : ∀ x : Nat, x < V.at_.length → 0 ≤ V.at_[x]! → (V.at_[x]!).toNat < V.items.length ∧ V.items[(V.at_[x]!).toNat]! = x

theorem PC.inj {V : Hp} (h : PC V) {i j : Nat} (hi : i < V.items.length) (hj : j < V.items.length) (e : V.items[i]! = V.items[j]!) : i = j := by
  have h1 := h.pos i hi
  have h2 := h.pos j hj
  rw [e] at h1
  omega

def Hp.swp (V : Hp) (i p : Nat) : Hp := (V.put (i : Int) V.items[p]!).put (p : Int) V.items[i]!

theorem swp_len (V : Hp) (i p : Nat) : (V.swp i p).items.length = V.items.length ∧ (V.swp i p).at_.length = V.at_.length ∧ (V.swp i p).score = V.score := by simp [Hp.swp, Hp.put]
theorem swp_items (V : Hp) {i p : Nat} (hi : i < V.items.length) (hp : p < V.items.length) (j : Nat) :
    (V.swp i p).items[j]! = if j = p then V.items[i]! else if j = i then V.items[p]! else V.items[j]! := by
  simp only [Hp.swp, Hp.put, Int.toNat_natCast]
  by_cases h1 : j = p
  · subst h1
    rw [if_pos rfl, set_same _ (by simpa using hp)]
  · rw [if_neg h1, set_ne _ (fun e => h1 e.symm)]
    by_cases h2 : j = i
    · subst h2; rw [if_pos rfl, set_same _ hi]
    · rw [if_neg h2, set_ne _ (fun e => h2 e.symm)]

theorem PC.swp {V : Hp} (h : PC V) {i p : Nat} (hi : i < V.items.length) (hp : p < V.items.length) (hne : i ≠ p) : PC (V.swp i p) := by
  obtain ⟨l1, l2, _⟩ := swp_len V i p
  have ri := h.rng i hi
  have rp := h.rng p hp
  have hab : V.items[i]! ≠ V.items[p]! := fun e => hne (h.inj hi hp e)
  have hat : ∀ x : Nat, (V.swp i p).at_[x]! = if x = (V.items[i]!).toNat then (p : Int) else if x = (V.items[p]!).toNat then (i : Int) else V.at_[x]! := by
    intro x
    simp only [Hp.swp, Hp.put]
    by_cases h1 : x = (V.items[i]!).toNat
    · subst h1; rw [if_pos rfl, set_same _ (by simp only [List.length_set]; omega)]
    · rw [if_neg h1, set_ne _ (fun e => h1 e.symm)]
      by_cases h2 : x = (V.items[p]!).toNat
      · subst h2; rw [if_pos rfl, set_same _ (by omega)]
      · rw [if_neg h2, set_ne _ (fun e => h2 e.symm)]
  refine ⟨fun j hj => ?_, fun j hj => ?_, fun x hx h0 => ?_⟩
  · rw [l1] at hj
    rw [swp_items V hi hp, l2]
    split
    · exact ri
    · split
      · exact rp
      · exact h.rng j hj
  · rw [l1] at hj
    rw [swp_items V hi hp, hat]
    by_cases h1 : j = p
    · subst h1; simp
    · by_cases h2 : j = i
      · subst h2
        rw [if_neg h1, if_pos rfl, if_neg (by omega), if_pos rfl]
      · have rj := h.rng j hj
        have e1 : V.items[j]! ≠ V.items[i]! := fun e => h2 (h.inj hj hi e)
        have e2 : V.items[j]! ≠ V.items[p]! := fun e => h1 (h.inj hj hp e)
        rw [if_neg h1, if_neg h2, if_neg (by omega), if_neg (by omega)]
        exact h.pos j hj
  · rw [l2] at hx
    rw [hat] at h0 ⊢
    by_cases h1 : x = (V.items[i]!).toNat
    · rw [if_pos h1, swp_items V hi hp, l1]
      simp only [Int.toNat_natCast, if_true]
      exact ⟨hp, by omega⟩
    · by_cases h2 : x = (V.items[p]!).toNat
      · rw [if_neg h1, if_pos h2, swp_items V hi hp, l1]
        simp only [Int.toNat_natCast, if_true]
        rw [if_neg hne]
        exact ⟨hi, by omega⟩
      · rw [if_neg h1, if_neg h2] at h0 ⊢
        obtain ⟨k1, k2⟩ := h.inv x hx h0
        rw [swp_items V hi hp, l1]
        refine ⟨k1, ?_⟩
        rw [if_neg, if_neg, k2]
        · intro e; rw [e] at k2; omega
        · intro e; rw [e] at k2; omega

theorem put_self {V : Hp} (h : PC V) {i : Nat} (hi : i < V.items.length) : V.put (i : Int) V.items[i]! = V := by
  have e1 : V.items.set i V.items[i]! = V.items := by
    apply List.ext_getElem?
    intro j
    rw [List.getElem?_set]
    by_cases hj : i = j
    · subst hj; simp [hi]
    · simp [hj]
  have e2 : V.at_.set (V.items[i]!).toNat (i : Int) = V.at_ := by
    have hp := h.pos i hi
    have r := h.rng i hi
    apply List.ext_getElem?
    intro j
    rw [List.getElem?_set]
    by_cases hj : (V.items[i]!).toNat = j
    · rw [if_pos hj, if_pos (by omega), ← hj, ← hp]
      rw [List.getElem!_eq_getElem?_getD, List.getElem?_eq_getElem (by omega : (V.items[i]!).toNat < V.at_.length)]
      rfl
    · rw [if_neg hj]
  show Hp.mk (V.items.set (i : Int).toNat V.items[i]!) (V.at_.set (V.items[i]!).toNat (i : Int)) V.score = V
  rw [Int.toNat_natCast, e1, e2]

theorem put_put {K : Hp} {i p : Nat} {x y : Int} (hxy : x.toNat ≠ y.toNat) : ((K.put (i : Int) x).put (i : Int) y).put (p : Int) x = (K.put (i : Int) y).put (p : Int) x := by
  simp only [Hp.put, Int.toNat_natCast, List.set_set, Hp.mk.injEq, and_true, true_and]
  rw [List.set_comm _ _ hxy, List.set_set]

/-! ### ahead is an order -/
theorem ahead_def {V : Hp} {x y : Int} : V.aheadB x y = true ↔ (V.sc y < V.sc x ∨ (V.sc x = V.sc y ∧ x < y)) := by simp [Hp.aheadB]
theorem ahead_irr {V : Hp} {x y : Int} (h : V.aheadB x y = true) : V.aheadB y x = false := by
  cases hh : V.aheadB y x with
  | false => rfl
  | true => rw [ahead_def] at h hh; omega
theorem ahead_trans {V : Hp} {x y z : Int} (h : V.aheadB x y = true) (k : V.aheadB y z = true) : V.aheadB x z = true := by rw [ahead_def] at *; omega
theorem not_ahead_trans {V : Hp} {x y z : Int} (h : V.aheadB x y = false) (k : V.aheadB y z = false) : V.aheadB x z = false := by
  cases hh : V.aheadB x z with
  | false => rfl
  | true =>
    rw [ahead_def] at hh
    have h1 : ¬ (V.sc y < V.sc x ∨ (V.sc x = V.sc y ∧ x < y)) := fun e => by rw [← ahead_def, h] at e; cases e
    have h2 : ¬ (V.sc z < V.sc y ∨ (V.sc y = V.sc z ∧ y < z)) := fun e => by rw [← ahead_def, k] at e; cases e
    omega
theorem ahead_self {V : Hp} {x : Int} : V.aheadB x x = false := by
  cases hh : V.aheadB x x with
  | false => rfl
  | true => rw [ahead_def] at hh; omega
theorem ahead_score {V W : Hp} (h : V.score = W.score) (x y : Int) : V.aheadB x y = W.aheadB x y := by simp [Hp.aheadB, Hp.sc, h]

/-! ### up -/
structure OrdU (V : Hp) (i : Nat) : Prop where
  all : ∀ j : Nat, 0 < j → j < V.items.length → j ≠ i → V.aheadB V.items[j]! V.items[(j - 1) / 2]! = false
  over : ∀ j : Nat, 0 < j → j < V.items.length → (j - 1) / 2 = i → 0 < i → V.aheadB V.items[j]! V.items[(i - 1) / 2]! = false
def Ord (V : Hp) : Prop := ∀ j : Nat, 0 < j → j < V.items.length → V.aheadB V.items[j]! V.items[(j - 1) / 2]! = false

theorem OrdU.step {V : Hp} {i : Nat} (h : OrdU V i) (hi0 : 0 < i) (hi : i < V.items.length) (ha : V.aheadB V.items[i]! V.items[(i - 1) / 2]! = true) : OrdU (V.swp i ((i - 1) / 2)) ((i - 1) / 2) := by
  have hp : (i - 1) / 2 < V.items.length := by omega
  have hne : i ≠ (i - 1) / 2 := by omega
  obtain ⟨l1, _, l3⟩ := swp_len V i ((i - 1) / 2)
  refine ⟨fun j h0 hj hjp => ?_, fun j h0 hj hjp hp0 => ?_⟩
  · rw [l1] at hj
    rw [ahead_score l3, swp_items V hi hp, swp_items V hi hp, if_neg hjp]
    by_cases e1 : j = i
    · subst e1
      rw [if_pos rfl, if_pos rfl]
      exact ahead_irr ha
    · rw [if_neg e1]
      by_cases e2 : (j - 1) / 2 = (i - 1) / 2
      · rw [if_pos e2]
        have h1 := h.all j h0 hj e1
        rw [e2] at h1
        cases hh : V.aheadB V.items[j]! V.items[i]! with
        | false => rfl
        | true => rw [ahead_trans hh ha] at h1; cases h1
      · rw [if_neg e2]
        by_cases e3 : (j - 1) / 2 = i
        · rw [if_pos e3]; exact h.over j h0 hj e3 hi0
        · rw [if_neg e3]; exact h.all j h0 hj e1
  · rw [l1] at hj
    rw [ahead_score l3, swp_items V hi hp, swp_items V hi hp]
    have hq := h.all ((i - 1) / 2) hp0 hp (fun e => hne e.symm)
    rw [if_neg (by omega : ¬ j = (i - 1) / 2), if_neg (by omega : ¬ ((i - 1) / 2 - 1) / 2 = (i - 1) / 2), if_neg (by omega : ¬ ((i - 1) / 2 - 1) / 2 = i)]
    by_cases e1 : j = i
    · rw [if_pos e1]; exact hq
    · rw [if_neg e1]
      have h1 := h.all j h0 hj e1
      rw [hjp] at h1
      exact not_ahead_trans h1 hq

def Hp.upS : Nat → Hp → Nat → Hp
  | 0, V, _ => V
  | f + 1, V, i => if 0 < i ∧ V.aheadB V.items[i]! V.items[(i - 1) / 2]! = true then Hp.upS f (V.swp i ((i - 1) / 2)) ((i - 1) / 2) else V

theorem it_nat (V : Hp) (j : Nat) : V.it (j : Int) = V.items[j]! := by simp [Hp.it]

/-- The code's walk up is the walk of exchanges. -/
theorem upF_upS (x : Int) : ∀ (f : Nat) (K : Hp) (i : Nat), i < K.items.length → i < f → PC (K.put (i : Int) x) → Hp.upF x f K i = Hp.upS f (K.put (i : Int) x) i := by
  intro f
  induction f with
  | zero => intro K i _ h _; omega
  | succ f ih =>
    intro K i hi hf hP
    simp only [Hp.upF, Hp.upS]
    have e0 : (K.put (i : Int) x).items[i]! = x := by simp only [Hp.put, Int.toNat_natCast]; exact set_same x hi
    have es : ∀ a b, (K.put (i : Int) x).aheadB a b = K.aheadB a b := fun a b => ahead_score rfl a b
    by_cases h0 : 0 < i
    · have hne : i ≠ (i - 1) / 2 := by omega
      have e1 : (K.put (i : Int) x).items[(i - 1) / 2]! = K.items[(i - 1) / 2]! := by simp only [Hp.put, Int.toNat_natCast]; exact set_ne x hne
      rw [it_nat, e0, e1, es]
      by_cases ha : K.aheadB x K.items[(i - 1) / 2]! = true
      · rw [if_pos ⟨h0, ha⟩, if_pos ⟨h0, ha⟩]
        have hl : (i - 1) / 2 < (K.put (i : Int) x).items.length := by rw [Hp.put_items]; omega
        have hl' : i < (K.put (i : Int) x).items.length := by rw [Hp.put_items]; omega
        have rx := hP.rng i hl'
        have ry := hP.rng ((i - 1) / 2) hl
        have hxy : (K.put (i : Int) x).items[i]! ≠ (K.put (i : Int) x).items[(i - 1) / 2]! := fun e => hne (hP.inj hl' hl e)
        rw [e0] at rx hxy
        rw [e1] at ry hxy
        have e2 : (K.put (i : Int) x).swp i ((i - 1) / 2) = (K.put (i : Int) K.items[(i - 1) / 2]!).put (((i - 1) / 2 : Nat) : Int) x := by
          unfold Hp.swp
          rw [e0, e1]
          exact put_put (by omega)
        rw [e2]
        refine ih _ _ (by rw [Hp.put_items]; omega) (by omega) ?_
        rw [← e2]
        exact hP.swp hl' hl hne
      · rw [if_neg (fun h => ha h.2), if_neg (fun h => ha h.2)]
    · rw [if_neg (fun h => h0 h.1), if_neg (fun h => h0 h.1)]

/-- What up leaves. -/
theorem upS_ok : ∀ (f : Nat) (V : Hp) (i : Nat), i < V.items.length → i < f → PC V → OrdU V i →
    PC (Hp.upS f V i) ∧ Ord (Hp.upS f V i) ∧ (Hp.upS f V i).score = V.score ∧ (Hp.upS f V i).items.length = V.items.length ∧ (Hp.upS f V i).at_.length = V.at_.length ∧ (∀ y : Int, y ∈ (Hp.upS f V i).items ↔ y ∈ V.items) := by
  intro f
  induction f with
  | zero => intro V i _ h; omega
  | succ f ih =>
    intro V i hi hf hP hO
    simp only [Hp.upS]
    by_cases hc : 0 < i ∧ V.aheadB V.items[i]! V.items[(i - 1) / 2]! = true
    · rw [if_pos hc]
      obtain ⟨l1, l2, l3⟩ := swp_len V i ((i - 1) / 2)
      have hl : (i - 1) / 2 < V.items.length := by omega
      have := ih (V.swp i ((i - 1) / 2)) ((i - 1) / 2) (by rw [l1]; omega) (by omega) (hP.swp hi hl (by omega)) (hO.step hc.1 hi hc.2)
      obtain ⟨r1, r2, r3, r4, r5, r6⟩ := this
      refine ⟨r1, r2, by rw [r3, l3], by rw [r4, l1], by rw [r5, l2], fun y => (r6 y).trans ?_⟩
      constructor
      · intro hy
        obtain ⟨j, hj, rfl⟩ := List.mem_iff_getElem.1 hy
        rw [l1] at hj
        have e := swp_items V hi hl j
        rw [List.getElem!_eq_getElem?_getD, List.getElem?_eq_getElem (by rw [l1]; exact hj)] at e
        simp only [Option.getD_some] at e
        rw [e]
        split
        · exact mem_get hi
        · split
          · exact mem_get hl
          · exact mem_get hj
      · intro hy
        obtain ⟨j, hj, rfl⟩ := List.mem_iff_getElem.1 hy
        have e0 : V.items[j] = V.items[j]! := by simp [hj]
        rw [e0]
        by_cases e1 : j = i
        · subst e1
          have := swp_items V hi hl ((j - 1) / 2)
          rw [if_pos rfl] at this
          rw [← this]; exact mem_get (by rw [l1]; exact hl)
        · by_cases e2 : j = (i - 1) / 2
          · have := swp_items V hi hl i
            rw [if_neg (by omega), if_pos rfl] at this
            rw [e2, ← this]; exact mem_get (by rw [l1]; exact hi)
          · have := swp_items V hi hl j
            rw [if_neg e2, if_neg e1] at this
            rw [← this]; exact mem_get (by rw [l1]; exact hj)
    · rw [if_neg hc]
      refine ⟨hP, fun j h0 hj => ?_, rfl, rfl, rfl, fun _ => Iff.rfl⟩
      by_cases e : j = i
      · subst e
        cases hh : V.aheadB V.items[j]! V.items[(j - 1) / 2]! with
        | false => rfl
        | true => exact absurd ⟨h0, hh⟩ hc
      · exact hO.all j h0 hj e
where
  mem_get {l : List Int} {j : Nat} (h : j < l.length) : l[j]! ∈ l := by
    rw [List.getElem!_eq_getElem?_getD, List.getElem?_eq_getElem h]; exact List.getElem_mem h

end Go.Proofs.Ytnbpnpodpnlamaa
