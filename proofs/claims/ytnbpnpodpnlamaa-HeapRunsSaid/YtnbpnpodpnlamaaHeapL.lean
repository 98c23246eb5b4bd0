/- The heap's plain law, on: down; what Push, Pop, Raise, Grow leave. -/
import Derived.Test.YtnbpnpodpnlamaaHeapK
namespace Go.Proofs.Ytnbpnpodpnlamaa
open Go.RowKit

theorem swp_mem {V : Hp} {i p : Nat} (hi : i < V.items.length) (hp : p < V.items.length) (y : Int) : y ∈ (V.swp i p).items ↔ y ∈ V.items := by
  obtain ⟨l1, _, _⟩ := swp_len V i p
  constructor
  · intro hy
    obtain ⟨j, hj, rfl⟩ := List.mem_iff_getElem.1 hy
    rw [l1] at hj
    have e := swp_items V hi hp j
    rw [List.getElem!_eq_getElem?_getD, List.getElem?_eq_getElem (by rw [l1]; exact hj)] at e
    simp only [Option.getD_some] at e
    rw [e]
    split
    · exact upS_ok.mem_get hi
    · split
      · exact upS_ok.mem_get hp
      · exact upS_ok.mem_get hj
  · intro hy
    obtain ⟨j, hj, rfl⟩ := List.mem_iff_getElem.1 hy
    have e0 : V.items[j] = V.items[j]! := by simp [hj]
    rw [e0]
    by_cases e1 : j = i
    · subst e1
      have := swp_items V hi hp p
      rw [if_pos rfl] at this
      rw [← this]; exact upS_ok.mem_get (by rw [l1]; exact hp)
    · by_cases e2 : j = p
      · subst e2
        have := swp_items V hi hp i
        rw [if_neg (fun e => e1 e.symm), if_pos rfl] at this
        rw [← this]; exact upS_ok.mem_get (by rw [l1]; exact hi)
      · have := swp_items V hi hp j
        rw [if_neg e2, if_neg e1] at this
        rw [← this]; exact upS_ok.mem_get (by rw [l1]; exact hj)

/-! ### down -/
structure OrdD (V : Hp) (i : Nat) : Prop where
  all : ∀ j : Nat, 0 < j → j < V.items.length → (j - 1) / 2 ≠ i → V.aheadB V.items[j]! V.items[(j - 1) / 2]! = false
  over : ∀ j : Nat, 0 < j → j < V.items.length → (j - 1) / 2 = i → 0 < i → V.aheadB V.items[j]! V.items[(i - 1) / 2]! = false

theorem best_ok (V : Hp) {i : Nat} (hi : 2 * i + 1 < V.items.length) :
    V.bestBelow i < V.items.length ∧ (V.bestBelow i - 1) / 2 = i ∧ 0 < V.bestBelow i ∧ ∀ j : Nat, 0 < j → j < V.items.length → (j - 1) / 2 = i → V.aheadB V.items[j]! V.items[V.bestBelow i]! = false := by
  unfold Hp.bestBelow
  rw [it_nat, it_nat]
  by_cases h : 2 * i + 2 < V.items.length ∧ V.aheadB V.items[2 * i + 2]! V.items[2 * i + 1]! = true
  · rw [if_pos h]
    refine ⟨h.1, by omega, by omega, fun j h0 hj hp => ?_⟩
    rcases (by omega : j = 2 * i + 1 ∨ j = 2 * i + 2) with rfl | rfl
    · exact ahead_irr h.2
    · exact ahead_self
  · rw [if_neg h]
    refine ⟨hi, by omega, by omega, fun j h0 hj hp => ?_⟩
    rcases (by omega : j = 2 * i + 1 ∨ j = 2 * i + 2) with rfl | rfl
    · exact ahead_self
    · cases hh : V.aheadB V.items[2 * i + 2]! V.items[2 * i + 1]! with
      | false => rfl
      | true => exact absurd ⟨hj, hh⟩ h

theorem OrdD.step {V : Hp} {i : Nat} (h : OrdD V i) (hi : 2 * i + 1 < V.items.length) (ha : V.aheadB V.items[V.bestBelow i]! V.items[i]! = true) : OrdD (V.swp i (V.bestBelow i)) (V.bestBelow i) := by
  obtain ⟨hb, hbi, hb0, hbest⟩ := best_ok V hi
  generalize V.bestBelow i = b at hb hbi hb0 hbest ha
  have hii : i < V.items.length := by omega
  obtain ⟨l1, _, l3⟩ := swp_len V i b
  refine ⟨fun j h0 hj hjp => ?_, fun j h0 hj hjp hp0 => ?_⟩
  · rw [l1] at hj
    rw [ahead_score l3, swp_items V hii hb, swp_items V hii hb, if_neg hjp]
    by_cases e1 : j = b
    · subst e1
      rw [if_pos rfl, if_pos hbi]
      exact ahead_irr ha
    · rw [if_neg e1]
      by_cases e2 : (j - 1) / 2 = i
      · rw [if_pos e2, if_neg (by omega)]
        exact hbest j h0 hj e2
      · rw [if_neg e2]
        by_cases e3 : j = i
        · subst e3
          rw [if_pos rfl]
          exact h.over b hb0 hb hbi h0
        · rw [if_neg e3]; exact h.all j h0 hj e2
  · rw [l1] at hj
    rw [ahead_score l3, swp_items V hii hb, swp_items V hii hb, hbi]
    rw [if_neg (by omega : ¬ j = b), if_neg (by omega : ¬ j = i), if_neg (by omega : ¬ i = b), if_pos rfl]
    have := h.all j h0 hj (by omega)
    rw [hjp] at this
    exact this

def Hp.downS : Nat → Hp → Nat → Hp
  | 0, V, _ => V
  | f + 1, V, i => if 2 * i + 1 < V.items.length ∧ V.aheadB V.items[V.bestBelow i]! V.items[i]! = true then Hp.downS f (V.swp i (V.bestBelow i)) (V.bestBelow i) else V

theorem best_put (K : Hp) (i : Nat) (x : Int) : (K.put (i : Int) x).bestBelow i = K.bestBelow i := by
  unfold Hp.bestBelow
  rw [it_nat, it_nat, it_nat, it_nat, Hp.put_items]
  have e1 : (K.put (i : Int) x).items[2 * i + 2]! = K.items[2 * i + 2]! := by simp only [Hp.put, Int.toNat_natCast]; exact set_ne x (by omega)
  have e2 : (K.put (i : Int) x).items[2 * i + 1]! = K.items[2 * i + 1]! := by simp only [Hp.put, Int.toNat_natCast]; exact set_ne x (by omega)
  have es := ahead_score (V := K.put (i : Int) x) (W := K) rfl K.items[2 * i + 2]! K.items[2 * i + 1]!
  rw [e1, e2, es]

theorem downF_downS (x : Int) : ∀ (f : Nat) (K : Hp) (i : Nat), i < K.items.length → PC (K.put (i : Int) x) → Hp.downF x f K i = Hp.downS f (K.put (i : Int) x) i := by
  intro f
  induction f with
  | zero => intro K i _ _; rfl
  | succ f ih =>
    intro K i hi hP
    simp only [Hp.downF, Hp.downS]
    rw [best_put, Hp.put_items]
    have e0 : (K.put (i : Int) x).items[i]! = x := by simp only [Hp.put, Int.toNat_natCast]; exact set_same x hi
    have es : ∀ a b, (K.put (i : Int) x).aheadB a b = K.aheadB a b := fun a b => ahead_score rfl a b
    by_cases h0 : 2 * i + 1 < K.items.length
    · obtain ⟨hb, hbi, hb0, _⟩ := best_ok K h0
      generalize K.bestBelow i = b at hb hbi hb0
      have hne : i ≠ b := by omega
      have e1 : (K.put (i : Int) x).items[b]! = K.items[b]! := by simp only [Hp.put, Int.toNat_natCast]; exact set_ne x hne
      rw [it_nat, e0, e1, es]
      by_cases ha : K.aheadB K.items[b]! x = true
      · rw [if_pos ⟨h0, ha⟩, if_pos ⟨h0, ha⟩]
        have hl : b < (K.put (i : Int) x).items.length := by rw [Hp.put_items]; omega
        have hl' : i < (K.put (i : Int) x).items.length := by rw [Hp.put_items]; omega
        have rx := hP.rng i hl'
        have ry := hP.rng b hl
        have hxy : (K.put (i : Int) x).items[i]! ≠ (K.put (i : Int) x).items[b]! := fun e => hne (hP.inj hl' hl e)
        rw [e0] at rx hxy
        rw [e1] at ry hxy
        have e2 : (K.put (i : Int) x).swp i b = (K.put (i : Int) K.items[b]!).put (b : Int) x := by
          unfold Hp.swp
          rw [e0, e1]
          exact put_put (by omega)
        rw [e2]
        refine ih _ _ (by rw [Hp.put_items]; omega) ?_
        rw [← e2]
        exact hP.swp hl' hl hne
      · rw [if_neg (fun h => ha h.2), if_neg (fun h => ha h.2)]
    · rw [if_neg (fun h => h0 h.1), if_neg (fun h => h0 h.1)]

theorem downS_ok : ∀ (f : Nat) (V : Hp) (i : Nat), i < V.items.length → V.items.length ≤ i + f → PC V → OrdD V i →
    PC (Hp.downS f V i) ∧ Ord (Hp.downS f V i) ∧ (Hp.downS f V i).score = V.score ∧ (Hp.downS f V i).items.length = V.items.length ∧ (Hp.downS f V i).at_.length = V.at_.length ∧ (∀ y : Int, y ∈ (Hp.downS f V i).items ↔ y ∈ V.items) := by
  intro f
  induction f with
  | zero => intro V i _ h; omega
  | succ f ih =>
    intro V i hi hf hP hO
    simp only [Hp.downS]
    by_cases hc : 2 * i + 1 < V.items.length ∧ V.aheadB V.items[V.bestBelow i]! V.items[i]! = true
    · rw [if_pos hc]
      obtain ⟨hb, hbi, hb0, _⟩ := best_ok V hc.1
      obtain ⟨l1, l2, l3⟩ := swp_len V i (V.bestBelow i)
      have := ih (V.swp i (V.bestBelow i)) (V.bestBelow i) (by rw [l1]; omega) (by rw [l1]; omega) (hP.swp hi hb (by omega)) (hO.step hc.1 hc.2)
      obtain ⟨r1, r2, r3, r4, r5, r6⟩ := this
      exact ⟨r1, r2, by rw [r3, l3], by rw [r4, l1], by rw [r5, l2], fun y => (r6 y).trans (swp_mem hi hb y)⟩
    · rw [if_neg hc]
      refine ⟨hP, fun j h0 hj => ?_, rfl, rfl, rfl, fun _ => Iff.rfl⟩
      by_cases e : (j - 1) / 2 = i
      · have hi2 : 2 * i + 1 < V.items.length := by omega
        obtain ⟨_, _, _, hbest⟩ := best_ok V hi2
        have h2 : V.aheadB V.items[V.bestBelow i]! V.items[i]! = false := by
          cases hh : V.aheadB V.items[V.bestBelow i]! V.items[i]! with
          | false => rfl
          | true => exact absurd ⟨hi2, hh⟩ hc
        rw [e]
        exact not_ahead_trans (hbest j h0 hj e) h2
      · exact hO.all j h0 hj e

/-! ### the root is the best -/
theorem Ord.root {V : Hp} (h : Ord V) : ∀ (n j : Nat), j ≤ n → j < V.items.length → V.aheadB V.items[j]! V.items[0]! = false := by
  intro n
  induction n with
  | zero =>
    intro j hj _
    obtain rfl : j = 0 := by omega
    exact ahead_self
  | succ n ih =>
    intro j hj hl
    by_cases h0 : j = 0
    · subst h0; exact ahead_self
    · exact not_ahead_trans (h j (by omega) hl) (ih ((j - 1) / 2) (by omega) (by omega))

/-! ### what is in it -/
theorem has_mem {V : Hp} (h : PC V) (y : Int) : V.hasB y = true ↔ y ∈ V.items := by
  constructor
  · intro hh
    simp only [Hp.hasB, Bool.and_eq_true, decide_eq_true_eq] at hh
    obtain ⟨h0, h1⟩ := Hp.isB_true hh.1
    obtain ⟨k1, k2⟩ := h.inv y.toNat (by omega) hh.2
    have e : ((y.toNat : Nat) : Int) = y := by omega
    rw [e] at k2
    rw [← k2]
    exact upS_ok.mem_get k1
  · intro hy
    obtain ⟨j, hj, e⟩ := List.mem_iff_getElem.1 hy
    have e0 : V.items[j]! = y := by rw [← e]; simp [hj]
    have r := h.rng j hj
    have p := h.pos j hj
    rw [e0] at r p
    simp only [Hp.hasB, Bool.and_eq_true, decide_eq_true_eq, Hp.isB]
    exact ⟨⟨by omega, by omega⟩, by unfold Hp.pl; rw [p]; omega⟩

/-- The heap's invariant. -/
structure HI (H : Hp) : Prop where
  pc : PC H
  ord : Ord H
  same : H.at_.length = H.score.length
  sc0 : ∀ x : Nat, x < H.score.length → 0 ≤ H.score[x]!

theorem HI.push {H : Hp} (h : HI H) {x : Int} (hb : H.isB x = true) (hp : H.pl x < 0) :
    HI (H.pushF x) ∧ (H.pushF x).score = H.score ∧ (H.pushF x).items.length = H.items.length + 1 ∧ (H.pushF x).at_.length = H.at_.length ∧ ∀ y : Int, y ∈ (H.pushF x).items ↔ y ∈ H.items ∨ y = x := by
  obtain ⟨h0, h1⟩ := Hp.isB_true hb
  have hx : x.toNat < H.at_.length := by omega
  have hni : ∀ j : Nat, j < H.items.length → H.items[j]! ≠ x := by
    intro j hj e
    have := h.pc.pos j hj
    rw [e] at this
    unfold Hp.pl at hp
    omega
  have gl : ∀ j : Nat, j < H.items.length → (H.items ++ [x])[j]! = H.items[j]! := fun j hj => by simp [List.getElem!_eq_getElem?_getD, List.getElem?_append_left hj]
  have gn : (H.items ++ [x])[H.items.length]! = x := by simp
  have hK : PC { H with items := H.items ++ [x], at_ := H.at_.set x.toNat H.items.length } := by
    refine ⟨fun j hj => ?_, fun j hj => ?_, fun y hy hy0 => ?_⟩
    · simp only [List.length_append, List.length_cons, List.length_nil] at hj
      simp only [List.length_set]
      by_cases e : j < H.items.length
      · rw [gl j e]; exact h.pc.rng j e
      · obtain rfl : j = H.items.length := by omega
        rw [gn]; exact ⟨h0, h1⟩
    · simp only [List.length_append, List.length_cons, List.length_nil] at hj
      by_cases e : j < H.items.length
      · show (H.at_.set x.toNat (H.items.length : Int))[((H.items ++ [x])[j]!).toNat]! = j
        rw [gl j e]
        have r := h.pc.rng j e
        have := hni j e
        rw [set_ne _ (by omega)]
        exact h.pc.pos j e
      · obtain rfl : j = H.items.length := by omega
        show (H.at_.set x.toNat (H.items.length : Int))[((H.items ++ [x])[H.items.length]!).toNat]! = _
        rw [gn, set_same _ hx]
    · simp only [List.length_set] at hy
      show ((H.at_.set x.toNat (H.items.length : Int))[y]!).toNat < (H.items ++ [x]).length ∧ (H.items ++ [x])[((H.at_.set x.toNat (H.items.length : Int))[y]!).toNat]! = y
      by_cases e : x.toNat = y
      · subst e
        rw [set_same _ hx, Int.toNat_natCast, gn]
        exact ⟨by simp, by omega⟩
      · have hy0' : 0 ≤ H.at_[y]! := by
          have : 0 ≤ (H.at_.set x.toNat (H.items.length : Int))[y]! := hy0
          rwa [set_ne _ e] at this
        rw [set_ne _ e]
        obtain ⟨k1, k2⟩ := h.pc.inv y hy hy0'
        rw [gl _ k1]
        exact ⟨by rw [List.length_append]; exact Nat.lt_of_lt_of_le k1 (Nat.le_add_right _ _), k2⟩
  have hput : Hp.put { H with items := H.items ++ [x], at_ := H.at_.set x.toNat H.items.length } (H.items.length : Int) x = { H with items := H.items ++ [x], at_ := H.at_.set x.toNat H.items.length } := by
    have := put_self hK (i := H.items.length) (by simp)
    rwa [show ({ H with items := H.items ++ [x], at_ := H.at_.set x.toNat H.items.length } : Hp).items[H.items.length]! = x from gn] at this
  have hO : OrdU { H with items := H.items ++ [x], at_ := H.at_.set x.toNat H.items.length } H.items.length := by
    refine ⟨fun j hj0 hj hne => ?_, fun j hj0 hj hpj hi0 => ?_⟩
    · simp only [List.length_append, List.length_cons, List.length_nil] at hj
      show H.aheadB (H.items ++ [x])[j]! (H.items ++ [x])[(j - 1) / 2]! = false
      rw [gl j (by omega), gl _ (by omega)]
      exact h.ord j hj0 (by omega)
    · simp only [List.length_append, List.length_cons, List.length_nil] at hj
      omega
  have e : H.pushF x = Hp.upS (H.items.length + 1) { H with items := H.items ++ [x], at_ := H.at_.set x.toNat H.items.length } H.items.length := by
    unfold Hp.pushF
    rw [upF_upS x _ _ _ (by simp) (by omega) (by rw [hput]; exact hK), hput]
  obtain ⟨r1, r2, r3, r4, r5, r6⟩ := upS_ok (H.items.length + 1) _ H.items.length (by simp) (by omega) hK hO
  rw [← e] at r1 r2 r3 r4 r5 r6
  refine ⟨⟨r1, r2, ?_, ?_⟩, r3, by rw [r4]; simp, by rw [r5]; simp, fun y => (r6 y).trans (by simp)⟩
  · rw [r5, r3]; simp [h.same]
  · rw [r3]; exact h.sc0

end Go.Proofs.Ytnbpnpodpnlamaa
