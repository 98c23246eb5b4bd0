/- A region that draws its order, whose loads are taken first though a store of the region writes what they read: what the loads need (S) is asked only till that store (number k) comes up, and the store waits for each of them. -/
import Derived.Test.YtbjccgahmgpkjaaRows
import Derived.WalkKit
import Derived.OrdersHeld
import Derived.Deep.RegionHeld
namespace Go.Proofs.Ytbjccgahmgpkjaa
open Go

section
variable {P : Program} {ops : Array Oper} {Q : Exit → Act → World → Prop} {md : Region.Mode} {S : World → Prop} {k : Nat}

/-- S is asked for, as long as number k has not come up. -/
def Till (S : World → Prop) (k : Nat) (listed : Array Bool) (w : World) : Prop := listed.getD k false = true ∨ S w

def wpAnyC (P : Program) (md : Region.Mode) (ops : Array Oper) (Q : Exit → Act → World → Prop) (S : World → Prop) (k : Nat) : Nat → Array Bool → Act → World → Prop
  | 0, listed, a, w => Region.ready md ops listed = [] ∧ Q .normal a w
  | fuel + 1, listed, a, w =>
    (Region.ready md ops listed = [] → Q .normal a w) ∧
    ∀ i ∈ Region.ready md ops listed, wpOp P ops Q i (fun a' w' => Till S k (listed.setIfInBounds i true) w' ∧ wpAnyC P md ops Q S k fuel (listed.setIfInBounds i true) a' w') a w

theorem wpAny_of_C : ∀ (fuel : Nat) (listed : Array Bool) (a : Act) (w : World), wpAnyC P md ops Q S k fuel listed a w → wpAny P md ops Q fuel listed a w
  | 0, _, _, _, h => h
  | fuel + 1, _, _, _, h => ⟨h.1, fun i hi => wpOp_mono (fun a' w' h' => wpAny_of_C fuel _ a' w' h'.2) (h.2 i hi)⟩

/-- Nobody in C has come up, each but i waits for another one of C. -/
def Chain (md : Region.Mode) (ops : Array Oper) (C : List Nat) (i : Nat) (listed : Array Bool) : Prop :=
  ∀ x, x ∈ C → listed.getD x true = false ∧ (x = i ∨ ∃ y, y ∈ C ∧ ∃ ox e, ops[x]? = some ox ∧ e ∈ ox.after ∧ Region.binds md e = true ∧ e.on = y)

def chainB (md : Region.Mode) (ops : Array Oper) (C : List Nat) (i k : Nat) (listed : Array Bool) : Bool :=
  C.contains k && C.all fun x => !listed.getD x true && (x == i || C.any fun y => match ops[x]? with | some ox => ox.after.any (fun e => Region.binds md e && e.on == y) | none => false)

theorem chain_of {C : List Nat} {i : Nat} {listed : Array Bool} (h : chainB md ops C i k listed = true) : k ∈ C ∧ Chain md ops C i listed := by
  unfold chainB at h
  rw [Bool.and_eq_true] at h
  refine ⟨by simpa using h.1, fun x hx => ?_⟩
  have := List.all_eq_true.1 h.2 x hx
  rw [Bool.and_eq_true] at this
  refine ⟨by simpa using this.1, ?_⟩
  rcases Bool.or_eq_true_iff.1 this.2 with h1 | h1
  · exact .inl (by simpa using h1)
  · right
    obtain ⟨y, hy, h2⟩ := List.any_eq_true.1 h1
    cases hox : ops[x]? with
    | none => rw [hox] at h2; cases h2
    | some ox =>
      rw [hox] at h2
      obtain ⟨e, he, hb⟩ := Array.any_eq_true'.1 h2
      simp only [Bool.and_eq_true, beq_iff_eq] at hb
      exact ⟨y, hy, ox, e, rfl, he, hb.1, hb.2⟩

theorem Chain.not_ready {C : List Nat} {i j : Nat} {listed : Array Bool} (h : Chain md ops C i listed) (hj : j ∈ C) (hji : j ≠ i) : j ∉ Region.ready md ops listed := by
  intro hr
  obtain ⟨_, hw⟩ := h j hj
  obtain ⟨_, oj, hoj, hall⟩ := mem_ready.1 hr
  rcases hw with hw | ⟨y, hy, ox, e, hox, he, hb, hon⟩
  · exact hji hw
  · rw [hoj] at hox
    cases hox
    have h1 := hall e he hb
    have h2 := (h y hy).1
    rw [hon] at h1
    rcases Nat.lt_or_ge y listed.size with hl | hl
    · simp [hl] at h1 h2; rw [h2] at h1; cases h1
    · simp [Array.getElem?_eq_none hl] at h2

theorem Chain.step {C : List Nat} {i j : Nat} {listed : Array Bool} (h : Chain md ops C i listed) (hj : j ∉ C) : Chain md ops C i (listed.setIfInBounds j true) := by
  intro x hx
  obtain ⟨h1, h2⟩ := h x hx
  refine ⟨?_, h2⟩
  have hne : j ≠ x := by rintro rfl; exact hj hx
  rw [getD_set_ne true hne]
  exact h1

theorem Chain.k_not {C : List Nat} {i : Nat} {listed : Array Bool} (h : Chain md ops C i listed) (hk : k ∈ C) : listed.getD k false = false := by
  have := (h k hk).1
  rcases Nat.lt_or_ge k listed.size with hl | hl
  · simp [hl] at this ⊢; exact this
  · simp [Array.getElem?_eq_none hl] at this

theorem wpAnyC_first {i : Nat} {oi : Oper} {v : Value} {C : List Nat} (hi : ops[i]? = some oi) (hsel : ∀ (j : Nat) (o : Oper) cs b, ops[j]? = some o → o.op ≠ .select cs b)
    (hki : k ≠ i) (hkC : k ∈ C) (hQ : ∀ c a w, Q (.panic c) (a.put oi.dst v) w → Q (.panic c) a w) :
    ∀ (fuel : Nat) (listed : Array Bool) (a : Act) (w : World),
      (∀ j oj, ops[j]? = some oj → j ≠ i → listed.getD j true = false → (∀ e ∈ oj.after, Region.binds md e = true → e.on ≠ i) → oi.apart ops oj = true) →
      Chain md ops C i listed → i ∈ Region.ready md ops listed → YieldsIf P ops S oi v a → S w →
      wpAnyC P md ops Q S k fuel (listed.setIfInBounds i true) (a.put oi.dst v) w → wpAnyC P md ops Q S k (fuel + 1) listed a w := by
  intro fuel
  induction fuel with
  | zero =>
    intro listed a w _ _ hr hy hS H
    refine ⟨fun h => (by rw [h] at hr; cases hr), fun j hj => ?_⟩
    by_cases hji : j = i
    · subst hji; exact hy.wpOp hi hS ⟨.inr hS, H⟩
    · have := ready_mono hj hji
      rw [H.1] at this
      cases this
  | succ fuel ih =>
    intro listed a w hfree hch hr hy hS H
    refine ⟨fun h => (by rw [h] at hr; cases hr), fun j hj => ?_⟩
    by_cases hji : j = i
    · subst hji; exact hy.wpOp hi hS ⟨.inr hS, H⟩
    · have h1 := H.2 j (ready_mono hj hji)
      have hjC : j ∉ C := fun hC => hch.not_ready hC hji hj
      obtain ⟨hjun, oj, hoj, hall⟩ := mem_ready.1 hj
      have hnot : ∀ e ∈ oj.after, Region.binds md e = true → e.on ≠ i := fun e he hb heq => by
        have h1 := hall e he hb
        have h0 := (mem_ready.1 hr).1
        rw [heq] at h1
        rcases Nat.lt_or_ge i listed.size with h' | h'
        · simp [h'] at h0 h1; rw [h0] at h1; cases h1
        · simp [Array.getElem?_eq_none h'] at h1
      have h2 := wpOp_putIf hoj (hfree j oj hoj hji hjun hnot) (fun cs b => hsel i oi cs b hi) (fun cs b => hsel j oj cs b hoj) hQ hy h1
      have hfree' : ∀ x ox, ops[x]? = some ox → x ≠ i → (listed.setIfInBounds j true).getD x true = false →
          (∀ e ∈ ox.after, Region.binds md e = true → e.on ≠ i) → oi.apart ops ox = true := fun x ox hx hxi hun hno => by
        refine hfree x ox hx hxi ?_ hno
        by_cases hjx : j = x
        · subst hjx; exact hjun
        · rw [getD_set_ne true hjx] at hun; exact hun
      have hch' := hch.step hjC
      refine wpOp_mono (fun a' w' h3 => ?_) h2
      have hS' : S w' := by
        rcases h3.2.1 with h4 | h4
        · have h5 := hch'.k_not hkC
          rw [Array.setIfInBounds_comm _ _ (Ne.symm hji), getD_set_ne false (Ne.symm hki), h5] at h4
          cases h4
        · exact h4
      refine ⟨.inr hS', ih (listed.setIfInBounds j true) a' w' hfree' hch' (ready_mono hr (Ne.symm hji)) h3.1 hS' ?_⟩
      rw [Array.setIfInBounds_comm _ _ hji]
      exact h3.2.2

theorem wpAnyC_take {i : Nat} {oi : Oper} {v : Value} {fuel : Nat} {listed : Array Bool} {a : Act} {w : World} (C : List Nat) (hi : ops[i]? = some oi)
    (hs : Region.noSelect ops = true) (hf : Region.free md ops listed i = true) (hr : (Region.ready md ops listed).contains i = true) (hc : (chainB md ops C i k listed && k != i) = true)
    (hQ : ∀ c a w, Q (.panic c) (a.put oi.dst v) w → Q (.panic c) a w) (hy : YieldsIf P ops S oi v a) (hS : S w)
    (h : wpAnyC P md ops Q S k fuel (listed.setIfInBounds i true) (a.put oi.dst v) w) : wpAnyC P md ops Q S k (fuel + 1) listed a w := by
  rw [Bool.and_eq_true] at hc
  obtain ⟨hkC, hch⟩ := chain_of hc.1
  exact wpAnyC_first hi (Region.noSelect_spec hs) (by simpa using hc.2) hkC hQ fuel listed a w (Region.free_spec hi hf) hch (by simpa using hr) hy hS h

theorem Till.more {listed : Array Bool} {w : World} (i : Nat) (h : Till S k listed w) : Till S k (listed.setIfInBounds i true) w :=
  h.imp (fun h => getD_set_true h) id
theorem Till.less {listed : Array Bool} {w : World} {i j : Nat} (hki : k ≠ i) (h : Till S k ((listed.setIfInBounds i true).setIfInBounds j true) w) (hji : j ≠ i) : Till S k (listed.setIfInBounds j true) w := by
  rcases h with h | h
  · rw [Array.setIfInBounds_comm _ _ (Ne.symm hji), getD_set_ne false (Ne.symm hki)] at h
    exact .inl h
  · exact .inr h

theorem wpAnyC_first0 {i : Nat} {oi : Oper} {v : Value} (hi : ops[i]? = some oi) (hsel : ∀ (j : Nat) (o : Oper) cs b, ops[j]? = some o → o.op ≠ .select cs b)
    (hki : k ≠ i) (hQ : ∀ c a w, Q (.panic c) (a.put oi.dst v) w → Q (.panic c) a w) :
    ∀ (fuel : Nat) (listed : Array Bool) (a : Act) (w : World),
      (∀ j oj, ops[j]? = some oj → j ≠ i → listed.getD j true = false → (∀ e ∈ oj.after, Region.binds md e = true → e.on ≠ i) → oi.apart ops oj = true) →
      i ∈ Region.ready md ops listed → YieldsIf P ops (fun _ => True) oi v a → Till S k listed w →
      wpAnyC P md ops Q S k fuel (listed.setIfInBounds i true) (a.put oi.dst v) w → wpAnyC P md ops Q S k (fuel + 1) listed a w := by
  intro fuel
  induction fuel with
  | zero =>
    intro listed a w _ hr hy hS H
    refine ⟨fun h => (by rw [h] at hr; cases hr), fun j hj => ?_⟩
    by_cases hji : j = i
    · subst hji; exact hy.wpOp hi trivial ⟨hS.more j, H⟩
    · have := ready_mono hj hji
      rw [H.1] at this
      cases this
  | succ fuel ih =>
    intro listed a w hfree hr hy hS H
    refine ⟨fun h => (by rw [h] at hr; cases hr), fun j hj => ?_⟩
    by_cases hji : j = i
    · subst hji; exact hy.wpOp hi trivial ⟨hS.more j, H⟩
    · have h1 := H.2 j (ready_mono hj hji)
      obtain ⟨hjun, oj, hoj, hall⟩ := mem_ready.1 hj
      have hnot : ∀ e ∈ oj.after, Region.binds md e = true → e.on ≠ i := fun e he hb heq => by
        have h1 := hall e he hb
        have h0 := (mem_ready.1 hr).1
        rw [heq] at h1
        rcases Nat.lt_or_ge i listed.size with h' | h'
        · simp [h'] at h0 h1; rw [h0] at h1; cases h1
        · simp [Array.getElem?_eq_none h'] at h1
      have h2 := wpOp_putIf hoj (hfree j oj hoj hji hjun hnot) (fun cs b => hsel i oi cs b hi) (fun cs b => hsel j oj cs b hoj) hQ hy h1
      have hfree' : ∀ x ox, ops[x]? = some ox → x ≠ i → (listed.setIfInBounds j true).getD x true = false →
          (∀ e ∈ ox.after, Region.binds md e = true → e.on ≠ i) → oi.apart ops ox = true := fun x ox hx hxi hun hno => by
        refine hfree x ox hx hxi ?_ hno
        by_cases hjx : j = x
        · subst hjx; exact hjun
        · rw [getD_set_ne true hjx] at hun; exact hun
      refine wpOp_mono (fun a' w' h3 => ?_) h2
      have hT := h3.2.1.less hki hji
      refine ⟨hT, ih (listed.setIfInBounds j true) a' w' hfree' (ready_mono hr (Ne.symm hji)) h3.1 hT ?_⟩
      rw [Array.setIfInBounds_comm _ _ hji]
      exact h3.2.2

theorem wpAnyC_take0 {i : Nat} {oi : Oper} {v : Value} {fuel : Nat} {listed : Array Bool} {a : Act} {w : World} (hi : ops[i]? = some oi)
    (hs : Region.noSelect ops = true) (hf : Region.free md ops listed i = true) (hr : (Region.ready md ops listed).contains i = true) (hc : (k != i) = true)
    (hQ : ∀ c a w, Q (.panic c) (a.put oi.dst v) w → Q (.panic c) a w) (hw : Region.wanted oi (yielded ops a.tmps) = true) (hy : ∀ w, (execOp a.eval oi).run P w = .ok (.value v) w) (hS : Till S k listed w)
    (h : wpAnyC P md ops Q S k fuel (listed.setIfInBounds i true) (a.put oi.dst v) w) : wpAnyC P md ops Q S k (fuel + 1) listed a w :=
  wpAnyC_first0 hi (Region.noSelect_spec hs) (by simpa using hc) hQ fuel listed a w (Region.free_spec hi hf) (by simpa using hr) (.inl ⟨hw, fun w _ => hy w⟩) hS h

/-- Whichever of these comes up. -/
def ReadyC (P : Program) (md : Region.Mode) (ops : Array Oper) (Q : Exit → Act → World → Prop) (S : World → Prop) (k fuel : Nat) (listed : Array Bool) (a : Act) (w : World) (rs : List Nat) : Prop :=
  ∀ i ∈ rs, wpOp P ops Q i (fun a' w' => Till S k (listed.setIfInBounds i true) w' ∧ wpAnyC P md ops Q S k fuel (listed.setIfInBounds i true) a' w') a w

theorem wpAnyC_ready {rs : List Nat} {fuel : Nat} {listed : Array Bool} {a : Act} {w : World} (hr : Region.ready md ops listed = rs) (hne : rs ≠ [])
    (h : ReadyC P md ops Q S k fuel listed a w rs) : wpAnyC P md ops Q S k (fuel + 1) listed a w :=
  ⟨fun h0 => absurd (hr ▸ h0) hne, hr ▸ h⟩
theorem ReadyC.nil {fuel : Nat} {listed : Array Bool} {a : Act} {w : World} : ReadyC P md ops Q S k fuel listed a w [] := fun _ h => by cases h
theorem ReadyC.cons {fuel : Nat} {listed : Array Bool} {a : Act} {w : World} {i : Nat} {o : Oper} {rs : List Nat} (ho : ops[i]? = some o)
    (h : ∀ K' : Act → World → Prop, Shut (∀ a w, Till S k (listed.setIfInBounds i true) w → (Till S k (listed.setIfInBounds i true) w → wpAnyC P md ops Q S k fuel (listed.setIfInBounds i true) a w) → K' a w) →
      if Region.wanted o (yielded ops a.tmps) = true then Oper.wp P o a w K' Q else K' (a.put o.dst undef) w)
    (hs : ReadyC P md ops Q S k fuel listed a w rs) : ReadyC P md ops Q S k fuel listed a w (i :: rs) := by
  intro j hj
  rcases List.mem_cons.1 hj with rfl | hj
  · unfold wpOp
    simp only [ho]
    have := h (fun a' w' => Till S k (listed.setIfInBounds j true) w' ∧ wpAnyC P md ops Q S k fuel (listed.setIfInBounds j true) a' w') (fun a w h1 h2 => ⟨h1, h2 h1⟩)
    split
    · rename_i hw; rw [if_pos hw] at this; exact .inl this
    · rename_i hw; rw [if_neg hw] at this; exact this
  · exact hs j hj

theorem wpAnyC_done {listed : Array Bool} {a : Act} {w : World} (hr : Region.ready md ops listed = []) (h : Q .normal a w) :
    ∀ fuel, wpAnyC P md ops Q S k fuel listed a w
  | 0 => ⟨hr, h⟩
  | _ + 1 => ⟨fun _ => h, by rw [hr]; simp⟩

/-- The beginning. -/
theorem wp_region_C {id : Nat} {a : Act} {w : World} (S : World → Prop) (k : Nat) (hm : P.follows .mixedOrders = true) (hS : S w.drew)
    (h : Till S k (Array.replicate ops.size false) w.drew → wpAnyC P .any ops Q S k ops.size (Array.replicate ops.size false) a w.drew) : (Code.region id ops true).wp P Q a w :=
  wp_region_any hm (wpAny_of_C _ _ _ _ (h (.inr hS)))
end

end Go.Proofs.Ytbjccgahmgpkjaa
