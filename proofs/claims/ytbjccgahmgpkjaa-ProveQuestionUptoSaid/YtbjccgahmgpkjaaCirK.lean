/- What the checker asks is what the reference asks: plain. -/
import Derived.Test.YtbjccgahmgpkjaaCirI
namespace Go.Proofs.Ytbjccgahmgpkjaa
open Go.RowKit
set_option linter.unusedVariables false

theorem pos_five {c : UInt8} (h : 0 ≤ posI c) : c = 105 ∨ c = 108 ∨ c = 111 ∨ c = 98 ∨ c = 99 := by
  by_cases e1 : c = 105
  · exact .inl e1
  · by_cases e2 : c = 108
    · exact .inr (.inl e2)
    · by_cases e3 : c = 111
      · exact .inr (.inr (.inl e3))
      · by_cases e4 : c = 98
        · exact .inr (.inr (.inr (.inl e4)))
        · by_cases e5 : c = 99
          · exact .inr (.inr (.inr (.inr e5)))
          · exfalso
            have n1 : ((105 : UInt8) == c) = false := by rw [beq_eq_false_iff_ne]; exact fun h => e1 h.symm
            have n2 : ((108 : UInt8) == c) = false := by rw [beq_eq_false_iff_ne]; exact fun h => e2 h.symm
            have n3 : ((111 : UInt8) == c) = false := by rw [beq_eq_false_iff_ne]; exact fun h => e3 h.symm
            have n4 : ((98 : UInt8) == c) = false := by rw [beq_eq_false_iff_ne]; exact fun h => e4 h.symm
            have n5 : ((99 : UInt8) == c) = false := by rw [beq_eq_false_iff_ne]; exact fun h => e5 h.symm
            simp [posI, Lib.indexByte, n1, n2, n3, n4, n5] at h

/-- Of one letter: the letter, or no kind. -/
theorem kind_cases (C : Pc) (k : ByteArray) : (∃ c, k = ⟨#[c]⟩ ∧ 0 ≤ posI c ∧ cntP C k = cnt C k ∧ rk k = posI c) ∨ (cnt C k = -1 ∧ ¬ ((k.size : Int) = 1 ∧ 0 ≤ posI (letter k))) := by
  by_cases h : (k.size : Int) = 1 ∧ 0 ≤ posI (letter k)
  · obtain ⟨c, hc⟩ := size1 h.1
    subst hc
    have hp : 0 ≤ posI c := h.2
    refine .inl ⟨c, rfl, hp, ?_, ?_⟩
    · rcases pos_five hp with rfl | rfl | rfl | rfl | rfl <;> simp [cntP, cnt]
    · rcases pos_five hp with rfl | rfl | rfl | rfl | rfl <;> simp [rk, posI, Lib.indexByte]
  · refine .inr ⟨?_, h⟩
    have ne : ∀ c : UInt8, 0 ≤ posI c → (k.toList == [c]) = false := fun c hc => by
      rw [beq_eq_false_iff_ne]
      intro e
      apply h
      rw [ByteArray.toList_eq] at e
      have hs : k = ⟨#[c]⟩ := by
        obtain ⟨⟨l⟩⟩ := k
        simp only at e
        rw [e]
      subst hs
      exact ⟨rfl, hc⟩
    have p1 : 0 ≤ posI 105 := by decide
    have p2 : 0 ≤ posI 108 := by decide
    have p3 : 0 ≤ posI 111 := by decide
    have p4 : 0 ≤ posI 98 := by decide
    have p5 : 0 ≤ posI 99 := by decide
    simp [cnt, ne 105 p1, ne 108 p2, ne 111 p3, ne 98 p4, ne 99 p5]

theorem one_name (C : Pc) (x : Nm) : oneB C x = nameB C x := by
  unfold oneB nameB headB textB
  rcases kind_cases C x.k with ⟨c, hk, hp, hc, _⟩ | ⟨hc, hn⟩
  · have h1 : decide ((x.k.size : Int) = 1) = true := by rw [hk]; rfl
    have h2 : decide (0 ≤ posI (letter x.k)) = true := by rw [hk]; exact decide_eq_true hp
    rw [h1, h2, hc]
    simp only [Bool.true_and, Bool.and_assoc]
  · have h1 : (decide ((x.k.size : Int) = 1) && decide (0 ≤ posI (letter x.k))) = false := by
      rw [Bool.eq_false_iff]
      intro h
      simp only [Bool.and_eq_true, decide_eq_true_eq] at h
      exact hn h
    rw [h1, hc]
    by_cases h0 : 0 ≤ x.i
    · rw [decide_eq_false (show ¬ x.i < -1 by omega)]
      simp
    · rw [decide_eq_false h0]
      simp

theorem cnt_le {C : Pc} (h1 : C.ins.length ≤ 64) (h2 : C.lat.length ≤ 64) (h3 : C.outs.length ≤ 64) (h4 : C.bads.length ≤ 64) (h5 : C.invs.length ≤ 64) (k : ByteArray) : cnt C k ≤ 64 := by
  unfold cnt
  split
  · omega
  · split
    · omega
    · split
      · omega
      · split
        · omega
        · split <;> omega

theorem name_parts {C : Pc} {x : Nm} (h : nameB C x = true) : ∃ c, x.k = ⟨#[c]⟩ ∧ 0 ≤ posI c ∧ rk x.k = posI c ∧ 0 ≤ x.i ∧ x.i < cnt C x.k := by
  simp only [nameB, headB, Bool.and_eq_true, decide_eq_true_eq] at h
  obtain ⟨⟨⟨⟨h0, h1⟩, _⟩, _⟩, _⟩ := h
  rcases kind_cases C x.k with ⟨c, hk, hp, _, hr⟩ | ⟨hc, _⟩
  · exact ⟨c, hk, hp, hr, h0, h1⟩
  · omega

theorem pair_rank {C : Pc} {y x : Nm} (hl : ∀ k, cnt C k ≤ 64) (hy : nameB C y = true) (hx : nameB C x = true) : (rankI y < rankI x ↔ pairBad y x = false) := by
  obtain ⟨c1, k1, p1, r1, i1, j1⟩ := name_parts hy
  obtain ⟨c2, k2, p2, r2, i2, j2⟩ := name_parts hx
  have l1 := hl y.k
  have l2 := hl x.k
  have e1 : letter y.k = c1 := by rw [k1]; rfl
  have e2 : letter x.k = c2 := by rw [k2]; rfl
  have ek : (y.k.toList == x.k.toList) = decide (posI c1 = posI c2) := by
    rw [k1, k2, toList1, toList1]
    rcases pos_five p1 with rfl | rfl | rfl | rfl | rfl <;> rcases pos_five p2 with rfl | rfl | rfl | rfl | rfl <;> decide
  unfold rankI pairBad
  rw [e1, e2, r1, r2, ek]
  simp only [Bool.or_eq_false_iff, Bool.and_eq_false_iff, decide_eq_false_iff_not]
  omega

theorem named_names {C : Pc} (hl : ∀ k, cnt C k ≤ 64) : NamedTo C C.nms.length ↔ namesB C = true := by
  rw [names_iff]
  constructor
  · intro h j hj
    obtain ⟨h1, h2⟩ := h j hj
    rw [one_name] at h1
    refine ⟨h1, fun h0 => ?_⟩
    have h3 := (h (j - 1) (by omega)).1
    rw [one_name] at h3
    exact (pair_rank hl h3 h1).1 (h2 h0)
  · intro h j hj
    obtain ⟨h1, h2⟩ := h j hj
    refine ⟨by rw [one_name]; exact h1, fun h0 => ?_⟩
    exact (pair_rank hl (h (j - 1) (by omega)).1 h1).2 (h2 h0)

theorem own_two {C : Pc} (h : ∀ j : Nat, j < (ownL C).length → ownB C (ownL C) j = true) {x : Int} (hx : x ∈ ownL C) : 2 ≤ x := by
  have := own_even (k := (ownL C).length) h (x := x) (by rw [List.take_length]; exact hx)
  exact this.1
theorem known_own (C : Pc) (h : ∀ x, x ∈ ownL C → 2 ≤ x) (v : Int) (hv : v ≠ 0) : knownB C v = true ↔ ∃ x ∈ ownL C, x / 2 = v := by
  unfold knownB
  rw [decide_eq_false hv]
  simp only [Bool.false_or, Bool.or_eq_true, List.any_eq_true]
  have hh : ∀ x, x ∈ ownL C → (hit v x = true ↔ x / 2 = v) := fun x hx => by
    have := h x hx
    simp [hit, show 0 ≤ x by omega]
  constructor
  · rintro ((⟨x, hx, e⟩ | ⟨x, hx, e⟩) | ⟨x, hx, e⟩)
    · have hm : x ∈ ownL C := by unfold ownL; simp [hx]
      exact ⟨x, hm, (hh x hm).1 e⟩
    · have hm : x.a ∈ ownL C := by unfold ownL; simp only [List.mem_append, List.mem_map]; exact .inl (.inr ⟨x, hx, rfl⟩)
      exact ⟨x.a, hm, (hh _ hm).1 e⟩
    · have hm : x.a ∈ ownL C := by unfold ownL; simp only [List.mem_append, List.mem_map]; exact .inr ⟨x, hx, rfl⟩
      exact ⟨x.a, hm, (hh _ hm).1 e⟩
  · rintro ⟨x, hm, e⟩
    have e' := (hh x hm).2 e
    unfold ownL at hm
    simp only [List.mem_append, List.mem_map] at hm
    rcases hm with (hx | ⟨y, hy, rfl⟩) | ⟨y, hy, rfl⟩
    · exact .inl (.inl ⟨x, hx, e'⟩)
    · exact .inl (.inr ⟨y, hy, e'⟩)
    · exact .inr ⟨y, hy, e'⟩

theorem kn_lit {C : Pc} {f : Int → List UInt8} (h : DefOk C) (hd : Dk f (ownL C)) {l : Int} (hr : R64 l) : knB f l = litB C l := by
  unfold knB litB
  by_cases h0 : 0 ≤ l
  · rw [decide_eq_true h0, Bool.true_and, Bool.true_and]
    by_cases h2 : l < 2
    · have e : l / 2 = 0 := by omega
      rw [decide_eq_true h2, e]
      simp [knownB]
    · rw [decide_eq_false h2, Bool.false_or]
      have hv : l / 2 ≠ 0 := by omega
      have hR : R64 (l / 2) := by unfold R64 at hr ⊢; omega
      have h3 := known_own C (fun x hx => own_two h.own hx) (l / 2) hv
      cases hk : knownB C (l / 2) with
      | true =>
        obtain ⟨x, hx, e⟩ := h3.1 hk
        have : (f (l / 2)).isEmpty = false := by
          rw [Bool.eq_false_iff]
          intro h5
          exact (hd _ hR).1 h5 x hx e
        rw [this]; rfl
      | false =>
        have : (f (l / 2)).isEmpty = true := by
          rw [hd _ hR]
          intro x hx e
          have := h3.2 ⟨x, hx, e⟩
          rw [hk] at this; cases this
        rw [this]; rfl
  · rw [decide_eq_false h0]; rfl

/-- What is asked behind defined. -/
structure ReB (C : Pc) : Prop where
  lat : ∀ j : Nat, j < C.lat.length → litB C (C.lat[j]!).b = true
  ands : ∀ j : Nat, j < C.ands.length → litB C (C.ands[j]!).b = true ∧ litB C (C.ands[j]!).c = true ∧ (C.ands[j]!).b < (C.ands[j]!).a ∧ (C.ands[j]!).c < (C.ands[j]!).a
  o : C.outs.all (litB C) = true
  b : C.bads.all (litB C) = true
  v : C.invs.all (litB C) = true
  n : NamedTo C C.nms.length
structure Lens (C : Pc) : Prop where
  m0 : 0 ≤ C.mx
  m1 : C.mx ≤ 2048
  i : C.ins.length ≤ 64
  l : C.lat.length ≤ 64
  o : C.outs.length ≤ 64
  b : C.bads.length ≤ 64
  v : C.invs.length ≤ 64
theorem Valid.lens {C : Pc} (h : Valid C) : Lens C := by
  have h1 := h.o
  have h2 := h.b
  have h3 := h.v
  simp only [allB, Bool.and_eq_true, decide_eq_true_eq] at h1 h2 h3
  exact ⟨h.m0, h.m1, h.i, h.l, by omega, by omega, by omega⟩
theorem Valid.defOk {C : Pc} (h : Valid C) : DefOk C := by
  refine ⟨h.own, fun j hj => ?_, fun j hj h0 => ?_⟩
  · have := h.lat j hj
    simp only [latB, Bool.and_eq_true] at this
    exact this.1
  · have := h.ands j hj
    simp only [andB, prv, if_neg (show ¬ j = 0 by omega), Bool.and_eq_true, decide_eq_true_eq] at this
    exact this.1.1.1.1
theorem Valid.reB {C : Pc} (h : Valid C) : ReB C := by
  have h1 := h.o
  have h2 := h.b
  have h3 := h.v
  have hL := h.lens
  simp only [allB, Bool.and_eq_true, decide_eq_true_eq] at h1 h2 h3
  refine ⟨fun j hj => ?_, fun j hj => ?_, h1.1, h2.1, h3.1, (named_names (fun k => cnt_le hL.i hL.l hL.o hL.b hL.v k)).2 h.n⟩
  · have := h.lat j hj
    simp only [latB, Bool.and_eq_true] at this
    exact this.2
  · have := h.ands j hj
    simp only [andB, Bool.and_eq_true, decide_eq_true_eq] at this
    exact ⟨this.1.2, this.2, this.1.1.1.2, this.1.1.2⟩
theorem valid_of {C : Pc} (hL : Lens C) (hd : DefOk C) (hr : ReB C) : Valid C := by
  refine ⟨hL.m0, hL.m1, hL.i, hL.l, (named_names (fun k => cnt_le hL.i hL.l hL.o hL.b hL.v k)).1 hr.n, fun j hj => ?_, fun j hj => ?_, hd.own, ?_, ?_, ?_⟩
  · simp only [latB, Bool.and_eq_true]
    exact ⟨hd.rst j hj, hr.lat j hj⟩
  · obtain ⟨h1, h2, h3, h4⟩ := hr.ands j hj
    by_cases h0 : j = 0
    · simp [andB, prv, h0] at h1 h2 h3 h4 ⊢
      subst h0
      exact ⟨⟨⟨h3, h4⟩, h1⟩, h2⟩
    · have h5 := hd.ris j hj (by omega)
      simp only [andB, prv, if_neg h0, Bool.and_eq_true, decide_eq_true_eq]
      exact ⟨⟨⟨⟨h5, h3⟩, h4⟩, h1⟩, h2⟩
  · have := hL.o; simp only [allB, hr.o, Bool.true_and, decide_eq_true_eq]; omega
  · have := hL.b; simp only [allB, hr.b, Bool.true_and, decide_eq_true_eq]; omega
  · have := hL.v; simp only [allB, hr.v, Bool.true_and, decide_eq_true_eq]; omega

end Go.Proofs.Ytbjccgahmgpkjaa
