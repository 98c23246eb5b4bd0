/- The heap's plain law, on: Pop, Raise, Grow. -/
import Derived.Test.YtnbpnpodpnlamaaHeapL
import Derived.Test.YtnbpnpodpnlamaaHeapJ
namespace Go.Proofs.Ytnbpnpodpnlamaa
open Go.RowKit

theorem take_get (l : List Int) {n j : Nat} (h : j < n) : (l.take n)[j]! = l[j]! := by
  simp only [List.getElem!_eq_getElem?_getD, List.getElem?_take]
  rw [if_pos h]

theorem HI.root {H : Hp} (h : HI H) (h0 : 0 < H.items.length) : H.it 0 ∈ H.items ∧ ∀ y : Int, y ∈ H.items → H.aheadB y (H.it 0) = false := by
  have e : H.it 0 = H.items[0]! := it_nat H 0
  rw [e]
  refine ⟨upS_ok.mem_get h0, fun y hy => ?_⟩
  obtain ⟨j, hj, rfl⟩ := List.mem_iff_getElem.1 hy
  have e0 : H.items[j] = H.items[j]! := by simp [hj]
  rw [e0]
  exact h.ord.root j j (Nat.le_refl _) hj

theorem HI.pop {H : Hp} (h : HI H) (h0 : 0 < H.items.length) :
    HI H.popF ∧ H.popF.score = H.score ∧ H.popF.items.length = H.items.length - 1 ∧ H.popF.at_.length = H.at_.length ∧ ∀ y : Int, y ∈ H.popF.items ↔ y ∈ H.items ∧ y ≠ H.it 0 := by
  obtain ⟨n, hn⟩ : ∃ n, H.items.length = n + 1 := ⟨H.items.length - 1, by omega⟩
  have er : H.it 0 = H.items[0]! := it_nat H 0
  have el : H.it (n : Int) = H.items[n]! := it_nat H n
  have r0 := h.pc.rng 0 h0
  have rn := h.pc.rng n (by omega)
  have tl : (H.items.take n).length = n := by simp; omega
  by_cases hz : n = 0
  · subst hz
    have e : H.popF = { H with items := H.items.take 0, at_ := H.at_.set (H.items[0]!).toNat (-1) } := by
      unfold Hp.popF
      rw [hn, er]
      simp
    rw [e]
    refine ⟨⟨⟨fun j hj => ?_, fun j hj => ?_, fun y hy hy0 => ?_⟩, fun j _ hj => ?_, by simpa using h.same, h.sc0⟩, rfl, by simp [hn], by simp, fun y => ?_⟩
    · simp at hj
    · simp at hj
    · exfalso
      simp only [List.length_set] at hy
      have hy1 : 0 ≤ (H.at_.set (H.items[0]!).toNat (-1))[y]! := hy0
      by_cases e1 : (H.items[0]!).toNat = y
      · subst e1; rw [set_same _ (by omega)] at hy1; omega
      · rw [set_ne _ e1] at hy1
        obtain ⟨k1, k2⟩ := h.pc.inv y hy hy1
        have e2 : (H.at_[y]!).toNat = 0 := by omega
        rw [e2] at k2
        omega
    · simp at hj
    · constructor
      · intro hy; simp at hy
      · rintro ⟨hy, hne⟩
        exfalso
        obtain ⟨j, hj, rfl⟩ := List.mem_iff_getElem.1 hy
        obtain rfl : j = 0 := by omega
        apply hne
        rw [er]; simp [hj]
  · have ne0n : H.items[0]! ≠ H.items[n]! := fun e => hz (h.pc.inj h0 (by omega) e).symm
    -- the heap with its last one at the root
    obtain ⟨V, hV⟩ : ∃ V : Hp, V = Hp.put { H with items := H.items.take n, at_ := H.at_.set (H.items[0]!).toNat (-1) } ((0 : Nat) : Int) H.items[n]! := ⟨_, rfl⟩
    have vi : V.items = (H.items.take n).set 0 H.items[n]! := by rw [hV]; rfl
    have va : V.at_ = (H.at_.set (H.items[0]!).toNat (-1)).set (H.items[n]!).toNat 0 := by rw [hV]; rfl
    have vs : V.score = H.score := by rw [hV]; rfl
    have vl : V.items.length = n := by rw [vi, List.length_set, tl]
    have val : V.at_.length = H.at_.length := by rw [va]; simp
    have v0 : V.items[0]! = H.items[n]! := by rw [vi]; exact set_same _ (by omega)
    have vj : ∀ j : Nat, 0 < j → j < n → V.items[j]! = H.items[j]! := fun j hj0 hj => by rw [vi, set_ne _ (by omega), take_get _ hj]
    have vat : ∀ y : Nat, V.at_[y]! = if y = (H.items[n]!).toNat then 0 else if y = (H.items[0]!).toNat then -1 else H.at_[y]! := by
      intro y
      rw [va]
      by_cases e1 : y = (H.items[n]!).toNat
      · subst e1; rw [if_pos rfl, set_same _ (by simp only [List.length_set]; omega)]
      · rw [if_neg e1, set_ne _ (fun e => e1 e.symm)]
        by_cases e2 : y = (H.items[0]!).toNat
        · subst e2; rw [if_pos rfl, set_same _ (by omega)]
        · rw [if_neg e2, set_ne _ (fun e => e2 e.symm)]
    have hP : PC V := by
      refine ⟨fun j hj => ?_, fun j hj => ?_, fun y hy hy0 => ?_⟩
      · rw [vl] at hj
        rw [val]
        by_cases e : j = 0
        · subst e; rw [v0]; exact rn
        · rw [vj j (by omega) hj]; exact h.pc.rng j (by omega)
      · rw [vl] at hj
        by_cases e : j = 0
        · subst e; rw [v0, vat, if_pos rfl]; rfl
        · rw [vj j (by omega) hj, vat]
          have rj := h.pc.rng j (by omega)
          have n1 : H.items[j]! ≠ H.items[n]! := fun e' => by have := h.pc.inj (by omega) (by omega) e'; omega
          have n2 : H.items[j]! ≠ H.items[0]! := fun e' => e (h.pc.inj (by omega) h0 e')
          rw [if_neg (by omega), if_neg (by omega)]
          exact h.pc.pos j (by omega)
      · rw [val] at hy
        rw [vat] at hy0 ⊢
        rw [vl]
        by_cases e1 : y = (H.items[n]!).toNat
        · rw [if_pos e1]
          show (0 : Nat) < n ∧ V.items[0]! = y
          rw [v0]; omega
        · by_cases e2 : y = (H.items[0]!).toNat
          · rw [if_neg e1, if_pos e2] at hy0; omega
          · rw [if_neg e1, if_neg e2] at hy0 ⊢
            obtain ⟨k1, k2⟩ := h.pc.inv y hy hy0
            have k3 : (H.at_[y]!).toNat ≠ n := fun e => by rw [e] at k2; omega
            have k4 : (H.at_[y]!).toNat ≠ 0 := fun e => by rw [e] at k2; omega
            rw [vj _ (by omega) (by omega)]
            exact ⟨by omega, k2⟩
    have hO : OrdD V 0 := by
      refine ⟨fun j hj0 hj hp => ?_, fun j hj0 hj hp hi => by omega⟩
      rw [vl] at hj
      rw [ahead_score vs, vj j hj0 hj, vj _ (by omega) (by omega)]
      exact h.ord j hj0 (by omega)
    have e : H.popF = Hp.downS n V 0 := by
      have hi : (H.it (n : Int)) = H.items[n]! := el
      unfold Hp.popF
      rw [hn, er]
      simp only [Nat.add_sub_cancel]
      rw [if_neg hz, hi]
      have hp := downF_downS H.items[n]! n (Hp.put { H with items := H.items.take n, at_ := H.at_.set (H.items[0]!).toNat (-1) } 0 H.items[n]!) 0 (by rw [Hp.put_items, tl]; omega)
      have pp : ((Hp.put { H with items := H.items.take n, at_ := H.at_.set (H.items[0]!).toNat (-1) } 0 H.items[n]!).put ((0 : Nat) : Int) H.items[n]!) = V := by
        rw [hV]
        simp only [Hp.put, Int.toNat_natCast, Int.toNat_zero, List.set_set]
      rw [pp] at hp
      exact hp hP
    obtain ⟨s1, s2, s3, s4, s5, s6⟩ := downS_ok n V 0 (by omega) (by omega) hP hO
    rw [← e] at s1 s2 s3 s4 s5 s6
    refine ⟨⟨s1, s2, by rw [s5, val, s3, vs]; exact h.same, by rw [s3, vs]; exact h.sc0⟩, by rw [s3, vs], by rw [s4, vl, hn]; omega, by rw [s5, val], fun y => (s6 y).trans ?_⟩
    rw [er]
    constructor
    · intro hy
      obtain ⟨j, hj, rfl⟩ := List.mem_iff_getElem.1 hy
      have e0 : V.items[j] = V.items[j]! := by simp [hj]
      rw [e0]
      rw [vl] at hj
      by_cases e : j = 0
      · subst e; rw [v0]; exact ⟨upS_ok.mem_get (by omega), fun e => ne0n e.symm⟩
      · rw [vj j (by omega) hj]; exact ⟨upS_ok.mem_get (by omega), fun e' => e (h.pc.inj (by omega) h0 e')⟩
    · rintro ⟨hy, hne⟩
      obtain ⟨j, hj, rfl⟩ := List.mem_iff_getElem.1 hy
      have e0 : H.items[j] = H.items[j]! := by simp [hj]
      rw [e0] at hne ⊢
      by_cases e1 : j = 0
      · subst e1; exact absurd rfl hne
      · by_cases e2 : j = n
        · subst e2; rw [← v0]; exact upS_ok.mem_get (by omega)
        · rw [← vj j (by omega) (by omega)]; exact upS_ok.mem_get (by omega)

theorem HI.raise {H : Hp} (h : HI H) {x b : Int} (hb : H.isB x = true) (hb0 : 0 ≤ b) (hb1 : b ≤ 1099511627776) (hb2 : H.sc x ≤ 1125899906842624 - b) :
    HI (H.raiseF x b) ∧ (H.raiseF x b).score = H.score.set x.toNat (H.sc x + b) ∧ (H.raiseF x b).items.length = H.items.length ∧ (H.raiseF x b).at_.length = H.at_.length ∧ ∀ y : Int, y ∈ (H.raiseF x b).items ↔ y ∈ H.items := by
  obtain ⟨h0, h1⟩ := Hp.isB_true hb
  have hs := h.same
  have hx : x.toNat < H.score.length := by omega
  obtain ⟨K, hK⟩ : ∃ K : Hp, K = { H with score := H.score.set x.toNat (H.sc x + b) } := ⟨_, rfl⟩
  have ki : K.items = H.items := by rw [hK]
  have ka : K.at_ = H.at_ := by rw [hK]
  have ks : K.score = H.score.set x.toNat (H.sc x + b) := by rw [hK]
  have kx : K.sc x = H.sc x + b := by unfold Hp.sc; rw [ks]; exact set_same _ hx
  have ky : ∀ y : Int, 0 ≤ y → y ≠ x → K.sc y = H.sc y := fun y hy hne => by unfold Hp.sc; rw [ks]; exact set_ne _ (by omega)
  have kP : PC K := ⟨fun j hj => by rw [ki, ka]; rw [ki] at hj; exact h.pc.rng j hj, fun j hj => by rw [ki, ka]; rw [ki] at hj; exact h.pc.pos j hj, fun y hy hy0 => by rw [ki, ka]; rw [ka] at hy hy0; exact h.pc.inv y hy hy0⟩
  have k0 : ∀ y : Nat, y < K.score.length → 0 ≤ K.score[y]! := by
    intro y hy
    rw [ks] at hy ⊢
    rw [List.length_set] at hy
    by_cases e : x.toNat = y
    · subst e
      rw [set_same _ hx]
      have : 0 ≤ H.sc x := h.sc0 _ hx
      omega
    · rw [set_ne _ e]; exact h.sc0 y hy
  have kl : K.at_.length = K.score.length := by rw [ka, ks, List.length_set]; exact hs
  -- of two that are not x nothing has changed; nobody is ahead of x who was not
  have far : ∀ y z : Int, 0 ≤ y → 0 ≤ z → y ≠ x → z ≠ x → H.aheadB y z = false → K.aheadB y z = false := by
    intro y z hy hz hyx hzx hh
    cases hc : K.aheadB y z with
    | false => rfl
    | true =>
      rw [ahead_def, ky y hy hyx, ky z hz hzx] at hc
      have : H.aheadB y z = true := ahead_def.2 hc
      rw [this] at hh; cases hh
  have below : ∀ y : Int, 0 ≤ y → y ≠ x → H.aheadB y x = false → K.aheadB y x = false := by
    intro y hy hyx hh
    cases hc : K.aheadB y x with
    | false => rfl
    | true =>
      rw [ahead_def, ky y hy hyx, kx] at hc
      have : H.aheadB y x = true := ahead_def.2 (by omega)
      rw [this] at hh; cases hh
  have e0 : H.raiseF x b = if 0 ≤ H.pl x then Hp.upF (K.it (H.pl x)) ((H.pl x).toNat + 1) K (H.pl x).toNat else K := by
    unfold Hp.raiseF
    rw [if_pos ⟨hb, hb0, hb1, hb2⟩, hK]
  by_cases hp : 0 ≤ H.pl x
  · rw [if_pos hp] at e0
    obtain ⟨q1, q2⟩ := h.pc.inv x.toNat (by omega) hp
    have ex : ((x.toNat : Nat) : Int) = x := by omega
    rw [ex] at q2
    have q1' : (H.pl x).toNat < K.items.length := by rw [ki]; exact q1
    have q2' : H.items[(H.pl x).toNat]! = x := q2
    have e1 : K.it (H.pl x) = K.items[(H.pl x).toNat]! := rfl
    have e2 : H.raiseF x b = Hp.upS ((H.pl x).toNat + 1) K (H.pl x).toNat := by
      rw [e0, e1, upF_upS _ _ _ _ q1' (by omega) (by rw [put_self kP q1']; exact kP), put_self kP q1']
    have hne : ∀ j : Nat, j < H.items.length → j ≠ (H.pl x).toNat → H.items[j]! ≠ x := fun j hj hji e => hji (h.pc.inj hj q1 (by rw [e, q2']))
    have hO : OrdU K (H.pl x).toNat := by
      refine ⟨fun j hj0 hj hji => ?_, fun j hj0 hj hpj hi0 => ?_⟩
      · rw [ki] at hj ⊢
        have r := h.pc.rng j hj
        have rp := h.pc.rng ((j - 1) / 2) (by omega)
        have ho := h.ord j hj0 hj
        by_cases e : (j - 1) / 2 = (H.pl x).toNat
        · rw [e, q2'] at ho ⊢
          exact below _ r.1 (hne j hj hji) ho
        · exact far _ _ r.1 rp.1 (hne j hj hji) (hne _ (by omega) e) ho
      · rw [ki] at hj ⊢
        have r := h.pc.rng j hj
        have rp := h.pc.rng (((H.pl x).toNat - 1) / 2) (by omega)
        have ho := h.ord j hj0 hj
        rw [hpj] at ho
        have ho2 := h.ord (H.pl x).toNat hi0 q1
        exact far _ _ r.1 rp.1 (hne j hj (by omega)) (hne _ (by omega) (by omega)) (not_ahead_trans ho ho2)
    obtain ⟨s1, s2, s3, s4, s5, s6⟩ := upS_ok ((H.pl x).toNat + 1) K (H.pl x).toNat q1' (by omega) kP hO
    rw [← e2] at s1 s2 s3 s4 s5 s6
    exact ⟨⟨s1, s2, by rw [s5, s3]; exact kl, by rw [s3]; exact k0⟩, by rw [s3, ks], by rw [s4, ki], by rw [s5, ka], fun y => by rw [s6 y, ki]⟩
  · rw [if_neg hp] at e0
    rw [e0]
    have hne : ∀ j : Nat, j < H.items.length → H.items[j]! ≠ x := by
      intro j hj e
      have := h.pc.pos j hj
      rw [e] at this
      apply hp
      unfold Hp.pl
      rw [this]; omega
    refine ⟨⟨kP, fun j hj0 hj => ?_, kl, k0⟩, ks, by rw [ki], by rw [ka], fun y => by rw [ki]⟩
    rw [ki] at hj ⊢
    exact far _ _ (h.pc.rng j hj).1 (h.pc.rng ((j - 1) / 2) (by omega)).1 (hne j hj) (hne _ (by omega)) (h.ord j hj0 hj)

theorem app_get {l r : List Int} {j : Nat} (h : j < l.length) : (l ++ r)[j]! = l[j]! := by simp [List.getElem!_eq_getElem?_getD, List.getElem?_append_left h]
theorem app_rep {l : List Int} {m j : Nat} {x : Int} (h : l.length ≤ j) (h2 : j < l.length + m) : (l ++ List.replicate m x)[j]! = x := by
  rw [List.getElem!_eq_getElem?_getD, List.getElem?_append_right h, List.getElem?_replicate, if_pos (by omega)]; rfl

theorem HI.grow {H : Hp} (h : HI H) (m : Nat) : HI (H.growBy m) := by
  have hs := h.same
  have hsc : ∀ y : Int, 0 ≤ y → y < H.at_.length → (H.growBy m).sc y = H.sc y := fun y h0 h1 => app_get (by omega)
  refine ⟨⟨fun j hj => ?_, fun j hj => ?_, fun y hy hy0 => ?_⟩, fun j hj0 hj => ?_, ?_, fun y hy => ?_⟩
  · have := h.pc.rng j hj
    show 0 ≤ H.items[j]! ∧ H.items[j]! < ((H.at_ ++ List.replicate m (-1)).length : Int)
    rw [List.length_append]; omega
  · have r := h.pc.rng j hj
    show (H.at_ ++ List.replicate m (-1))[(H.items[j]!).toNat]! = j
    rw [app_get (by omega)]
    exact h.pc.pos j hj
  · have hy1 : 0 ≤ (H.at_ ++ List.replicate m (-1))[y]! := hy0
    have hy2 : y < (H.at_ ++ List.replicate m (-1)).length := hy
    rw [List.length_append, List.length_replicate] at hy2
    show ((H.at_ ++ List.replicate m (-1))[y]!).toNat < H.items.length ∧ H.items[((H.at_ ++ List.replicate m (-1))[y]!).toNat]! = y
    by_cases e : y < H.at_.length
    · rw [app_get e] at hy1 ⊢; exact h.pc.inv y e hy1
    · rw [app_rep (by omega) hy2] at hy1; omega
  · have r := h.pc.rng j hj
    have hj' : j < H.items.length := hj
    have rp := h.pc.rng ((j - 1) / 2) (by omega)
    have ho := h.ord j hj0 hj
    show (H.growBy m).aheadB H.items[j]! H.items[(j - 1) / 2]! = false
    cases hc : (H.growBy m).aheadB H.items[j]! H.items[(j - 1) / 2]! with
    | false => rfl
    | true =>
      rw [ahead_def, hsc _ r.1 r.2, hsc _ rp.1 rp.2] at hc
      have := ahead_def.2 hc
      rw [this] at ho; cases ho
  · show (H.at_ ++ List.replicate m (-1)).length = (H.score ++ List.replicate m 0).length
    simp [hs]
  · have hy2 : y < (H.score ++ List.replicate m 0).length := hy
    rw [List.length_append, List.length_replicate] at hy2
    show 0 ≤ (H.score ++ List.replicate m 0)[y]!
    by_cases e : y < H.score.length
    · rw [app_get e]; exact h.sc0 y e
    · rw [app_rep (by omega) hy2]; omega

theorem HI.none_ : HI { items := [], at_ := [], score := [] } :=
  ⟨⟨fun j hj => by simp at hj, fun j hj => by simp at hj, fun j hj => by simp at hj⟩, fun j _ hj => by simp at hj, rfl, fun j hj => by simp at hj⟩

end Go.Proofs.Ytnbpnpodpnlamaa
