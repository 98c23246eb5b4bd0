/- The heap's functions that write, walked. -/
import Derived.Test.YtnbpnpodpnlamaaHeapA
namespace Go.Proofs.Ytnbpnpodpnlamaa
open Go.RowKit

def Hp.put (H : Hp) (i x : Int) : Hp := { H with items := H.items.set i.toNat x, at_ := H.at_.set x.toNat i }

theorem nodup3 {a : Nat} {x y z : List Nat} (h : (a :: (x ++ (y ++ z))).Nodup) :
    (∀ k, k ∈ x → k ≠ a ∧ k ∉ y ∧ k ∉ z) ∧ (∀ k, k ∈ y → k ≠ a ∧ k ∉ x ∧ k ∉ z) ∧ (∀ k, k ∈ z → k ≠ a ∧ k ∉ x ∧ k ∉ y) := by
  simp only [List.nodup_cons, List.mem_append, List.nodup_append] at h
  obtain ⟨h1, h2, ⟨h3, h4, h5⟩, h6⟩ := h
  refine ⟨fun k hk => ⟨?_, ?_, ?_⟩, fun k hk => ⟨?_, ?_, ?_⟩, fun k hk => ⟨?_, ?_, ?_⟩⟩
  · rintro rfl; exact h1 (.inl hk)
  · exact fun hy => h6 k hk k (.inl hy) rfl
  · exact fun hz => h6 k hk k (.inr hz) rfl
  · rintro rfl; exact h1 (.inr (.inl hk))
  · exact fun hx => h6 k hx k (.inl hk) rfl
  · exact fun hz => h5 k hk k hz rfl
  · rintro rfl; exact h1 (.inr (.inr hk))
  · exact fun hx => h6 k hx k (.inr hk) rfl
  · exact fun hy => h5 k hy k hk rfl

theorem HpAt.items_at {w : World} {L : HpL} {H : Hp} (h : HpAt w L H) {i : Int} (h0 : 0 ≤ i) (h1 : i < H.items.length) :
    ∃ g, L.A1 = some ⟨g, 0, none⟩ ∧ w.cell? ⟨g, i.toNat, none⟩ = some (.int .i64 (H.it i)) ∧ w.frozen? ⟨g, i.toNat, none⟩ = false := by
  obtain ⟨g, hg, _⟩ := h.items.pos (i := i.toNat) (by omega)
  refine ⟨g, hg, ?_⟩
  have := h.items
  rw [hg] at this
  exact ⟨this.cell (by omega), this.frozen _⟩
theorem HpAt.at_at {w : World} {L : HpL} {H : Hp} (h : HpAt w L H) {i : Int} (h0 : 0 ≤ i) (h1 : i < H.at_.length) :
    ∃ g, L.A2 = some ⟨g, 0, none⟩ ∧ w.cell? ⟨g, i.toNat, none⟩ = some (.int .i64 (H.pl i)) ∧ w.frozen? ⟨g, i.toNat, none⟩ = false := by
  obtain ⟨g, hg, _⟩ := h.at_.pos (i := i.toNat) (by omega)
  refine ⟨g, hg, ?_⟩
  have := h.at_
  rw [hg] at this
  exact ⟨this.cell (by omega), this.frozen _⟩

/-- A store into the items, a store into the places. -/
theorem HpAt.set1 {w : World} {L : HpL} {H : Hp} (h : HpAt w L H) {g : Nat} (hg : L.A1 = some ⟨g, 0, none⟩) (i : Nat) (x : Int) :
    HpAt (w.setCell ⟨g, i, none⟩ (.int .i64 x)) L { H with items := H.items.set i x } := by
  obtain ⟨h1, h2, h3⟩ := nodup3 h.nodup
  have hm : g ∈ blks L.A1 := by simp [hg, blks]
  refine ⟨?_, ?_, ?_, ?_, h.nodup, h.same⟩
  · have := h.obj.far (p := ⟨g, i, none⟩) (fun e => (h1 g hm).1 e.symm) (.int .i64 x)
    simpa using this
  · have := h.items
    rw [hg] at this ⊢
    exact this.set_ i x
  · exact h.at_.far (fun hk => (h1 g hm).2.1 hk) _
  · exact h.score.far (fun hk => (h1 g hm).2.2 hk) _
theorem HpAt.set2 {w : World} {L : HpL} {H : Hp} (h : HpAt w L H) {g : Nat} (hg : L.A2 = some ⟨g, 0, none⟩) (i : Nat) (x : Int) :
    HpAt (w.setCell ⟨g, i, none⟩ (.int .i64 x)) L { H with at_ := H.at_.set i x } := by
  obtain ⟨h1, h2, h3⟩ := nodup3 h.nodup
  have hm : g ∈ blks L.A2 := by simp [hg, blks]
  refine ⟨?_, ?_, ?_, ?_, h.nodup, by simpa using h.same⟩
  · have := h.obj.far (p := ⟨g, i, none⟩) (fun e => (h2 g hm).1 e.symm) (.int .i64 x)
    simpa using this
  · exact h.items.far (fun hk => (h2 g hm).2.1 hk) _
  · have := h.at_
    rw [hg] at this ⊢
    exact this.set_ i x
  · exact h.score.far (fun hk => (h2 g hm).2.2 hk) _
theorem HpAt.drewN {w : World} {L : HpL} {H : Hp} (h : HpAt w L H) (n : Nat) : HpAt (w.drewN n) L H := ⟨h.obj, h.items, h.at_, h.score, h.nodup, h.same⟩
theorem HpAt.drew {w : World} {L : HpL} {H : Hp} (h : HpAt w L H) : HpAt w.drew L H := ⟨h.obj, h.items, h.at_, h.score, h.nodup, h.same⟩

set_option maxHeartbeats 1000000 in
theorem heap_put (w : World) (L : HpL) (H : Hp) (h : HpAt w L H) (i x : Int) (hi0 : 0 ≤ i) (hi1 : i < H.items.length) (hx0 : 0 ≤ x) (hx1 : x < H.at_.length) :
    Calls Try.prog 59 #[.pointer (some ⟨L.a, 0, none⟩), .int .i64 i, .int .i64 x] w fun e w' => e = .returned (.tuple #[]) ∧ HpAt w' L (H.put i x) ∧ Fr L.fp w w' := by
  have o0 := h.obj.cell 0
  have o1 := h.obj.cell 1
  simp at o0 o1
  obtain ⟨g, hg, ci, fi⟩ := h.items_at hi0 hi1
  obtain ⟨g', hg', cx, fx⟩ := h.at_at hx0 hx1
  have hne : g ≠ g' := fun e => ((nodup3 h.nodup).1 g (by simp [hg, blks])).2.1 (by simp [hg', blks, e])
  rw [hg] at o0
  rw [hg'] at o1
  have fin := (h.set1 hg i.toNat x).set2 hg' x.toNat i
  have fr : Fr L.fp w ((w.setCell ⟨g, i.toNat, none⟩ (.int .i64 x)).setCell ⟨g', x.toNat, none⟩ (.int .i64 i)) :=
    ((Fr.refl L.fp w).setCell (.inl (by simp [HpL.fp, hg, blks])) _).setCell (.inl (by simp [HpL.fp, hg', blks])) _
  clear h
  go_enter Try.func59, Try.ntmps59
  go_wp2
  go_region
  go_wp2
  go_end0
  exact ⟨rfl, fin.drew, fr.drew⟩

theorem heap_ahead_is (w : World) (L : HpL) (H : Hp) (h : HpAt w L H) (x y : Int) (b : Bool) (hb : H.aheadB x y = b) (hx : 0 ≤ x ∧ x < H.at_.length) (hy : 0 ≤ y ∧ y < H.at_.length) :
    Calls Try.prog 69 #[.pointer (some ⟨L.a, 0, none⟩), .int .i64 x, .int .i64 y] w fun e w' => e = .returned (.bool b) ∧ ∃ n, w.drewN n = w' :=
  (heap_ahead w L H h x y hx.1 hx.2 hy.1 hy.2).mono fun _ _ ⟨he, hw⟩ => ⟨by rw [he, hb], hw⟩

theorem Hp.put_items (H : Hp) (i x : Int) : (H.put i x).items.length = H.items.length := by simp [Hp.put]
theorem Hp.put_at (H : Hp) (i x : Int) : (H.put i x).at_.length = H.at_.length := by simp [Hp.put]

/-- All items are numbers of the heap. -/
def Hp.InR (H : Hp) : Prop := ∀ j : Nat, j < H.items.length → 0 ≤ H.items[j]! ∧ H.items[j]! < H.at_.length

theorem Hp.InR.it {H : Hp} (h : H.InR) {i : Int} (h0 : 0 ≤ i) (h1 : i < H.items.length) : 0 ≤ H.it i ∧ H.it i < H.at_.length := h i.toNat (by omega)
theorem Hp.InR.put {H : Hp} (h : H.InR) {i x : Int} (hx0 : 0 ≤ x) (hx1 : x < H.at_.length) : (H.put i x).InR := by
  intro j hj
  have hj' : j < H.items.length := by simpa [Hp.put] using hj
  have := h j hj'
  simp only [Hp.put, List.length_set]
  by_cases e : i.toNat = j
  · subst e; simp [hj']; omega
  · have : (H.items.set i.toNat x)[j]! = H.items[j]! := by simp [List.getElem!_eq_getElem?_getD, e]
    rw [this]; assumption

def Hp.upF (x : Int) : Nat → Hp → Nat → Hp
  | 0, H, i => H.put i x
  | f + 1, H, i => if 0 < i ∧ H.aheadB x (H.it (((i - 1) / 2 : Nat) : Int)) = true then upF x f (H.put i (H.it (((i - 1) / 2 : Nat) : Int))) ((i - 1) / 2) else H.put i x
theorem Hp.upF_go {x : Int} {f : Nat} {H : Hp} {i : Nat} (hi : 0 < i) (ha : H.aheadB x (H.it (((i - 1) / 2 : Nat) : Int)) = true) (hf : i < f) :
    Hp.upF x f H i = Hp.upF x (f - 1) (H.put i (H.it (((i - 1) / 2 : Nat) : Int))) ((i - 1) / 2) := by
  obtain ⟨f, rfl⟩ : ∃ g, f = g + 1 := ⟨f - 1, by omega⟩
  simp only [Hp.upF, Nat.add_sub_cancel]; rw [if_pos ⟨hi, ha⟩]
theorem Hp.upF_stop {x : Int} {f : Nat} {H : Hp} {i : Nat} (h : ¬ (0 < i ∧ H.aheadB x (H.it (((i - 1) / 2 : Nat) : Int)) = true)) : Hp.upF x f H i = H.put i x := by
  cases f with
  | zero => rfl
  | succ f => simp only [Hp.upF]; rw [if_neg h]

set_option maxHeartbeats 1000000 in
theorem heap_up (w : World) (L : HpL) (H : Hp) (h : HpAt w L H) (hr : H.InR) (i : Nat) (hi1 : i < H.items.length) :
    Calls Try.prog 58 #[.pointer (some ⟨L.a, 0, none⟩), .int .i64 i] w fun e w' => e = .returned (.tuple #[]) ∧ HpAt w' L (Hp.upF (H.it i) (i + 1) H i) ∧ Fr L.fp w w' := by
  have o0 := h.obj.cell 0
  simp at o0
  have hm := h.items.len
  unfold maxLen at hm
  obtain ⟨g, hg, ci, fi⟩ := h.items_at (i := i) (by omega) (by omega)
  rw [hg] at o0
  have hx := hr.it (i := i) (by omega) (by omega)
  obtain ⟨x, hxe⟩ : ∃ x, H.it i = x := ⟨_, rfl⟩
  rw [hxe] at ci hx ⊢
  have ci' : w.cell? ⟨g, i, none⟩ = some (.int .i64 x) := by simpa using ci
  clear ci fi hxe
  have hi2 : (i : Int) < H.items.length := by omega
  go_enter Try.func58, Try.ntmps58
  go_wp2
  go_loopw [1] (fun iv wr => ∃ (k f : Nat) (K : Hp), iv = .int .i64 k ∧ HpAt wr L K ∧ K.InR ∧ K.items.length = H.items.length ∧ K.at_.length = H.at_.length ∧ k < H.items.length ∧ k < f ∧
      Hid (Hp.upF x (i + 1) H i = Hp.upF x f K k) ∧ Fr L.fp w wr) (fun iv _ => (intOf iv).toNat)
  case atStart => exact ⟨i, i + 1, H, rfl, h, hr, rfl, rfl, hi1, by omega, rfl, Fr.refl _ _⟩
  case round =>
    obtain ⟨k, f, K, rfl, hK, hKr, l1, l2, hk, hkf, HE, hfr⟩ := hrel
    have q0 := hK.obj.cell 0
    simp only [l1, hg, List.getElem?_toArray, List.getElem?_cons_zero] at q0
    by_cases hk0 : 0 < k
    · obtain ⟨g', hg', cp, _⟩ := hK.items_at (i := ((k - 1) / 2 : Nat)) (by omega) (by omega)
      rw [hg] at hg'
      cases hg'
      have hy := hKr.it (i := ((k - 1) / 2 : Nat)) (by omega) (by omega)
      obtain ⟨y, hye⟩ : ∃ y, K.it (((k - 1) / 2 : Nat) : Int) = y := ⟨_, rfl⟩
      rw [hye] at cp hy
      have cp' : wr.cell? ⟨g, (k - 1) / 2, none⟩ = some (.int .i64 y) := cp
      clear cp
      have hk0' : (0 : Int) < (k : Int) := by omega
      have HK := Lib.hid hK
      have HL := Lib.hid l1
      have HM := Lib.hid l2
      have hk1 : (k : Int) < H.items.length := by omega
      cases ha : K.aheadB x y with
      | true =>
        have HS : Hid (Hp.upF x f K k = Hp.upF x (f - 1) (K.put k y) ((k - 1) / 2)) := by
          have := Hp.upF_go (x := x) (f := f) (H := K) hk0 (by rw [hye]; exact ha) hkf
          rw [hye] at this
          exact this
        have HA := Lib.hid ha
        have HY := Lib.hid hye
        clear ha hye hK l1 l2
        go_wp2_with fail
        refine (heap_ahead_is _ L K HK.out x y true HA.out (by rw [HM.out]; exact hx) hy).mono ?_
        rintro e w1 ⟨rfl, n1, rfl⟩
        go_wp2_with fail
        refine (heap_put _ L K (HK.out.drewN _) k y (by omega) (by rw [HL.out]; omega) hy.1 hy.2).mono ?_
        rintro e w1 ⟨rfl, hp, hf1⟩
        have HP := Lib.hid hp
        clear hp
        go_wp2_with fail
        go_roundw
        case rel =>
          exact ⟨(k - 1) / 2, f - 1, K.put k y, by go_num, HP.out, hKr.put hy.1 hy.2, by rw [Hp.put_items]; exact HL.out, by rw [Hp.put_at]; exact HM.out, by omega, by omega, HE.out.trans HS.out,
            hfr.then_ (((Fr.refl L.fp wr).drewN n1).then_ hf1)⟩
        case measure => simp [intOf]; omega
      | false =>
        have HS : Hid (Hp.upF x f K k = K.put k x) := Hp.upF_stop (by rw [hye, ha]; simp)
        have HA := Lib.hid ha
        clear ha hye hK l1 l2
        go_wp2_with fail
        refine (heap_ahead_is _ L K HK.out x y false HA.out (by rw [HM.out]; exact hx) hy).mono ?_
        rintro e w1 ⟨rfl, n1, rfl⟩
        go_wp2_with fail
        refine (heap_put _ L K (HK.out.drewN _) k x (by omega) (by rw [HL.out]; omega) hx.1 (by rw [HM.out]; exact hx.2)).mono ?_
        rintro e w1 ⟨rfl, hp, hf1⟩
        have HP := Lib.hid hp
        clear hp
        go_wp2_with fail
        go_end0
        exact ⟨rfl, by rw [HE.out, HS.out]; exact HP.out, hfr.then_ (((Fr.refl L.fp wr).drewN n1).then_ hf1)⟩
    · have HS : Hid (Hp.upF x f K k = K.put k x) := Hp.upF_stop (fun h => hk0 h.1)
      have hz : k = 0 := by omega
      subst hz
      have HK := Lib.hid hK
      have HL := Lib.hid l1
      have HM := Lib.hid l2
      clear hK l1 l2
      go_wp2_with fail
      refine (heap_put _ L K HK.out _ x (by omega) (by rw [HL.out]; omega) hx.1 (by rw [HM.out]; exact hx.2)).mono ?_
      rintro e w1 ⟨rfl, hp, hf1⟩
      have HP := Lib.hid hp
      clear hp
      go_wp2_with fail
      go_end0
      exact ⟨rfl, by rw [HE.out, HS.out]; exact HP.out, hfr.then_ hf1⟩

end Go.Proofs.Ytnbpnpodpnlamaa
