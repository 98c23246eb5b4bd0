/- Raise, size, Grow, New walked. -/
import Derived.Test.YtnbpnpodpnlamaaHeapF
import Derived.Deep.RegionHeld3
namespace Go.Proofs.Ytnbpnpodpnlamaa
open Go.RowKit

set_option maxRecDepth 100000 in
set_option maxHeartbeats 1000000 in
theorem heap_raise_no (w : World) (L : HpL) (H : Hp) (h : HpAt w L H) (x b : Int) (hno : ¬ (H.isB x = true ∧ 0 ≤ b ∧ b ≤ 1099511627776 ∧ H.sc x ≤ 1125899906842624 - b)) :
    Calls Try.prog 33 #[.pointer (some ⟨L.a, 0, none⟩), .int .i64 x, .int .i64 b] w fun e w' => e = .returned (.tuple #[]) ∧ w = w' := by
  have o2 := h.obj.cell 2
  simp at o2
  have hs := h.same
  cases hb : H.isB x with
  | false =>
    have HB := Lib.hid hb
    have HH := Lib.hid h
    clear hb h hno hs
    go_enter Try.func33, Try.ntmps33
    go_wp2_with fail
    refine (heap_is_b _ L H HH.out x false HB.out).mono ?_
    rintro e w1 ⟨rfl, rfl⟩
    go_wp2_with fail
    refine bodyPost_ret (results_none rfl _ _ _) rfl ?_
    exact ⟨rfl, rfl⟩
  | true =>
    obtain ⟨h0, h1⟩ := Hp.isB_true hb
    obtain ⟨g, hg, ci⟩ := h.cellS h0 h1
    rw [hg] at o2
    have h2 : x < H.score.length := by omega
    obtain ⟨s, hse⟩ : ∃ s, H.sc x = s := ⟨_, rfl⟩
    rw [hse] at ci hno
    have HB := Lib.hid hb
    have HH := Lib.hid h
    by_cases hb0 : b < 0
    · clear hb h hs hno
      go_enter Try.func33, Try.ntmps33
      go_wp2_with fail
      refine (heap_is_b _ L H HH.out x true HB.out).mono ?_
      rintro e w1 ⟨rfl, rfl⟩
      go_wp2_with fail
      refine bodyPost_ret (results_none rfl _ _ _) rfl ?_
      exact ⟨rfl, rfl⟩
    · by_cases hb1 : 1099511627776 < b
      · clear hb h hs hno
        go_enter Try.func33, Try.ntmps33
        go_wp2_with fail
        refine (heap_is_b _ L H HH.out x true HB.out).mono ?_
        rintro e w1 ⟨rfl, rfl⟩
        go_wp2_with fail
        refine bodyPost_ret (results_none rfl _ _ _) rfl ?_
        exact ⟨rfl, rfl⟩
      · have hb2 : 1125899906842624 - b < s := by
          rcases Int.lt_or_le (1125899906842624 - b) s with h | h
          · exact h
          · exact absurd ⟨hb, by omega, by omega, h⟩ hno
        clear hb h hs hno
        go_enter Try.func33, Try.ntmps33
        go_wp2_with fail
        refine (heap_is_b _ L H HH.out x true HB.out).mono ?_
        rintro e w1 ⟨rfl, rfl⟩
        go_wp2_with fail
        refine bodyPost_ret (results_none rfl _ _ _) rfl ?_
        exact ⟨rfl, rfl⟩

theorem HpAt.set3 {w : World} {L : HpL} {H : Hp} (h : HpAt w L H) {g : Nat} (hg : L.A3 = some ⟨g, 0, none⟩) (i : Nat) (x : Int) :
    HpAt (w.setCell ⟨g, i, none⟩ (.int .i64 x)) L { H with score := H.score.set i x } := by
  obtain ⟨h1, h2, h3⟩ := nodup3 h.nodup
  have hm : g ∈ blks L.A3 := by simp [hg, blks]
  refine ⟨?_, ?_, ?_, ?_, h.nodup, by simpa using h.same⟩
  · have := h.obj.far (p := ⟨g, i, none⟩) (fun e => (h3 g hm).1 e.symm) (.int .i64 x)
    simpa using this
  · exact h.items.far (fun hk => (h3 g hm).2.1 hk) _
  · exact h.at_.far (fun hk => (h3 g hm).2.2 hk) _
  · have := h.score
    rw [hg] at this ⊢
    exact this.set_ i x

set_option maxRecDepth 100000 in
set_option maxHeartbeats 1000000 in
theorem heap_raise_yes (w : World) (L : HpL) (H : Hp) (h : HpAt w L H) (hr : H.InR) (x b : Int) (hb : H.isB x = true) (hb0 : 0 ≤ b) (hb1 : b ≤ 1099511627776) (hb2 : H.sc x ≤ 1125899906842624 - b) (hs0 : 0 ≤ H.sc x)
    (hpl : H.pl x < H.items.length) :
    Calls Try.prog 33 #[.pointer (some ⟨L.a, 0, none⟩), .int .i64 x, .int .i64 b] w fun e w' => e = .returned (.tuple #[]) ∧ HpAt w' L (H.raiseF x b) ∧ Fr L.fp w w' := by
  have o1 := h.obj.cell 1
  have o2 := h.obj.cell 2
  simp at o1 o2
  have hs := h.same
  obtain ⟨h0, h1⟩ := Hp.isB_true hb
  obtain ⟨g, hg, ci⟩ := h.cellS h0 h1
  obtain ⟨g2, hg2, cx, _⟩ := h.at_at h0 h1
  have fi : w.frozen? ⟨g, x.toNat, none⟩ = false := by
    have := h.score
    rw [hg] at this
    exact this.frozen _
  rw [hg] at o2
  rw [hg2] at o1
  have hne : g2 ≠ g := fun e => ((nodup3 h.nodup).2.1 g2 (by simp [hg2, blks])).2.2 (by simp [hg, blks, e])
  have hna : L.a ≠ g := fun e => ((nodup3 h.nodup).2.2 g (by simp [hg, blks])).1 e.symm
  have h2 : x < H.score.length := by omega
  have hM := h.set3 hg x.toNat (H.sc x + b)
  have hF : Fr L.fp w (w.setCell ⟨g, x.toNat, none⟩ (.int .i64 (H.sc x + b))) := (Fr.refl L.fp w).setCell (.inl (by simp [HpL.fp, hg, blks])) _
  have hD : H.raiseF x b = if 0 ≤ H.pl x then Hp.upF (Hp.it { H with score := H.score.set x.toNat (H.sc x + b) } (H.pl x)) ((H.pl x).toNat + 1) { H with score := H.score.set x.toNat (H.sc x + b) } (H.pl x).toNat else { H with score := H.score.set x.toNat (H.sc x + b) } := by
    unfold Hp.raiseF
    rw [if_pos ⟨hb, hb0, hb1, hb2⟩]
  obtain ⟨s, hse⟩ : ∃ s, H.sc x = s := ⟨_, rfl⟩
  obtain ⟨p, hpe⟩ : ∃ p, H.pl x = p := ⟨_, rfl⟩
  rw [hse] at ci hb2 hs0 hM hF hD
  rw [hpe] at cx hpl hD
  have cx2 : (w.setCell ⟨g, x.toNat, none⟩ (.int .i64 (s + b))).cell? ⟨g2, x.toNat, none⟩ = some (.int .i64 p) := by
    rw [World.cell?_setCell_other _ _ _ _ (by simp only [ne_eq, Addr.mk.injEq, not_and]; exact fun e => absurd e.symm hne)]; exact cx
  have o12 : (w.setCell ⟨g, x.toNat, none⟩ (.int .i64 (s + b))).cell? ⟨L.a, 1, none⟩ = some (.slice (some ⟨g2, 0, none⟩) H.at_.length L.c2) := by
    rw [World.cell?_setCell_other _ _ _ _ (by simp only [ne_eq, Addr.mk.injEq, not_and]; exact fun e => absurd e.symm hna)]; exact o1
  have HB := Lib.hid hb
  have HH := Lib.hid h
  have HM := Lib.hid hM
  have HF := Lib.hid hF
  have HD := Lib.hid hD
  have HR := Lib.hid hr
  have HC := Lib.hid cx2
  have HO := Lib.hid o12
  clear hb h hM hF hD hse hpe hr hs cx o1 cx2 o12 hne hna hg hg2
  go_enter Try.func33, Try.ntmps33
  go_wp2_with fail
  refine (heap_is_b _ L H HH.out x true HB.out).mono ?_
  rintro e w1 ⟨rfl, rfl⟩
  obtain ⟨V, hV⟩ : ∃ V, V = w.setCell ⟨g, x.toNat, none⟩ (.int .i64 (s + b)) := ⟨_, rfl⟩
  have cx2 := HC.out
  have o12 := HO.out
  have hbb : -1099511627776 ≤ b := by omega
  by_cases hp0 : 0 ≤ p
  · have hpn : (p.toNat : Int) = p := by omega
    go_wp2_with fail
    have e3 : (Value.int .i64 p) = .int .i64 (p.toNat : Int) := by rw [hpn]
    rw [e3]
    refine (heap_up _ L _ HM.out (fun j hj => HR.out j hj) p.toNat (by show p.toNat < H.items.length; omega)).mono ?_
    rintro e w2 ⟨rfl, hp, hf1⟩
    have HP := Lib.hid hp
    have HF1 := Lib.hid hf1
    clear hp hf1 hpn e3
    go_wp2_with fail
    go_end0
    refine ⟨rfl, ?_, HF.out.then_ HF1.out⟩
    rw [HD.out, if_pos hp0]
    have := HP.out
    rw [show ((p.toNat : Int)) = p from by omega] at this
    exact this
  · go_wp2_with fail
    go_end0
    refine ⟨rfl, ?_, HF.out⟩
    rw [HD.out, if_neg (by omega)]
    exact HM.out

def growTo (was n : Int) : Int := was + min (max n 0) (262144 - was)
set_option maxHeartbeats 400000 in
theorem heap_size (w : World) (was n : Int) (h0 : 0 ≤ was) (h1 : was ≤ 262144) :
    Calls Try.prog 61 #[.int .i64 was, .int .i64 n] w fun e w' => e = .returned (.int .i64 (growTo was n)) ∧ w = w' := by
  by_cases hn0 : n < 0
  · go_enter Try.func61, Try.ntmps61
    go_wp2
    go_ret
    exact ⟨ret_int (by unfold growTo; omega), rfl⟩
  · by_cases hb : 262144 - was < n
    · go_enter Try.func61, Try.ntmps61
      go_wp2
      go_ret
      exact ⟨ret_int (by unfold growTo; omega), rfl⟩
    · go_enter Try.func61, Try.ntmps61
      go_wp2
      go_ret
      exact ⟨ret_int (by unfold growTo; omega), rfl⟩

end Go.Proofs.Ytnbpnpodpnlamaa
