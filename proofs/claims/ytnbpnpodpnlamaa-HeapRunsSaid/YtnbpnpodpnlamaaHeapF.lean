/- Pop, Raise walked. -/
import Derived.Test.YtnbpnpodpnlamaaHeapE
namespace Go.Proofs.Ytnbpnpodpnlamaa
open Go.RowKit

set_option maxHeartbeats 400000 in
theorem heap_pop_no (w : World) (L : HpL) (H : Hp) (h : HpAt w L H) (hn : H.items = []) :
    Calls Try.prog 31 #[.pointer (some ⟨L.a, 0, none⟩)] w fun e w' => e = .returned (.tuple #[.int .i64 0, .bool false]) ∧ w = w' := by
  have hl := heap_len w L H h
  rw [hn] at hl
  have HL := Lib.hid hl
  clear hl h
  go_enter Try.func31, Try.ntmps31
  go_wp2_with fail
  refine HL.out.mono ?_
  rintro e w1 ⟨rfl, rfl⟩
  go_wp2_with fail
  go_ret2
  exact ⟨rfl, rfl⟩
theorem heap_pop_nil (w : World) :
    Calls Try.prog 31 #[.pointer none] w fun e w' => e = .returned (.tuple #[.int .i64 0, .bool false]) ∧ w = w' := by
  have HL := Lib.hid (heap_len_nil w)
  go_enter Try.func31, Try.ntmps31
  go_wp2_with fail
  refine HL.out.mono ?_
  rintro e w1 ⟨rfl, rfl⟩
  go_wp2_with fail
  go_ret2
  exact ⟨rfl, rfl⟩

def Hp.popF (H : Hp) : Hp :=
  let n := H.items.length - 1
  let K : Hp := { H with items := H.items.take n, at_ := H.at_.set (H.it 0).toNat (-1) }
  if n = 0 then K else Hp.downF (H.it n) n (K.put 0 (H.it n)) 0

theorem HpAt.cut {w : World} {L : HpL} {H : Hp} (h : HpAt w L H) (k : Nat) (hk : k ≤ H.items.length) : HpAt (w.setCell ⟨L.a, 0, none⟩ (.slice L.A1 k L.c1)) L { H with items := H.items.take k } := by
  obtain ⟨h1, h2, h3⟩ := nodup3 h.nodup
  refine ⟨?_, ?_, ?_, ?_, h.nodup, h.same⟩
  · have := h.obj.set_ 0 (.slice L.A1 k L.c1)
    have e : (H.items.take k).length = k := by simp; omega
    simpa [e] using this
  · exact (h.items.take_ k).far (fun hk => (h1 _ hk).1 rfl) _
  · exact h.at_.far (fun hk => (h2 _ hk).1 rfl) _
  · exact h.score.far (fun hk => (h3 _ hk).1 rfl) _

set_option maxRecDepth 100000 in
set_option maxHeartbeats 2000000 in
theorem heap_pop_yes (w : World) (L : HpL) (H : Hp) (h : HpAt w L H) (hr : H.InR) (n : Nat) (hn : H.items.length = n + 1) (hlen : H.items.length < 1048576) :
    Calls Try.prog 31 #[.pointer (some ⟨L.a, 0, none⟩)] w fun e w' => e = .returned (.tuple #[.int .i64 (H.it 0), .bool true]) ∧ HpAt w' L H.popF ∧ Fr L.fp w w' := by
  have o0 := h.obj.cell 0
  have o1 := h.obj.cell 1
  simp at o0 o1
  obtain ⟨g, hg, c0, _⟩ := h.items_at (i := 0) (by omega) (by omega)
  obtain ⟨g', hg', cn, _⟩ := h.items_at (i := n) (by omega) (by omega)
  rw [hg] at hg' o0
  cases hg'
  have hx := hr.it (i := 0) (by omega) (by omega)
  have hy := hr.it (i := n) (by omega) (by omega)
  obtain ⟨g2, hg2, cx, fx⟩ := h.at_at hx.1 hx.2
  rw [hg2] at o1
  have hl := heap_len w L H h
  rw [hn] at hl o0
  have hcap : n + 1 ≤ L.c1 := by
    rcases h.items.form with ⟨_, _, h0⟩ | ⟨_, _, _, h0, _⟩
    · rw [h0] at hn; simp at hn
    · omega
  have hne : g ≠ g2 := fun e => ((nodup3 h.nodup).1 g (by simp [hg, blks])).2.1 (by simp [hg2, blks, e])
  have hna : L.a ≠ g2 := fun e => ((nodup3 h.nodup).2.1 g2 (by simp [hg2, blks])).1 e.symm
  have oa := h.obj.frozen 0
  have hM := (h.cut n (by omega)).set2 (g := g2) hg2 (H.it 0).toNat (-1)
  rw [hg] at hM
  have hF : Fr L.fp w ((w.setCell ⟨L.a, 0, none⟩ (.slice (some ⟨g, 0, none⟩) n L.c1)).setCell ⟨g2, (H.it 0).toNat, none⟩ (.int .i64 (-1))) :=
    ((Fr.refl L.fp w).setCell (.inl (by simp [HpL.fp])) _).setCell (.inl (by simp [HpL.fp, hg2, blks])) _
  have HM := Lib.hid hM
  have HF := Lib.hid hF
  have HL := Lib.hid hl
  have HG := Lib.hid hg
  have HG2 := Lib.hid hg2
  have HR := Lib.hid hr
  have HN := Lib.hid hn
  simp only [Int.toNat_zero, Int.toNat_natCast] at c0 cn
  obtain ⟨x, hxe⟩ : ∃ x, H.it 0 = x := ⟨_, rfl⟩
  obtain ⟨y, hye⟩ : ∃ y, H.it n = y := ⟨_, rfl⟩
  rw [hxe] at c0 cx fx hx HM HF ⊢
  rw [hye] at cn hy
  have HXE := Lib.hid hxe
  have HYE := Lib.hid hye
  have hn1 : (n : Int) + 1 < 1048576 := by omega
  clear hM hF hl hg hg2 hr hn hxe hye h hlen
  go_enter Try.func31, Try.ntmps31
  go_wp2_with fail
  refine HL.out.mono ?_
  rintro e w1 ⟨rfl, rfl⟩
  have ez : ((n : Int) + 1 == 0) = false := beq_eq_false_iff_ne.2 (by omega)
  have ez' : (((n + 1 : Nat) : Int) == 0) = false := beq_eq_false_iff_ne.2 (by omega)
  go_wp2_with fail
  go_region
  go_wp2_with fail
  go_region
  obtain ⟨V, hV⟩ : ∃ V, V = ((w.setCell ⟨L.a, 0, none⟩ (.slice (some ⟨g, 0, none⟩) n L.c1)).setCell ⟨g2, x.toNat, none⟩ (.int .i64 (-1))).drew.drew := ⟨_, rfl⟩
  rw [← hV]
  have hM : HpAt V L { H with items := H.items.take n, at_ := H.at_.set x.toNat (-1) } := by rw [hV]; exact HM.out.drew.drew
  have hF : Fr L.fp w V := by rw [hV]; exact HF.out.drew.drew
  clear hV HM HF o0 o1 c0 cn cx fx oa
  have hlen : (H.items.take n).length = n := by have := HN.out; simp; omega
  have HM := Lib.hid hM
  have HF := Lib.hid hF
  have HLN := Lib.hid hlen
  clear hM hF hlen
  by_cases hz : n = 0
  · subst hz
    have HP : Hid (H.popF = { H with items := H.items.take 0, at_ := H.at_.set x.toNat (-1) }) := by
      show _ = _
      unfold Hp.popF
      rw [HN.out, HXE.out]
      simp
    go_wp2_with fail
    go_ret2
    exact ⟨rfl, by rw [HP.out]; exact HM.out, HF.out⟩
  · have hn0 : 0 < n := by omega
    have HP : Hid (H.popF = Hp.downF y n (Hp.put { H with items := H.items.take n, at_ := H.at_.set x.toNat (-1) } 0 y) 0) := by
      show _ = _
      unfold Hp.popF
      rw [HN.out, HXE.out]
      simp only [Nat.add_sub_cancel]
      rw [if_neg hz, HYE.out]
    have hK : Hp.InR (Hp.put { H with items := H.items.take n, at_ := H.at_.set x.toNat (-1) } 0 y) := by
      refine Hp.InR.put (fun j hj => ?_) hy.1 (by simpa using hy.2)
      have hl := HLN.out
      have hn' := HN.out
      have e : (H.items.take n)[j]! = H.items[j]! := by
        simp only [List.getElem!_eq_getElem?_getD, List.getElem?_take]
        rw [if_pos (by simp only [hl] at hj; exact hj)]
      simp only [e, List.length_set]
      exact HR.out j (by simp only [hl] at hj; omega)
    have HK := Lib.hid hK
    clear hK hz ez ez'
    go_wp2_with fail
    refine (heap_put _ L _ HM.out 0 y (by omega) (by rw [show ({ H with items := H.items.take n, at_ := H.at_.set x.toNat (-1) } : Hp).items.length = n from HLN.out]; omega) hy.1 (by simpa using hy.2)).mono ?_
    rintro e w1 ⟨rfl, hp, hf1⟩
    have HP1 := Lib.hid hp
    have HF1 := Lib.hid hf1
    have hpl : (Hp.put { H with items := H.items.take n, at_ := H.at_.set x.toNat (-1) } 0 y).items.length = n := by rw [Hp.put_items]; exact HLN.out
    have hpit : (Hp.put { H with items := H.items.take n, at_ := H.at_.set x.toNat (-1) } 0 y).it (0 : Nat) = y := by
      have hl := HLN.out
      have : 0 < (H.items.take n).length := by omega
      simp [Hp.it, Hp.put, List.getElem!_eq_getElem?_getD, List.getElem?_set_self this]
    have HPL := Lib.hid hpl
    have HPI := Lib.hid hpit
    clear hp hf1 hpl hpit
    go_wp2_with fail
    refine (heap_down _ L _ HP1.out HK.out 0 (by rw [HPL.out]; omega) (by rw [HPL.out]; omega)).mono ?_
    rintro e w2 ⟨rfl, hp, hf1⟩
    have HP2 := Lib.hid hp
    have HF2 := Lib.hid hf1
    clear hp hf1
    go_wp2_with fail
    go_ret2
    refine ⟨rfl, ?_, (HF.out.then_ HF1.out).then_ HF2.out⟩
    rw [HP.out]
    have := HP2.out
    rw [HPI.out, HPL.out] at this
    exact this

def Hp.raiseF (H : Hp) (x b : Int) : Hp :=
  if H.isB x = true ∧ 0 ≤ b ∧ b ≤ 1099511627776 ∧ H.sc x ≤ 1125899906842624 - b then
    let K : Hp := { H with score := H.score.set x.toNat (H.sc x + b) }
    if 0 ≤ H.pl x then Hp.upF (K.it (H.pl x)) ((H.pl x).toNat + 1) K (H.pl x).toNat else K
  else H

end Go.Proofs.Ytnbpnpodpnlamaa
