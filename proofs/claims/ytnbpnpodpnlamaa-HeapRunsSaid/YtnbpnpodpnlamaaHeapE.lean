/- Push, Pop, Raise walked. -/
import Derived.Test.YtnbpnpodpnlamaaHeapD
namespace Go.Proofs.Ytnbpnpodpnlamaa
open Go.RowKit

set_option maxRecDepth 100000 in
set_option maxHeartbeats 2000000 in
theorem heap_push_yes (w : World) (L : HpL) (H : Hp) (h : HpAt w L H) (hr : H.InR) (x : Int) (hb : H.isB x = true) (hp : H.pl x < 0) (hlen : H.items.length < 1048576) :
    Calls Try.prog 29 #[.pointer (some ⟨L.a, 0, none⟩), .int .i64 x] w fun e w' => e = .returned (.bool true) ∧ ∃ L', HpAt w' L' (H.pushF x) ∧ L.ext L' w ∧ Fr L.fp w w' := by
  have o0 := h.obj.cell 0
  have o1 := h.obj.cell 1
  simp at o0 o1
  obtain ⟨h0, h1⟩ := Hp.isB_true hb
  obtain ⟨g2, hg2, ci, fi⟩ := h.at_at h0 h1
  rw [hg2] at o1
  have oa := h.obj.frozen 0
  have HB := Lib.hid hb
  have HH := Lib.hid h
  have HR := Lib.hid hr
  have HG2 := Lib.hid hg2
  have hlt := h.obj.lt
  clear hb h hr hg2
  go_enter Try.func29, Try.ntmps29
  go_wp2_with fail
  refine (heap_is_b _ L H HH.out x true HB.out).mono ?_
  rintro e w1 ⟨rfl, rfl⟩
  have HN1 : Hid (L.a ∉ blks L.A1) := fun hk => ((nodup3 HH.out.nodup).1 _ hk).1 rfl
  go_wp2_with (at_builtin; refine wpList_append_int _ rfl _ _ rfl L.A1 L.c1 H.items _ rfl rfl (HH.out.items.alloc _) ⟨w.heap.size, 0, none⟩ 1 x rfl (by simp) (by omega) ?_; intro g cap w2 hi2 hf2 hg2 hs2; have q2 := hf2.at_ (HH.out.obj.alloc _) HN1.out; have q3 := q2.cell 0; have q4 := q2.frozen 0; simp at q3; have HI := Lib.hid hi2; have HF := Lib.hid hf2; have HQ := Lib.hid hg2; have HS := Lib.hid hs2; clear q2 hi2 hf2 hg2 hs2)
  have hN : HpAt (w2.setCell ⟨L.a, 0, none⟩ (.slice (some ⟨g, 0, none⟩) (H.items.length + 1) cap)) { L with A1 := some ⟨g, 0, none⟩, c1 := cap } { H with items := H.items ++ [x] } := by
    have := HpAt.newItems (HH.out.alloc _) HI.out HF.out HQ.out
    simpa using this
  have hF : Fr L.fp w (w2.setCell ⟨L.a, 0, none⟩ (.slice (some ⟨g, 0, none⟩) (H.items.length + 1) cap)) :=
    (((Fr.refl L.fp w).alloc _).trans HF.out (fun k hk => .inl (by simp [HpL.fp, hk]))).setCell (.inl (by simp [HpL.fp])) _
  have hX : ∀ k, k ∈ ({ L with A1 := some ⟨g, 0, none⟩, c1 := cap } : HpL).fp → k ∈ L.fp ∨ w.heap.size ≤ k := by
    intro k hk
    simp only [HpL.fp, List.mem_cons, List.mem_append, blks, Option.map_some, Option.toList_some, List.not_mem_nil, or_false] at hk ⊢
    rcases hk with hk | hk | hk | hk
    · exact .inl (.inl hk)
    · rcases HQ.out with hq | hq
      · exact .inl (.inr (.inl (by rw [hk]; exact hq)))
      · right; rw [hk, hq]; simp
    · exact .inl (.inr (.inr (.inl hk)))
    · exact .inl (.inr (.inr (.inr hk)))
  obtain ⟨W, hW⟩ : ∃ W, W = w2.setCell ⟨L.a, 0, none⟩ (.slice (some ⟨g, 0, none⟩) (H.items.length + 1) cap) := ⟨_, rfl⟩
  rw [← hW] at hN hF ⊢
  clear hW o0 o1 ci fi oa q3 q4
  have p0 := hN.obj.cell 0
  have p1 := hN.obj.cell 1
  simp [HG2.out] at p0 p1
  have hg2 := HG2.out
  obtain ⟨g', hg', ci, fi⟩ := hN.at_at (i := x) h0 h1
  simp only [hg2, Option.some.injEq, Addr.mk.injEq, and_true] at hg'
  subst hg'
  have hM := hN.set2 (g := g2) hg2 x.toNat H.items.length
  have HM := Lib.hid hM
  have HF := Lib.hid hF
  have HX := Lib.hid hX
  clear hM hF hX hN hg2
  have hlen' : (H.items.length : Int) < 1048576 := by omega
  go_region
  obtain ⟨V, hV⟩ : ∃ V, V = (W.setCell ⟨g2, x.toNat, none⟩ (.int .i64 H.items.length)).drew := ⟨_, rfl⟩
  rw [← hV]
  have hM : HpAt V { L with A1 := some ⟨g, 0, none⟩, c1 := cap } { H with items := H.items ++ [x], at_ := H.at_.set x.toNat H.items.length } := by
    rw [hV]; exact HM.out.drew
  have hF2 : Fr L.fp w V := by
    rw [hV]; exact (HF.out.setCell (.inl (by simp [HpL.fp, HG2.out, blks])) _).drew
  clear hV p0 p1 ci fi HM HF hp
  have p1 := hM.obj.cell 1
  simp [HG2.out] at p1
  have hg2 := HG2.out
  obtain ⟨g', hg', ci, _⟩ := hM.at_at (i := x) h0 (by simpa using h1)
  simp only [hg2, Option.some.injEq, Addr.mk.injEq, and_true] at hg'
  subst hg'
  have hx2 : x.toNat < H.at_.length := by omega
  simp only [Hp.pl, List.getElem!_eq_getElem?_getD, List.getElem?_set_self hx2, Option.getD_some] at ci
  have HM := Lib.hid hM
  have HF := Lib.hid hF2
  clear hM hF2 hg2
  go_wp2_with fail
  refine (heap_up _ _ _ HM.out ?_ H.items.length (by simp)).mono ?_
  · intro j hj
    have hj' : j < H.items.length + 1 := by simpa using hj
    simp only [List.length_set]
    by_cases e : j < H.items.length
    · have : (H.items ++ [x])[j]! = H.items[j]! := by simp [List.getElem!_eq_getElem?_getD, List.getElem?_append_left e]
      rw [this]; exact HR.out j e
    · have e' : j = H.items.length := by omega
      subst e'
      have : (H.items ++ [x])[H.items.length]! = x := by simp
      rw [this]; exact ⟨h0, h1⟩
  rintro e w1 ⟨rfl, hp, hf1⟩
  have HP := Lib.hid hp
  have HF1 := Lib.hid hf1
  clear hp hf1 p1 ci
  go_wp2_with fail
  go_ret
  refine ⟨rfl, { L with A1 := some ⟨g, 0, none⟩, c1 := cap }, ?_, ⟨rfl, HX.out, id⟩, ?_⟩
  · have := HP.out
    have e1 : Hp.it { H with items := H.items ++ [x], at_ := H.at_.set x.toNat H.items.length } (H.items.length : Nat) = x := by simp [Hp.it]
    rw [e1] at this
    exact this
  · exact HF.out.trans HF1.out HX.out

end Go.Proofs.Ytnbpnpodpnlamaa
