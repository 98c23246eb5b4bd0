/- The heap's functions that are called from outside, walked: Len, Has, Score, Push, Pop, Raise. -/
import Derived.Test.YtnbpnpodpnlamaaHeapC
import Derived.Test.YtnbpnpodpnlamaaMemP
namespace Go.Proofs.Ytnbpnpodpnlamaa
open Go.RowKit

set_option maxHeartbeats 400000 in
theorem heap_len (w : World) (L : HpL) (H : Hp) (h : HpAt w L H) :
    Calls Try.prog 35 #[.pointer (some ⟨L.a, 0, none⟩)] w fun e w' => e = .returned (.int .i64 H.items.length) ∧ w = w' := by
  have o0 := h.obj.cell 0
  simp at o0
  go_enter Try.func35, Try.ntmps35
  go_wp2
  go_ret
  exact ⟨rfl, rfl⟩
theorem heap_len_nil (w : World) :
    Calls Try.prog 35 #[.pointer none] w fun e w' => e = .returned (.int .i64 0) ∧ w = w' := by
  go_enter Try.func35, Try.ntmps35
  go_wp2
  go_ret
  exact ⟨rfl, rfl⟩

def Hp.hasB (H : Hp) (x : Int) : Bool := H.isB x && decide (0 ≤ H.pl x)
def Hp.scB (H : Hp) (x : Int) : Int := if H.isB x = true then H.sc x else 0

theorem Hp.isB_true {H : Hp} {x : Int} (h : H.isB x = true) : 0 ≤ x ∧ x < H.at_.length := by simpa [Hp.isB] using h

theorem heap_is_b (w : World) (L : HpL) (H : Hp) (h : HpAt w L H) (x : Int) (b : Bool) (hb : H.isB x = b) :
    Calls Try.prog 57 #[.pointer (some ⟨L.a, 0, none⟩), .int .i64 x] w fun e w' => e = .returned (.bool b) ∧ w = w' := by
  subst hb; exact heap_is w L H h x

set_option maxHeartbeats 400000 in
theorem heap_has (w : World) (L : HpL) (H : Hp) (h : HpAt w L H) (x : Int) :
    Calls Try.prog 36 #[.pointer (some ⟨L.a, 0, none⟩), .int .i64 x] w fun e w' => e = .returned (.bool (H.hasB x)) ∧ w = w' := by
  have o1 := h.obj.cell 1
  simp at o1
  unfold Hp.hasB
  cases hb : H.isB x with
  | true =>
    obtain ⟨h0, h1⟩ := Hp.isB_true hb
    obtain ⟨g, hg, ci, fi⟩ := h.at_at h0 h1
    rw [hg] at o1
    have HB := Lib.hid hb
    have HH := Lib.hid h
    clear hb h
    go_enter Try.func36, Try.ntmps36
    go_wp2_with fail
    refine (heap_is_b _ L H HH.out x true HB.out).mono ?_
    rintro e w1 ⟨rfl, rfl⟩
    go_wp2_with fail
    go_ret
    exact ⟨ret_bool (by simp), rfl⟩
  | false =>
    have HB := Lib.hid hb
    have HH := Lib.hid h
    clear hb h
    go_enter Try.func36, Try.ntmps36
    go_wp2_with fail
    refine (heap_is_b _ L H HH.out x false HB.out).mono ?_
    rintro e w1 ⟨rfl, rfl⟩
    go_wp2_with fail
    go_ret
    exact ⟨ret_bool (by simp), rfl⟩

set_option maxHeartbeats 400000 in
theorem heap_score (w : World) (L : HpL) (H : Hp) (h : HpAt w L H) (x : Int) :
    Calls Try.prog 37 #[.pointer (some ⟨L.a, 0, none⟩), .int .i64 x] w fun e w' => e = .returned (.int .i64 (H.scB x)) ∧ w = w' := by
  have o1 := h.obj.cell 2
  simp at o1
  unfold Hp.scB
  cases hb : H.isB x with
  | true =>
    obtain ⟨h0, h1⟩ := Hp.isB_true hb
    obtain ⟨g, hg, ci⟩ := h.cellS h0 h1
    rw [hg] at o1
    have hs := h.same
    have h2 : x < H.score.length := by omega
    have HB := Lib.hid hb
    have HH := Lib.hid h
    clear hb h hs
    go_enter Try.func37, Try.ntmps37
    go_wp2_with fail
    refine (heap_is_b _ L H HH.out x true HB.out).mono ?_
    rintro e w1 ⟨rfl, rfl⟩
    go_wp2_with fail
    go_ret
    exact ⟨ret_int (by simp), rfl⟩
  | false =>
    have HB := Lib.hid hb
    have HH := Lib.hid h
    clear hb h
    go_enter Try.func37, Try.ntmps37
    go_wp2_with fail
    refine (heap_is_b _ L H HH.out x false HB.out).mono ?_
    rintro e w1 ⟨rfl, rfl⟩
    go_wp2_with fail
    go_ret
    exact ⟨ret_int (by simp), rfl⟩

/-- A new block beside. -/
theorem HpAt.alloc {w : World} {L : HpL} {H : Hp} (h : HpAt w L H) (o : Obj) : HpAt (w.alloc o) L H :=
  ⟨h.obj.alloc o, h.items.alloc o, h.at_.alloc o, h.score.alloc o, h.nodup, h.same⟩
theorem HpAt.fr {w w' : World} {L : HpL} {H : Hp} {S : List Nat} (h : HpAt w L H) (hf : Fr S w w') (hd : ∀ k, k ∈ L.fp → k ∉ S) : HpAt w' L H :=
  ⟨hf.at_ h.obj (hd _ (by simp [HpL.fp])), h.items.fr hf fun k hk => hd k (by simp [HpL.fp, hk]), h.at_.fr hf fun k hk => hd k (by simp [HpL.fp, hk]), h.score.fr hf fun k hk => hd k (by simp [HpL.fp, hk]), h.nodup, h.same⟩
theorem HpAt.lt {w : World} {L : HpL} {H : Hp} (h : HpAt w L H) : ∀ k, k ∈ L.fp → k < w.heap.size := by
  intro k hk
  simp only [HpL.fp, List.mem_cons, List.mem_append] at hk
  rcases hk with rfl | hk | hk | hk
  · exact h.obj.lt
  · exact h.items.lt k hk
  · exact h.at_.lt k hk
  · exact h.score.lt k hk

/-- The items in a row that has grown, the struct told of it. -/
theorem HpAt.newItems {w w' : World} {L : HpL} {H : Hp} (h : HpAt w L H) {g cap : Nat} {items : List Int} (hi : Ints w' (some ⟨g, 0, none⟩) cap items) (hf : Fr (blks L.A1) w w') (hg : g ∈ blks L.A1 ∨ g = w.heap.size) :
    HpAt (w'.setCell ⟨L.a, 0, none⟩ (.slice (some ⟨g, 0, none⟩) items.length cap)) { L with A1 := some ⟨g, 0, none⟩, c1 := cap } { H with items := items } := by
  obtain ⟨h1, h2, h3⟩ := nodup3 h.nodup
  have hlt := h.lt
  have hga : g ≠ L.a := by
    rcases hg with hg | hg
    · exact (h1 g hg).1
    · have := h.obj.lt; omega
  have hg2 : g ∉ blks L.A2 := by
    rcases hg with hg | hg
    · exact (h1 g hg).2.1
    · intro hk; have := h.at_.lt g hk; omega
  have hg3 : g ∉ blks L.A3 := by
    rcases hg with hg | hg
    · exact (h1 g hg).2.2
    · intro hk; have := h.score.lt g hk; omega
  have hb : blks (some ⟨g, 0, none⟩) = [g] := rfl
  refine ⟨?_, ?_, ?_, ?_, ?_, h.same⟩
  · have := (hf.at_ h.obj (fun hk => (h1 _ hk).1 rfl)).set_ 0 (.slice (some ⟨g, 0, none⟩) items.length cap)
    simpa using this
  · exact hi.far (by rw [hb]; simpa using fun e => hga e.symm) _
  · exact (h.at_.fr hf fun k hk hk' => (h1 k hk').2.1 hk).far (fun hk => (h2 _ hk).1 rfl) _
  · exact (h.score.fr hf fun k hk hk' => (h1 k hk').2.2 hk).far (fun hk => (h3 _ hk).1 rfl) _
  · have hn := h.nodup
    simp only [HpL.fp, List.nodup_cons, List.mem_append, List.nodup_append, hb, List.mem_singleton, List.not_mem_nil, not_false_eq_true, List.nodup_nil, true_and, and_true] at hn ⊢
    obtain ⟨n1, n2, n3, n4⟩ := hn
    refine ⟨?_, n3, ?_⟩
    · rintro (e | hk)
      · exact hga e.symm
      · exact n1 (.inr hk)
    · rintro _ rfl b hb' rfl
      exact hb'.elim hg2 hg3

def Hp.pushF (H : Hp) (x : Int) : Hp := Hp.upF x (H.items.length + 1) { H with items := H.items ++ [x], at_ := H.at_.set x.toNat H.items.length } H.items.length
def HpL.ext (L L' : HpL) (w : World) : Prop := L'.a = L.a ∧ (∀ k, k ∈ L'.fp → k ∈ L.fp ∨ w.heap.size ≤ k) ∧ (L.A2.isSome = true → L'.A2.isSome = true)

set_option maxHeartbeats 1000000 in
theorem heap_push_no (w : World) (L : HpL) (H : Hp) (h : HpAt w L H) (x : Int) (hx : H.isB x = false ∨ H.isB x = true ∧ 0 ≤ H.pl x) :
    Calls Try.prog 29 #[.pointer (some ⟨L.a, 0, none⟩), .int .i64 x] w fun e w' => e = .returned (.bool false) ∧ w = w' := by
  have o1 := h.obj.cell 1
  simp at o1
  rcases hx with hb | ⟨hb, hp⟩
  · have HB := Lib.hid hb
    have HH := Lib.hid h
    clear hb h
    go_enter Try.func29, Try.ntmps29
    go_wp2_with fail
    refine (heap_is_b _ L H HH.out x false HB.out).mono ?_
    rintro e w1 ⟨rfl, rfl⟩
    go_wp2_with fail
    go_ret
    exact ⟨rfl, rfl⟩
  · obtain ⟨h0, h1⟩ := Hp.isB_true hb
    obtain ⟨g, hg, ci, fi⟩ := h.at_at h0 h1
    rw [hg] at o1
    have HB := Lib.hid hb
    have HH := Lib.hid h
    clear hb h
    go_enter Try.func29, Try.ntmps29
    go_wp2_with fail
    refine (heap_is_b _ L H HH.out x true HB.out).mono ?_
    rintro e w1 ⟨rfl, rfl⟩
    go_wp2_with fail
    go_ret
    exact ⟨rfl, rfl⟩

end Go.Proofs.Ytnbpnpodpnlamaa
