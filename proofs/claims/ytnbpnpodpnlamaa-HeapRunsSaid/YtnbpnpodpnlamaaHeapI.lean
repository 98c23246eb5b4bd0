/- New walked; what a nil heap and a heap that nobody made tell. -/
import Derived.Test.YtnbpnpodpnlamaaHeapH
namespace Go.Proofs.Ytnbpnpodpnlamaa
open Go.RowKit

theorem ret_ptr {a b : Nat} (h : a = b) : Ending.returned (.pointer (some ⟨a, 0, none⟩)) = .returned (.pointer (some ⟨b, 0, none⟩)) := by rw [h]
def Hp.none_ : Hp := { items := [], at_ := [], score := [] }

theorem HpAt.new (w : World) : HpAt ((w.alloc (.cells #[] 3)).alloc (.cells #[.slice none 0 0, .slice (some ⟨w.heap.size, 0, none⟩) 0 0, .slice none 0 0] 55))
    { a := w.heap.size + 1, A1 := none, c1 := 0, A2 := some ⟨w.heap.size, 0, none⟩, c2 := 0, A3 := none, c3 := 0 } Hp.none_ := by
  refine ⟨?_, Ints.nil _, ?_, Ints.nil _, by simp [HpL.fp, blks], rfl⟩
  · have := At.new (w.alloc (.cells #[] 3)) 55 #[.slice none 0 0, .slice (some ⟨w.heap.size, 0, none⟩) 0 0, .slice none 0 0]
    rwa [show (w.alloc (.cells #[] 3)).heap.size = w.heap.size + 1 from by simp] at this
  · have : Ints (w.alloc (.cells #[] 3)) (some ⟨w.heap.size, 0, none⟩) 0 [] := World.ownsRow_lit w #[] 0 (Nat.zero_le _) (by simp [maxLen]) (by simp)
    exact this.alloc _

set_option maxRecDepth 100000 in
set_option maxHeartbeats 1000000 in
theorem heap_new (w : World) (n : Int) :
    Calls Try.prog 27 #[.int .i64 n] w fun e w' => ∃ L : HpL, e = .returned (.pointer (some ⟨L.a, 0, none⟩)) ∧ HpAt w' L (Hp.none_.growF n) ∧ L.A2.isSome = true ∧ (∀ k, k ∈ L.fp → w.heap.size ≤ k) ∧ Fr [] w w' := by
  have HN := Lib.hid (HpAt.new w)
  go_enter Try.func27, Try.ntmps27
  go_wp2_with fail
  refine (heap_grow _ _ _ HN.out rfl n (by simp [Hp.none_])).mono ?_
  rintro e w1 ⟨rfl, L', hL, hE, hF⟩
  have HL := Lib.hid hL
  have HE := Lib.hid hE
  have HF := Lib.hid hF
  clear hL hE hF
  go_wp2_with fail
  go_ret
  have hk : ∀ k, k ∈ HpL.fp { a := w.heap.size + 1, A1 := none, c1 := 0, A2 := some ⟨w.heap.size, 0, none⟩, c2 := 0, A3 := none, c3 := 0 } → w.heap.size ≤ k := by
    intro k hk
    simp only [HpL.fp, blks, Option.map_none, Option.map_some, Option.toList_none, Option.toList_some, List.nil_append, List.append_nil, List.mem_cons, List.not_mem_nil, or_false] at hk
    omega
  refine ⟨L', ret_ptr HE.out.1.symm, HL.out, HE.out.2.2 rfl, fun k h => ?_, ?_⟩
  · rcases HE.out.2.1 k h with h | h
    · exact hk k h
    · exact Nat.le_trans (by simp; omega) h
  · exact (((Fr.refl [] w).alloc _).alloc _).trans HF.out (fun k h => .inr (hk k h))

-- a nil heap
set_option maxHeartbeats 400000 in
theorem heap_grow_nil (w : World) (n : Int) :
    Calls Try.prog 34 #[.pointer none, .int .i64 n] w fun e w' => e = .returned (.tuple #[]) ∧ w = w' := by
  go_enter Try.func34, Try.ntmps34
  go_wp2
  refine bodyPost_ret (results_none rfl _ _ _) rfl ?_
  exact ⟨rfl, rfl⟩
set_option maxHeartbeats 400000 in
theorem heap_grow_bare (w : World) (L : HpL) (H : Hp) (h : HpAt w L H) (hb : L.A2 = none) (hc : L.c2 = 0) (hz : H.at_ = []) (n : Int) :
    Calls Try.prog 34 #[.pointer (some ⟨L.a, 0, none⟩), .int .i64 n] w fun e w' => e = .returned (.tuple #[]) ∧ w = w' := by
  have o1 := h.obj.cell 1
  simp [hb, hc, hz] at o1
  have he : ∀ w : World, (binOp .eql 22 (.slice none 0 0) (.slice none 0 0)).run Try.prog w = .ok (.bool true) w := fun w => Lib.run_eql_slice_nil w _ _ _ _ _ _ _ Try.underlying22
  clear h hb hc hz
  go_enter Try.func34, Try.ntmps34
  go_wp2
  refine bodyPost_ret (results_none rfl _ _ _) rfl ?_
  exact ⟨rfl, rfl⟩
set_option maxHeartbeats 400000 in
theorem heap_raise_nil (w : World) (x b : Int) :
    Calls Try.prog 33 #[.pointer none, .int .i64 x, .int .i64 b] w fun e w' => e = .returned (.tuple #[]) ∧ w = w' := by
  go_enter Try.func33, Try.ntmps33
  go_wp2_with fail
  refine (heap_is_nil w x).mono ?_
  rintro e w1 ⟨rfl, rfl⟩
  go_wp2_with fail
  refine bodyPost_ret (results_none rfl _ _ _) rfl ?_
  exact ⟨rfl, rfl⟩
set_option maxHeartbeats 400000 in
theorem heap_push_nil (w : World) (x : Int) :
    Calls Try.prog 29 #[.pointer none, .int .i64 x] w fun e w' => e = .returned (.bool false) ∧ w = w' := by
  go_enter Try.func29, Try.ntmps29
  go_wp2_with fail
  refine (heap_is_nil w x).mono ?_
  rintro e w1 ⟨rfl, rfl⟩
  go_wp2_with fail
  go_ret
  exact ⟨rfl, rfl⟩
set_option maxHeartbeats 400000 in
theorem heap_has_nil (w : World) (x : Int) :
    Calls Try.prog 36 #[.pointer none, .int .i64 x] w fun e w' => e = .returned (.bool false) ∧ w = w' := by
  go_enter Try.func36, Try.ntmps36
  go_wp2_with fail
  refine (heap_is_nil w x).mono ?_
  rintro e w1 ⟨rfl, rfl⟩
  go_wp2_with fail
  go_ret
  exact ⟨rfl, rfl⟩
set_option maxHeartbeats 400000 in
theorem heap_score_nil (w : World) (x : Int) :
    Calls Try.prog 37 #[.pointer none, .int .i64 x] w fun e w' => e = .returned (.int .i64 0) ∧ w = w' := by
  go_enter Try.func37, Try.ntmps37
  go_wp2_with fail
  refine (heap_is_nil w x).mono ?_
  rintro e w1 ⟨rfl, rfl⟩
  go_wp2_with fail
  go_ret
  exact ⟨rfl, rfl⟩

end Go.Proofs.Ytnbpnpodpnlamaa
