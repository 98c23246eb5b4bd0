/- The trail's New and Lits walked; Back for any level. -/
import Derived.Test.YtnbpnpodpnlamaaTrailF
namespace Go.Proofs.Ytnbpnpodpnlamaa
open Go.RowKit
set_option linter.unusedVariables false

theorem addr_add (g o n : Nat) : (Addr.mk g o none).add n = ⟨g, o + n, none⟩ := by unfold Addr.add; split <;> simp_all

-- New
def Tr.fresh : Tr := { cells := [⟨0, 0, 0⟩], lits := [], levels := [] }
theorem ret_ptr_t {a b : Nat} (h : a = b) : Ending.returned (.pointer (some ⟨a, 0, none⟩)) = .returned (.pointer (some ⟨b, 0, none⟩)) := by rw [h]
theorem TrAt.new (w : World) : TrAt ((w.alloc (.cells #[.int .i64 0, .int .i64 0, .int .i64 0] 87)).alloc (.cells #[.slice (some ⟨w.heap.size, 0, none⟩) 1 1, .slice none 0 0, .slice none 0 0] 67))
    { a := w.heap.size + 1, A1 := some ⟨w.heap.size, 0, none⟩, c1 := 1, A2 := none, c2 := 0, A3 := none, c3 := 0 } Tr.fresh := by
  refine ⟨?_, ?_, Ints.nil _, Ints.nil _, by simp [TrL.fp, blks]⟩
  · have := At.new (w.alloc (.cells #[.int .i64 0, .int .i64 0, .int .i64 0] 87)) 67 #[.slice (some ⟨w.heap.size, 0, none⟩) 1 1, .slice none 0 0, .slice none 0 0]
    rwa [show (w.alloc (.cells #[.int .i64 0, .int .i64 0, .int .i64 0] 87)).heap.size = w.heap.size + 1 from by simp] at this
  · have : Cls (w.alloc (.cells #[.int .i64 0, .int .i64 0, .int .i64 0] 87)) (some ⟨w.heap.size, 0, none⟩) 1 Tr.fresh.cells := World.ownsRow_lit w #[.int .i64 0, .int .i64 0, .int .i64 0] 1 (Nat.zero_le _) (by simp [maxLen]) (by simp)
    exact this.alloc _

set_option maxRecDepth 100000 in
set_option maxHeartbeats 1000000 in
theorem trail_new (w : World) (n : Int) :
    Calls Try.prog 12 #[.int .i64 n] w fun e w' => ∃ L : TrL, e = .returned (.pointer (some ⟨L.a, 0, none⟩)) ∧ TrAt w' L (Tr.fresh.growF n) ∧ (∀ k, k ∈ L.fp → w.heap.size ≤ k) ∧ Fr [] w w' := by
  have HN := Lib.hid (TrAt.new w)
  go_enter Try.func12, Try.ntmps12
  go_wp2_with fail
  refine (trail_grow _ _ _ HN.out (by decide) (by decide) n).mono ?_
  rintro e w1 ⟨rfl, L', hL, hE, hF⟩
  have HL := Lib.hid hL
  have HE := Lib.hid hE
  have HF := Lib.hid hF
  clear hL hE hF
  go_wp2_with fail
  go_ret
  have hk : ∀ k, k ∈ TrL.fp { a := w.heap.size + 1, A1 := some ⟨w.heap.size, 0, none⟩, c1 := 1, A2 := none, c2 := 0, A3 := none, c3 := 0 } → w.heap.size ≤ k := by
    intro k hk
    simp only [TrL.fp, blks, Option.map_none, Option.map_some, Option.toList_none, Option.toList_some, List.append_nil, List.mem_cons, List.not_mem_nil, or_false] at hk
    omega
  refine ⟨L', ret_ptr_t HE.out.1.symm, HL.out, fun k h => ?_, ?_⟩
  · rcases HE.out.2 k h with h | h
    · exact hk k h
    · exact Nat.le_trans (by simp; omega) h
  · exact (((Fr.refl [] w).alloc _).alloc _).trans HF.out (fun k h => .inr (hk k h))

-- Clone, Lits
set_option maxRecDepth 100000 in
set_option maxHeartbeats 1000000 in
theorem clone_ints (w : World) (A : Option Addr) (c : Nat) (xs : List Int) (h : Ints w A c xs) (hlen : xs.length < 17592186044416) :
    Calls Try.prog 52 #[.slice A xs.length c] w fun e w' => ∃ A' c', e = .returned (.slice A' xs.length c') ∧ Ints w' A' c' xs ∧ (∀ k, k ∈ blks A' → w.heap.size ≤ k) ∧ Fr [] w w' := by
  rcases h.form with ⟨rfl, rfl, rfl⟩ | ⟨g, rfl, hg, hlc, hcm⟩
  · have he : ∀ w : World, (binOp .eql 22 (.slice none 0 0) (.slice none 0 0)).run Try.prog w = .ok (.bool true) w := fun w => Lib.run_eql_slice_nil w _ _ _ _ _ _ _ Try.underlying22
    have e0 : ([] : List Int).length = 0 := rfl
    rw [e0]
    clear h
    go_enter Try.func52, Try.ntmps52
    go_wp2_with fail
    go_ret
    exact ⟨none, 0, rfl, Ints.nil _, by simp [blks], Fr.refl _ _⟩
  · have he : ∀ w : World, (binOp .eql 22 (.slice (some ⟨g, 0, none⟩) xs.length c) (.slice none 0 0)).run Try.prog w = .ok (.bool false) w := fun w => Lib.run_eql_slice_nil w _ _ _ _ _ _ _ Try.underlying22
    have HH := Lib.hid h
    clear h
    go_enter Try.func52, Try.ntmps52
    go_wp2_with (at_builtin; (refine wpList_append_row _ rfl _ _ 22 rfl 3 (.int .i64 0) 1 8 Try.underlying22 infoInt rfl (by decide) (some ⟨w.heap.size, 0, none⟩) 0 0 rfl [] ?hown ⟨g, 0, none⟩ xs.length c rfl (xs.map (Value.int .i64)) (by simp) ?hnews (by simp [Value.oneCell']) (by unfold maxLen; omega) (by omega) ?_; (case hown => exact World.ownsRow_lit w #[] 0 (Nat.zero_le _) (by simp [maxLen]) (by simp)); (case hnews => intro jj u hu; simp only [List.getElem?_map, Option.map_eq_some_iff] at hu; obtain ⟨y, hy, rfl⟩ := hu; have hj := (List.getElem?_eq_some_iff.1 hy).1; have := (HH.out.alloc (.cells #[] 3)).cell hj; rw [List.getElem!_eq_getElem?_getD, hy] at this; rw [addr_add, Nat.zero_add]; simpa using this); intro A2 cap w2 hi2 hf2 hg2 hs2 hnn hff; have HI := Lib.hid hi2; have HF2 := Lib.hid hf2; have HG2 := Lib.hid hg2; have HNN := Lib.hid hnn; clear hi2 hf2 hg2 hs2 hnn hff))
    go_ret
    refine ⟨A2, cap, by simp, ?_, fun k hk => ?_, ?_⟩
    · have := HI.out
      unfold Ints
      simpa using this
    · rcases HG2.out k hk with h | h
      · simp [blks] at h; omega
      · rw [h]; simp
    · exact ((Fr.refl [] w).alloc _).trans HF2.out (fun k hk => .inr (by simp [blks] at hk; omega))
theorem trail_lits_nil (w : World) :
    Calls Try.prog 14 #[.pointer none] w fun e w' => e = .returned (.slice none 0 0) ∧ w = w' := by
  go_enter Try.func14, Try.ntmps14
  go_wp2
  go_ret
  exact ⟨rfl, rfl⟩
set_option maxRecDepth 100000 in
set_option maxHeartbeats 400000 in
theorem trail_lits (w : World) (L : TrL) (T : Tr) (h : TrAt w L T) (hlen : T.lits.length < 17592186044416) :
    Calls Try.prog 14 #[.pointer (some ⟨L.a, 0, none⟩)] w fun e w' => ∃ A' c', e = .returned (.slice A' T.lits.length c') ∧ Ints w' A' c' T.lits ∧ (∀ k, k ∈ blks A' → w.heap.size ≤ k) ∧ Fr [] w w' := by
  have o1 := h.obj.cell 1
  simp at o1
  have HH := Lib.hid h
  clear h
  go_enter Try.func14, Try.ntmps14
  go_wp2_with fail
  refine (clone_ints _ _ _ _ HH.out.lits hlen).mono ?_
  rintro e w1 ⟨A', c', rfl, hi, hk, hf⟩
  have HI := Lib.hid hi
  have HK := Lib.hid hk
  have HF := Lib.hid hf
  clear hi hk hf
  go_wp2_with fail
  go_ret
  exact ⟨A', c', rfl, HI.out, HK.out, HF.out⟩

-- Back, for any level
structure Tr.Inv (T : Tr) : Prop where
  levels : ∀ m : Nat, m < T.levels.length → ∃ n : Nat, T.levels[m]! = n ∧ n ≤ T.lits.length
  lits : ∀ j : Nat, j < T.lits.length → T.isB (tv T.lits[j]!) = true

theorem trail_back (w : World) (L : TrL) (T : Tr) (h : TrAt w L T) (hi : T.Inv) (level : Int) :
    Calls Try.prog 16 #[.pointer (some ⟨L.a, 0, none⟩), .int .i64 level] w fun e w' => e = .returned (.tuple #[]) ∧ TrAt w' L (T.backF level.toNat) ∧ Fr L.fp w w' := by
  by_cases hl : level < 0
  · have e0 : level.toNat = 0 := by omega
    rw [e0]
    by_cases hm : 0 < T.levels.length
    · obtain ⟨n, hn, hnl⟩ := hi.levels 0 hm
      have e1 : T.backF 0 = T.cutF 0 n := by unfold Tr.backF; rw [if_pos hm, hn]; rfl
      rw [e1]
      exact trail_back_n_go w L T h level hl hm n hn hnl hi.lits
    · have e1 : T.backF 0 = T := by unfold Tr.backF; rw [if_neg hm]
      rw [e1]
      exact (trail_back_n_out w L T h level hl (by omega)).mono fun e w' ⟨he, hw⟩ => ⟨he, hw ▸ h, hw ▸ Fr.refl _ _⟩
  · obtain ⟨m, rfl⟩ : ∃ m : Nat, level = m := ⟨level.toNat, by omega⟩
    rw [Int.toNat_natCast]
    by_cases hm : m < T.levels.length
    · obtain ⟨n, hn, hnl⟩ := hi.levels m hm
      have e1 : T.backF m = T.cutF m n := by unfold Tr.backF; rw [if_pos hm, hn]; rfl
      rw [e1]
      exact trail_back_p_go w L T h m hm n hn hnl hi.lits
    · have e1 : T.backF m = T := by unfold Tr.backF; rw [if_neg hm]
      rw [e1]
      exact (trail_back_p_out w L T h m (by omega)).mono fun e w' ⟨he, hw⟩ => ⟨he, hw ▸ h, hw ▸ Fr.refl _ _⟩
theorem trail_back_nil (w : World) (level : Int) :
    Calls Try.prog 16 #[.pointer none, .int .i64 level] w fun e w' => e = .returned (.tuple #[]) ∧ w = w' := by
  by_cases hl : level < 0
  · exact trail_back_n_nil w level hl
  · obtain ⟨m, rfl⟩ : ∃ m : Nat, level = m := ⟨level.toNat, by omega⟩
    exact trail_back_p_nil w m

end Go.Proofs.Ytnbpnpodpnlamaa
