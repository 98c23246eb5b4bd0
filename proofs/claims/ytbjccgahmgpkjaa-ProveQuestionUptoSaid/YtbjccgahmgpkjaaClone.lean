/- slices.Clone at ints, latches, ands and names walked. -/
import Derived.Test.YtbjccgahmgpkjaaSl
namespace Go.Proofs.Ytbjccgahmgpkjaa
open Go.RowKit
set_option linter.unusedVariables false

theorem infoLatch : (Try.prog.info? 67).map (fun i => (i.zero, i.size, i.bytes)) = some (some (.agg #[.int .i64 0, .int .i64 0, .int .i64 0]), 3, 24) := by kernel_rfl
theorem infoAnd : (Try.prog.info? 70).map (fun i => (i.zero, i.size, i.bytes)) = some (some (.agg #[.int .i64 0, .int .i64 0, .int .i64 0]), 3, 24) := by kernel_rfl
theorem infoName : (Try.prog.info? 61).map (fun i => (i.zero, i.size, i.bytes)) = some (some (.agg #[.string ⟨#[]⟩, .int .i64 0, .string ⟨#[]⟩]), 3, 40) := by kernel_rfl

/-- A row of the call's own: what Clone hands back. -/
def ClP (w : World) (e : TypeId) (size n : Nat) (vs : List Value) (en : Ending) (w' : World) : Prop :=
  ∃ A' c', en = .returned (.slice A' n c') ∧ w'.ownsRow 0 e size (.slice A' n c') n vs ∧ (∀ k, k ∈ blks A' → w.heap.size ≤ k) ∧ Fr [] w w'

set_option maxRecDepth 100000 in
set_option maxHeartbeats 1000000 in
theorem clone_ints (w : World) (A : Option Addr) (n c : Nat) (vs : List Value) (hnil : A = none → n = 0 ∧ c = 0) (hrs : Rs w A vs) (hlen : vs.length = n * 1) (h1 : ∀ u ∈ vs, u.oneCell' = true) (hb : n * 8 ≤ 140737488355328) :
    Calls Try.prog 37 #[.slice A n c] w (ClP w 3 1 n vs) := by
  have HR := Lib.hid hrs
  have H1 := Lib.hid h1
  have HN := Lib.hid hnil
  have HL := Lib.hid hlen
  have YES : Hid (∀ A' c' w', w'.ownsRow 0 3 1 (.slice A' n c') n vs → (∀ k, k ∈ blks A' → w.heap.size ≤ k) → Fr [] w w' → ClP w 3 1 n vs (.returned (.slice A' n c')) w') := fun A' c' w' h1 h2 h3 => ⟨A', c', rfl, h1, h2, h3⟩
  clear hrs h1 hnil hlen
  cases A with
  | none =>
    obtain ⟨rfl, rfl⟩ := HN.out rfl
    have HE := Lib.hid (List.eq_nil_of_length_eq_zero (by simpa using HL.out) : vs = [])
    have he : ∀ w : World, (binOp .eql 22 (.slice none 0 0) (.slice none 0 0)).run Try.prog w = .ok (.bool true) w := fun w => Lib.run_eql_slice_nil w _ _ _ _ _ _ _ Try.underlying22
    go_enter Try.func37, Try.ntmps37
    go_wp2_with fail
    go_ret
    exact YES.out none 0 _ (by rw [HE.out]; exact World.ownsRow_nil _ 0 _ 1) (by simp [blks]) (Fr.refl _ _)
  | some ad =>
    have he : ∀ w : World, (binOp .eql 22 (.slice (some ad) n c) (.slice none 0 0)).run Try.prog w = .ok (.bool false) w := fun w => Lib.run_eql_slice_nil w _ _ _ _ _ _ _ Try.underlying22
    go_enter Try.func37, Try.ntmps37
    go_wp2_with (at_builtin; (refine wpList_append_rs _ rfl _ _ 22 rfl 3 (.int .i64 0) 1 8 Try.underlying22 infoInt rfl (by decide) (some ⟨w.heap.size, 0, none⟩) 0 0 rfl [] ?hown (some ad) n c rfl vs HL.out (fun h => by cases h) (HR.out.keep (box_fr _ _)) H1.out (by unfold maxLen; omega) (by omega) ?_; (case hown => exact World.ownsRow_lit w #[] 0 (Nat.zero_le _) (by simp [maxLen]) (by simp)); intro A2 cap w2 hi2 hf2 hg2 hs2 hn2; have HI2 := Lib.hid hi2; have HF2 := Lib.hid hf2; have HG2 := Lib.hid hg2; clear hi2 hf2 hg2 hs2 hn2))
    go_ret
    have hI : w2.ownsRow 0 3 1 (.slice A2 n cap) n vs := by
      have := HI2.out
      simpa using this
    have hz : 0 + n = n := Nat.zero_add n
    simp only
    refine YES.out A2 cap _ hI (fun k hk => ?_) ?_
    · rcases HG2.out k hk with h | h
      · simp [blks] at h; omega
      · rw [h]; simp
    · exact ((Fr.refl [] w).alloc _).trans HF2.out (fun k hk => .inr (by simp [blks] at hk; omega))

set_option maxRecDepth 100000 in
set_option maxHeartbeats 1000000 in
theorem clone_lats (w : World) (A : Option Addr) (n c : Nat) (vs : List Value) (hnil : A = none → n = 0 ∧ c = 0) (hrs : Rs w A vs) (hlen : vs.length = n * 3) (h1 : ∀ u ∈ vs, u.oneCell' = true) (hb : n * 24 ≤ 140737488355328) :
    Calls Try.prog 47 #[.slice A n c] w (ClP w 67 3 n vs) := by
  have HR := Lib.hid hrs
  have H1 := Lib.hid h1
  have HN := Lib.hid hnil
  have HL := Lib.hid hlen
  have YES : Hid (∀ A' c' w', w'.ownsRow 0 67 3 (.slice A' n c') n vs → (∀ k, k ∈ blks A' → w.heap.size ≤ k) → Fr [] w w' → ClP w 67 3 n vs (.returned (.slice A' n c')) w') := fun A' c' w' h1 h2 h3 => ⟨A', c', rfl, h1, h2, h3⟩
  clear hrs h1 hnil hlen
  cases A with
  | none =>
    obtain ⟨rfl, rfl⟩ := HN.out rfl
    have HE := Lib.hid (List.eq_nil_of_length_eq_zero (by simpa using HL.out) : vs = [])
    have he : ∀ w : World, (binOp .eql 23 (.slice none 0 0) (.slice none 0 0)).run Try.prog w = .ok (.bool true) w := fun w => Lib.run_eql_slice_nil w _ _ _ _ _ _ _ Try.underlying23
    go_enter Try.func47, Try.ntmps47
    go_wp2_with fail
    go_ret
    exact YES.out none 0 _ (by rw [HE.out]; exact World.ownsRow_nil _ 0 _ 3) (by simp [blks]) (Fr.refl _ _)
  | some ad =>
    have he : ∀ w : World, (binOp .eql 23 (.slice (some ad) n c) (.slice none 0 0)).run Try.prog w = .ok (.bool false) w := fun w => Lib.run_eql_slice_nil w _ _ _ _ _ _ _ Try.underlying23
    go_enter Try.func47, Try.ntmps47
    go_wp2_with (at_builtin; (refine wpList_append_rs _ rfl _ _ 23 rfl 67 (.agg #[.int .i64 0, .int .i64 0, .int .i64 0]) 3 24 Try.underlying23 infoLatch rfl (by decide) (some ⟨w.heap.size, 0, none⟩) 0 0 rfl [] ?hown (some ad) n c rfl vs HL.out (fun h => by cases h) (HR.out.keep (box_fr _ _)) H1.out (by unfold maxLen; omega) (by omega) ?_; (case hown => exact World.ownsRow_lit w #[] 0 (Nat.zero_le _) (by simp [maxLen]) (by simp)); intro A2 cap w2 hi2 hf2 hg2 hs2 hn2; have HI2 := Lib.hid hi2; have HF2 := Lib.hid hf2; have HG2 := Lib.hid hg2; clear hi2 hf2 hg2 hs2 hn2))
    go_ret
    have hI : w2.ownsRow 0 67 3 (.slice A2 n cap) n vs := by
      have := HI2.out
      simpa using this
    have hz : 0 + n = n := Nat.zero_add n
    simp only
    refine YES.out A2 cap _ hI (fun k hk => ?_) ?_
    · rcases HG2.out k hk with h | h
      · simp [blks] at h; omega
      · rw [h]; simp
    · exact ((Fr.refl [] w).alloc _).trans HF2.out (fun k hk => .inr (by simp [blks] at hk; omega))

set_option maxRecDepth 100000 in
set_option maxHeartbeats 1000000 in
theorem clone_ands (w : World) (A : Option Addr) (n c : Nat) (vs : List Value) (hnil : A = none → n = 0 ∧ c = 0) (hrs : Rs w A vs) (hlen : vs.length = n * 3) (h1 : ∀ u ∈ vs, u.oneCell' = true) (hb : n * 24 ≤ 140737488355328) :
    Calls Try.prog 48 #[.slice A n c] w (ClP w 70 3 n vs) := by
  have HR := Lib.hid hrs
  have H1 := Lib.hid h1
  have HN := Lib.hid hnil
  have HL := Lib.hid hlen
  have YES : Hid (∀ A' c' w', w'.ownsRow 0 70 3 (.slice A' n c') n vs → (∀ k, k ∈ blks A' → w.heap.size ≤ k) → Fr [] w w' → ClP w 70 3 n vs (.returned (.slice A' n c')) w') := fun A' c' w' h1 h2 h3 => ⟨A', c', rfl, h1, h2, h3⟩
  clear hrs h1 hnil hlen
  cases A with
  | none =>
    obtain ⟨rfl, rfl⟩ := HN.out rfl
    have HE := Lib.hid (List.eq_nil_of_length_eq_zero (by simpa using HL.out) : vs = [])
    have he : ∀ w : World, (binOp .eql 24 (.slice none 0 0) (.slice none 0 0)).run Try.prog w = .ok (.bool true) w := fun w => Lib.run_eql_slice_nil w _ _ _ _ _ _ _ Try.underlying24
    go_enter Try.func48, Try.ntmps48
    go_wp2_with fail
    go_ret
    exact YES.out none 0 _ (by rw [HE.out]; exact World.ownsRow_nil _ 0 _ 3) (by simp [blks]) (Fr.refl _ _)
  | some ad =>
    have he : ∀ w : World, (binOp .eql 24 (.slice (some ad) n c) (.slice none 0 0)).run Try.prog w = .ok (.bool false) w := fun w => Lib.run_eql_slice_nil w _ _ _ _ _ _ _ Try.underlying24
    go_enter Try.func48, Try.ntmps48
    go_wp2_with (at_builtin; (refine wpList_append_rs _ rfl _ _ 24 rfl 70 (.agg #[.int .i64 0, .int .i64 0, .int .i64 0]) 3 24 Try.underlying24 infoAnd rfl (by decide) (some ⟨w.heap.size, 0, none⟩) 0 0 rfl [] ?hown (some ad) n c rfl vs HL.out (fun h => by cases h) (HR.out.keep (box_fr _ _)) H1.out (by unfold maxLen; omega) (by omega) ?_; (case hown => exact World.ownsRow_lit w #[] 0 (Nat.zero_le _) (by simp [maxLen]) (by simp)); intro A2 cap w2 hi2 hf2 hg2 hs2 hn2; have HI2 := Lib.hid hi2; have HF2 := Lib.hid hf2; have HG2 := Lib.hid hg2; clear hi2 hf2 hg2 hs2 hn2))
    go_ret
    have hI : w2.ownsRow 0 70 3 (.slice A2 n cap) n vs := by
      have := HI2.out
      simpa using this
    have hz : 0 + n = n := Nat.zero_add n
    simp only
    refine YES.out A2 cap _ hI (fun k hk => ?_) ?_
    · rcases HG2.out k hk with h | h
      · simp [blks] at h; omega
      · rw [h]; simp
    · exact ((Fr.refl [] w).alloc _).trans HF2.out (fun k hk => .inr (by simp [blks] at hk; omega))

set_option maxRecDepth 100000 in
set_option maxHeartbeats 1000000 in
theorem clone_nms (w : World) (A : Option Addr) (n c : Nat) (vs : List Value) (hnil : A = none → n = 0 ∧ c = 0) (hrs : Rs w A vs) (hlen : vs.length = n * 3) (h1 : ∀ u ∈ vs, u.oneCell' = true) (hb : n * 40 ≤ 140737488355328) :
    Calls Try.prog 49 #[.slice A n c] w (ClP w 61 3 n vs) := by
  have HR := Lib.hid hrs
  have H1 := Lib.hid h1
  have HN := Lib.hid hnil
  have HL := Lib.hid hlen
  have YES : Hid (∀ A' c' w', w'.ownsRow 0 61 3 (.slice A' n c') n vs → (∀ k, k ∈ blks A' → w.heap.size ≤ k) → Fr [] w w' → ClP w 61 3 n vs (.returned (.slice A' n c')) w') := fun A' c' w' h1 h2 h3 => ⟨A', c', rfl, h1, h2, h3⟩
  clear hrs h1 hnil hlen
  cases A with
  | none =>
    obtain ⟨rfl, rfl⟩ := HN.out rfl
    have HE := Lib.hid (List.eq_nil_of_length_eq_zero (by simpa using HL.out) : vs = [])
    have he : ∀ w : World, (binOp .eql 25 (.slice none 0 0) (.slice none 0 0)).run Try.prog w = .ok (.bool true) w := fun w => Lib.run_eql_slice_nil w _ _ _ _ _ _ _ Try.underlying25
    go_enter Try.func49, Try.ntmps49
    go_wp2_with fail
    go_ret
    exact YES.out none 0 _ (by rw [HE.out]; exact World.ownsRow_nil _ 0 _ 3) (by simp [blks]) (Fr.refl _ _)
  | some ad =>
    have he : ∀ w : World, (binOp .eql 25 (.slice (some ad) n c) (.slice none 0 0)).run Try.prog w = .ok (.bool false) w := fun w => Lib.run_eql_slice_nil w _ _ _ _ _ _ _ Try.underlying25
    go_enter Try.func49, Try.ntmps49
    go_wp2_with (at_builtin; (refine wpList_append_rs _ rfl _ _ 25 rfl 61 (.agg #[.string ⟨#[]⟩, .int .i64 0, .string ⟨#[]⟩]) 3 40 Try.underlying25 infoName rfl (by decide) (some ⟨w.heap.size, 0, none⟩) 0 0 rfl [] ?hown (some ad) n c rfl vs HL.out (fun h => by cases h) (HR.out.keep (box_fr _ _)) H1.out (by unfold maxLen; omega) (by omega) ?_; (case hown => exact World.ownsRow_lit w #[] 0 (Nat.zero_le _) (by simp [maxLen]) (by simp)); intro A2 cap w2 hi2 hf2 hg2 hs2 hn2; have HI2 := Lib.hid hi2; have HF2 := Lib.hid hf2; have HG2 := Lib.hid hg2; clear hi2 hf2 hg2 hs2 hn2))
    go_ret
    have hI : w2.ownsRow 0 61 3 (.slice A2 n cap) n vs := by
      have := HI2.out
      simpa using this
    have hz : 0 + n = n := Nat.zero_add n
    simp only
    refine YES.out A2 cap _ hI (fun k hk => ?_) ?_
    · rcases HG2.out k hk with h | h
      · simp [blks] at h; omega
      · rw [h]; simp
    · exact ((Fr.refl [] w).alloc _).trans HF2.out (fun k hk => .inr (by simp [blks] at hk; omega))

end Go.Proofs.Ytbjccgahmgpkjaa
