/- The queue's New, Again and Item walked. -/
import Derived.Test.YtnbpnpodpnlamaaQueueE
namespace Go.Proofs.Ytnbpnpodpnlamaa
open Go.RowKit
set_option linter.unusedVariables false

theorem queue_new (w : World) :
    Calls Try.prog 22 #[] w fun e w' => ∃ L : Ql, e = .returned (.pointer (some ⟨L.a, 0, none⟩)) ∧ QAt w' L [] [] ∧ (∀ k, k ∈ L.fp → w.heap.size ≤ k) ∧ Fr [] w w' := by
  have HF := Lib.hid ((Fr.refl [] w).alloc (.cells #[.slice none 0 0, .slice none 0 0, .bool true] 83))
  go_enter Try.func22, Try.ntmps22
  go_wp2_with fail
  go_ret
  refine ⟨⟨w.heap.size, none, 0, none, 0⟩, rfl, ⟨At.new w _ _, Its.nil _, Ints.nil _, by simp [Ql.fp, blks], fun m hm => by cases hm⟩, ?_, HF.out⟩
  intro k hk
  simp [Ql.fp, blks] at hk
  omega

theorem QAt.lev {w : World} {L : Ql} {M : List Im} {W : List Int} (h : QAt w L M W) {g : Nat} (hA : L.A = some ⟨g, 0, none⟩) {i : Nat} (hi : i < M.length) (l : Int) :
    QAt (w.setCell ⟨g, i * 4, none⟩ (.int .i64 l)) L (M.set i { M[i]! with l := l }) W ∧ Fr L.fp w (w.setCell ⟨g, i * 4, none⟩ (.int .i64 l)) := by
  have hm : g ∈ blks L.A := by simp [hA, blks]
  obtain ⟨h1, h2⟩ := qnodup h.nd
  have hf : Fr [g] w (w.setCell ⟨g, i * 4, none⟩ (.int .i64 l)) := (Fr.refl [g] w).setCell (.inl (by simp)) _
  have hF : Fr L.fp w (w.setCell ⟨g, i * 4, none⟩ (.int .i64 l)) := (Fr.refl L.fp w).setCell (.inl (by simp [Ql.fp, hm])) _
  have ne : ∀ k, k ≠ g → k ∉ [g] := fun k e => by simpa using e
  refine ⟨⟨?_, ?_, h.waits.fr hf (fun k hk => ne k (fun e => (h2 k hk).2 (e ▸ hm))), h.nd, fun m hmm => ?_⟩, hF⟩
  · rw [List.length_set]
    exact hf.at_ h.obj (ne _ (fun e => (h1 g hm).1 e.symm))
  · have := h.its
    rw [hA] at this ⊢
    exact this.lev hi l
  · rcases List.mem_or_eq_of_mem_set hmm with hx | hx
    · exact ⟨(h.cubes m hx).1.fr hF (h.cubes m hx).2, (h.cubes m hx).2⟩
    · subst hx
      have hin : M[i]! ∈ M := by simp [hi]
      obtain ⟨q1, q2⟩ := h.cubes _ hin
      exact ⟨(q1.lev l).fr hF q2, q2⟩

set_option maxRecDepth 100000 in
set_option maxHeartbeats 1000000 in
theorem queue_again_none (w : World) (a n c : Nat) (A : Option Addr) (h : w.cell? ⟨a, 0, none⟩ = some (.slice A n c)) (hn : n ≤ 9223372036854775807) (id l : Int) (hb : (decide (1 ≤ id) && decide (id ≤ n)) = false) :
    Calls Try.prog 46 #[.pointer (some ⟨a, 0, none⟩), .int .i64 id, .int .i64 l] w fun e w' => e = .returned (.bool false) ∧ w = w' := by
  have HB := Lib.hid hb
  clear hb
  go_enter Try.func46, Try.ntmps46
  go_wp2_with fail
  refine (queue_is w a n c A h hn id false HB.out).mono ?_
  rintro e w' ⟨rfl, rfl⟩
  go_wp2_with fail
  go_ret
  exact ⟨rfl, rfl⟩
theorem queue_again_nil (w : World) (id l : Int) :
    Calls Try.prog 46 #[.pointer none, .int .i64 id, .int .i64 l] w fun e w' => e = .returned (.bool false) ∧ w = w' := by
  go_enter Try.func46, Try.ntmps46
  go_wp2_with fail
  refine (queue_is_nil w id).mono ?_
  rintro e w' ⟨rfl, rfl⟩
  go_wp2_with fail
  go_ret
  exact ⟨rfl, rfl⟩

set_option maxRecDepth 100000 in
set_option maxHeartbeats 1000000 in
theorem queue_again_no (w : World) (L : Ql) (M : List Im) (W : List Int) (h : QAt w L M W) (id l : Int) (hb : (decide (1 ≤ id) && decide (id ≤ M.length)) = true) (hlw : W.length ≤ 2097152) (hno : l < 0 ∨ (0 ≤ l ∧ decide (id ∈ W) = true)) :
    Calls Try.prog 46 #[.pointer (some ⟨L.a, 0, none⟩), .int .i64 id, .int .i64 l] w fun e w' => e = .returned (.bool false) ∧ w = w' := by
  have HB := Lib.hid hb
  have o1 := h.o1
  have hs := h.small
  have HH := Lib.hid h
  clear hb h
  rcases hno with h1 | ⟨h1, h2⟩
  · go_enter Try.func46, Try.ntmps46
    go_wp2_with fail
    refine (queue_is w L.a _ L.c L.A HH.out.o0 hs id true HB.out).mono ?_
    rintro e w' ⟨rfl, rfl⟩
    go_wp2_with fail
    go_ret
    exact ⟨rfl, rfl⟩
  · have H2 := Lib.hid h2
    clear h2
    go_enter Try.func46, Try.ntmps46
    go_wp2_with fail
    refine (queue_is w L.a _ L.c L.A HH.out.o0 hs id true HB.out).mono ?_
    rintro e w' ⟨rfl, rfl⟩
    go_wp2_with fail
    refine (contains_is w L.B L.d W id HH.out.waits.rd (by omega) true H2.out).mono ?_
    rintro e w' ⟨rfl, rfl⟩
    go_wp2_with fail
    go_ret
    exact ⟨rfl, rfl⟩

set_option maxRecDepth 100000 in
set_option maxHeartbeats 2000000 in
theorem queue_again_yes (w : World) (L : Ql) (M : List Im) (W : List Int) (h : QAt w L M W) (id l : Int) (i : Nat) (hid : id = i + 1) (hi : i < M.length) (hlw : W.length ≤ 2097152) (hl : 0 ≤ l) (hno : decide (id ∈ W) = false) :
    Calls Try.prog 46 #[.pointer (some ⟨L.a, 0, none⟩), .int .i64 id, .int .i64 l] w fun e w' => e = .returned (.bool true) ∧
      ∃ L', QAt w' L' (M.set i { M[i]! with l := l }) (W ++ [id]) ∧ L.ext L' w ∧ Fr L.fp w w' := by
  have hb : (decide (1 ≤ id) && decide (id ≤ M.length)) = true := by
    have h1 : 1 ≤ id := by omega
    have h2 : id ≤ M.length := by omega
    simp [h1, h2]
  have HB := Lib.hid hb
  have o1 := h.o1
  have hs := h.small
  obtain ⟨g, hg, hgl⟩ := h.its.pos hi
  have o0 := h.o0
  rw [hg] at o0
  have hits := h.its
  rw [hg] at hits
  obtain ⟨c0, -, -, -⟩ := hits.cell hi
  have f0 := hits.frozen (i * 4)
  obtain ⟨q1, q2⟩ := h.lev hg hi l
  have O1 := q1.o1
  obtain ⟨V, hV⟩ : ∃ V, V = w.setCell ⟨g, i * 4, none⟩ (.int .i64 l) := ⟨_, rfl⟩
  rw [← hV] at q1 q2 O1
  have HQ := Lib.hid q1
  have HF := Lib.hid q2
  have HH := Lib.hid h
  have HID := Lib.hid hid
  have HO0 := Lib.hid o0
  have HN := Lib.hid hno
  obtain ⟨l0, hl0⟩ : ∃ l0, (M[i]!).l = l0 := ⟨_, rfl⟩
  rw [hl0] at c0
  obtain ⟨M2, hM2⟩ : ∃ M2, M.set i { M[i]! with l := l } = M2 := ⟨_, rfl⟩
  rw [hM2] at HQ ⊢
  have HM2 : Hid (M2.length = M.length) := by show _ = _; rw [← hM2, List.length_set]
  clear hb h hid hits q1 q2 hl0 hM2 hno hg
  go_enter Try.func46, Try.ntmps46
  go_wp2_with fail
  refine (queue_is w L.a _ L.c L.A HH.out.o0 hs id true HB.out).mono ?_
  rintro e w' ⟨rfl, rfl⟩
  go_wp2_with fail
  refine (contains_is w L.B L.d W id HH.out.waits.rd (by omega) false HN.out).mono ?_
  rintro e w' ⟨rfl, rfl⟩
  go_wp2_with fail
  refine (row_at w L.a _ L.c g HO0.out hs id i HID.out hi).mono ?_
  rintro e w' ⟨rfl, rfl⟩
  go_upto_region 4 with fail
  rw [← hV]
  clear hV c0 f0 o0 o1 HH HO0
  go_wp2_with (at_builtin; refine wpList_append_int _ rfl _ _ rfl L.B L.d W _ rfl rfl (HQ.out.waits.alloc _) ⟨V.heap.size, 0, none⟩ 1 id rfl (by simp) (by omega) ?_; intro g2 cap w4 hi2 hf2 hg2 hs2; have hO4 := hf2.at_ (HQ.out.obj.alloc _) (fun hk => ((qnodup HQ.out.nd).2 _ hk).1 rfl); have p4 := hO4.frozen 1; have o4 := hO4.cell 1; simp at o4; have HI4 := Lib.hid hi2; have HF4 := Lib.hid hf2; have HG4 := Lib.hid hg2; clear hi2 hf2 hg2 hs2 hO4)
  go_ret
  have q := (HQ.out.alloc _).newWaits HI4.out HF4.out (HG4.out.imp (fun e => e) (fun e => by rw [e]; exact Nat.le_refl _))
  obtain ⟨q1, q2, q3⟩ := q
  have f4 := (HF.out.alloc _).trans q3 (fun k hk => .inl hk)
  refine ⟨rfl, ⟨L.a, L.A, L.c, some ⟨g2, 0, none⟩, cap⟩, by simpa using q1, ⟨rfl, fun k hk => ?_⟩, by simpa using f4⟩
  rcases q2.2 k hk with h1 | h1
  · exact .inl h1
  · exact .inr (Nat.le_trans (HF.out.alloc _).size h1)

theorem item_results : Try.f47.results = #[.cell 4 38, .tmp 5] := by kernel_rfl
def Im.zero : Im := ⟨0, none, 0, 0, ⟨#[]⟩, 0, []⟩

set_option maxRecDepth 100000 in
set_option maxHeartbeats 1000000 in
theorem queue_item_none (w : World) (a n c : Nat) (A : Option Addr) (h : w.cell? ⟨a, 0, none⟩ = some (.slice A n c)) (ha : a < w.heap.size) (hn : n ≤ 9223372036854775807) (id : Int) (hb : (decide (1 ≤ id) && decide (id ≤ n)) = false) :
    Calls Try.prog 47 #[.pointer (some ⟨a, 0, none⟩), .int .i64 id] w fun e w' => e = .returned (.tuple #[Im.zero.val, .bool false]) ∧ Fr [] w w' := by
  have HB := Lib.hid hb
  obtain ⟨V, hV⟩ : ∃ V, V = w.alloc (.cells #[.int .i64 0, .slice none 0 0, .string ⟨#[]⟩, .int .i64 0] 38) := ⟨_, rfl⟩
  have hf : Fr [] w V := by rw [hV]; exact (Fr.refl [] w).alloc _
  have HF := Lib.hid hf
  have HO : Hid (At V w.heap.size 38 #[.int .i64 0, .slice none 0 0, .string ⟨#[]⟩, .int .i64 0]) := by rw [hV]; exact At.new w _ _
  have h0 : V.cell? ⟨a, 0, none⟩ = some (.slice A n c) := (World.cell?_of_block (hf.block a ha (by simp))).trans h
  clear hb h hf ha
  go_enter Try.func47, Try.ntmps47
  go_upto_region 1 with fail
  rw [← hV]
  clear hV
  go_wp2_with fail
  refine (queue_is V a n c A h0 hn id false HB.out).mono ?_
  rintro e w' ⟨rfl, rfl⟩
  have r0 := HO.out.cell 0
  have r1 := HO.out.cell 1
  have r2 := HO.out.cell 2
  have r3 := HO.out.cell 3
  have p0 := HO.out.frozen 0
  have p1 := HO.out.frozen 1
  have p2 := HO.out.frozen 2
  have p3 := HO.out.frozen 3
  simp at r0 r1 r2 r3
  go_wp2_with fail
  (try simp only [Exit.inBlock, Exit.then])
  refine bodyPost_ret (v := .tuple #[Im.zero.val, .bool false]) (by simp only [results, item_results, Im.zero, Im.val]; go_simp) rfl ?_
  exact ⟨rfl, (((HF.out.setCell (.inr (Nat.le_refl _)) _).setCell (.inr (Nat.le_refl _)) _).setCell (.inr (Nat.le_refl _)) _).setCell (.inr (Nat.le_refl _)) _⟩
theorem queue_item_nil (w : World) (id : Int) :
    Calls Try.prog 47 #[.pointer none, .int .i64 id] w fun e w' => e = .returned (.tuple #[Im.zero.val, .bool false]) ∧ Fr [] w w' := by
  obtain ⟨V, hV⟩ : ∃ V, V = w.alloc (.cells #[.int .i64 0, .slice none 0 0, .string ⟨#[]⟩, .int .i64 0] 38) := ⟨_, rfl⟩
  have hf : Fr [] w V := by rw [hV]; exact (Fr.refl [] w).alloc _
  have HF := Lib.hid hf
  have HO : Hid (At V w.heap.size 38 #[.int .i64 0, .slice none 0 0, .string ⟨#[]⟩, .int .i64 0]) := by rw [hV]; exact At.new w _ _
  clear hf
  go_enter Try.func47, Try.ntmps47
  go_upto_region 1 with fail
  rw [← hV]
  clear hV
  go_wp2_with fail
  refine (queue_is_nil V id).mono ?_
  rintro e w' ⟨rfl, rfl⟩
  have r0 := HO.out.cell 0
  have r1 := HO.out.cell 1
  have r2 := HO.out.cell 2
  have r3 := HO.out.cell 3
  have p0 := HO.out.frozen 0
  have p1 := HO.out.frozen 1
  have p2 := HO.out.frozen 2
  have p3 := HO.out.frozen 3
  simp at r0 r1 r2 r3
  go_wp2_with fail
  (try simp only [Exit.inBlock, Exit.then])
  refine bodyPost_ret (v := .tuple #[Im.zero.val, .bool false]) (by simp only [results, item_results, Im.zero, Im.val]; go_simp) rfl ?_
  exact ⟨rfl, (((HF.out.setCell (.inr (Nat.le_refl _)) _).setCell (.inr (Nat.le_refl _)) _).setCell (.inr (Nat.le_refl _)) _).setCell (.inr (Nat.le_refl _)) _⟩

set_option maxRecDepth 100000 in
set_option maxHeartbeats 2000000 in
theorem queue_item_yes (w : World) (L : Ql) (M : List Im) (W : List Int) (h : QAt w L M W) (id : Int) (i : Nat) (hid : id = i + 1) (hi : i < M.length) (m : Im) (hm : M[i]! = m) :
    Calls Try.prog 47 #[.pointer (some ⟨L.a, 0, none⟩), .int .i64 id] w fun e w' => ∃ C' c', e = .returned (.tuple #[Im.val { m with C := C', c := c' }, .bool true]) ∧ Cube w' { m with C := C', c := c' } ∧ (∀ k, k ∈ blks C' → w.heap.size ≤ k) ∧ Fr [] w w' := by
  have hb : (decide (1 ≤ id) && decide (id ≤ M.length)) = true := by
    have h1 : 1 ≤ id := by omega
    have h2 : id ≤ M.length := by omega
    simp [h1, h2]
  have HB := Lib.hid hb
  have hs := h.small
  obtain ⟨V, hV⟩ : ∃ V, V = w.alloc (.cells #[.int .i64 0, .slice none 0 0, .string ⟨#[]⟩, .int .i64 0] 38) := ⟨_, rfl⟩
  have hf : Fr [] w V := by rw [hV]; exact (Fr.refl [] w).alloc _
  have HF := Lib.hid hf
  have HO : Hid (At V w.heap.size 38 #[.int .i64 0, .slice none 0 0, .string ⟨#[]⟩, .int .i64 0]) := by rw [hV]; exact At.new w _ _
  have h := h.keep hf
  obtain ⟨g, hg, hgl⟩ := h.its.pos hi
  have o0 := h.o0
  rw [hg] at o0
  have hits := h.its
  rw [hg] at hits
  obtain ⟨c0, c1, c2, c3⟩ := hits.cell hi
  rw [hm] at c0 c1 c2 c3
  have HC : Hid (Cube V m) := by
    have hin : M[i]! ∈ M := by simp [hi]
    rw [hm] at hin
    exact (h.cubes m hin).1
  have HH := Lib.hid h
  have HID := Lib.hid hid
  have HO0 := Lib.hid o0
  obtain ⟨l, C, n, c, s, f, xs⟩ := m
  simp only at c0 c1 c2 c3 ⊢
  clear hb h hid hits hf hm hg o0
  go_enter Try.func47, Try.ntmps47
  go_upto_region 1 with fail
  rw [← hV]
  clear hV
  go_wp2_with fail
  refine (queue_is V L.a _ L.c L.A HH.out.o0 hs id true HB.out).mono ?_
  rintro e w' ⟨rfl, rfl⟩
  go_wp2_with fail
  refine (row_at V L.a _ L.c g HO0.out hs id i HID.out hi).mono ?_
  rintro e w' ⟨rfl, rfl⟩
  go_wp2_with fail
  refine (copied_is V ⟨l, C, n, c, s, f, xs⟩ HC.out.cub).mono ?_
  rintro e w2 ⟨C', c', rfl, hc2, hn2, hf2⟩
  simp only [Im.val] at hc2 ⊢
  have hO2 := hf2.at_ HO.out (by simp)
  have r0 := hO2.cell 0
  have r1 := hO2.cell 1
  have r2 := hO2.cell 2
  have r3 := hO2.cell 3
  have p0 := hO2.frozen 0
  have p1 := hO2.frozen 1
  have p2 := hO2.frozen 2
  have p3 := hO2.frozen 3
  simp at r0 r1 r2 r3
  have HC2 := Lib.hid hc2
  have HN2 := Lib.hid hn2
  have HF2 := Lib.hid (HF.out.then_ hf2)
  have HLT := Lib.hid HO.out.lt
  clear hc2 hn2 hf2 hO2 HC HH HO0 c0 c1 c2 c3
  go_wp2_with fail
  (try simp only [Exit.inBlock, Exit.then])
  refine bodyPost_ret (v := .tuple #[.agg #[.int .i64 l, .slice C' n c', .string s, .int .i64 f], .bool true]) (by simp only [results, item_results]; go_simp) rfl ?_
  have h0 : Fr [w.heap.size] w2 w2 := Fr.refl _ _
  have h1 := (((h0.setCell (p := ⟨w.heap.size, 0, none⟩) (.inl (by simp)) (.int .i64 l)).setCell (p := ⟨w.heap.size, 0 + 1, none⟩) (.inl (by simp)) (.slice C' n c')).setCell (p := ⟨w.heap.size, 0 + 2, none⟩) (.inl (by simp)) (.string s)).setCell (p := ⟨w.heap.size, 0 + 3, none⟩) (.inl (by simp)) (.int .i64 f)
  refine ⟨C', c', rfl, HC2.out.fr h1 (fun k hk hk' => ?_), fun k hk => Nat.le_trans HF.out.size (HN2.out k hk), HF2.out.trans h1 (fun k hk => .inr ?_)⟩
  · have h2 := HN2.out k hk
    have h3 := HLT.out
    simp only [List.mem_singleton] at hk'
    omega
  · simp only [List.mem_singleton] at hk
    omega

end Go.Proofs.Ytnbpnpodpnlamaa
