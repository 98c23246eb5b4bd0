/- The queue's Put walked. -/
import Derived.Test.YtnbpnpodpnlamaaQueueD
namespace Go.Proofs.Ytnbpnpodpnlamaa
open Go.RowKit
set_option linter.unusedVariables false

theorem put_results : Try.f23.results = #[.tmp 4, .tmp 5] := by kernel_rfl
theorem QAt.small {w : World} {L : Ql} {M : List Im} {W : List Int} (h : QAt w L M W) : M.length ≤ 9223372036854775807 := by
  rcases h.its.form with ⟨_, _, rfl⟩ | ⟨_, _, _, h1, h2⟩
  · simp
  · unfold maxLen at h2; omega

set_option maxRecDepth 100000 in
set_option maxHeartbeats 1000000 in
theorem queue_put_no (w : World) (L : Ql) (M : List Im) (W : List Int) (h : QAt w L M W) (m : Im) (hno : m.l < 0 ∨ (0 ≤ m.l ∧ m.f ≠ 0 ∧ (decide (1 ≤ m.f) && decide (m.f ≤ M.length)) = false)) :
    Calls Try.prog 23 #[.pointer (some ⟨L.a, 0, none⟩), m.val] w fun e w' => e = .returned (.tuple #[.int .i64 0, .bool false]) ∧ Fr [] w w' := by
  obtain ⟨l, C, n, c, s, f, xs⟩ := m
  simp only [Im.val]
  simp only at hno
  have HH : Hid (QAt (w.alloc (.cells #[.int .i64 l, .slice C n c, .string s, .int .i64 f] 38)) L M W) := h.alloc _
  have HF := Lib.hid ((Fr.refl [] w).alloc (.cells #[.int .i64 l, .slice C n c, .string s, .int .i64 f] 38))
  have o2 := HH.out.o2
  have hlen := h.small
  clear h
  rcases hno with h1 | ⟨h1, h2, h3⟩
  · go_enter Try.func23, Try.ntmps23
    go_wp2_with fail
    (try simp only [Exit.inBlock, Exit.then])
    refine bodyPost_ret (v := .tuple #[.int .i64 0, .bool false]) (by simp only [results, put_results]; go_simp) rfl ?_
    exact ⟨rfl, HF.out⟩
  · have H3 := Lib.hid h3
    have hb : (f != 0) = true := bne_iff_ne.2 h2
    clear h3
    go_enter Try.func23, Try.ntmps23
    go_wp2_with fail
    refine (queue_is _ L.a M.length L.c L.A HH.out.o0 hlen f false H3.out).mono ?_
    rintro e w' ⟨rfl, rfl⟩
    go_wp2_with fail
    (try simp only [Exit.inBlock, Exit.then])
    refine bodyPost_ret (v := .tuple #[.int .i64 0, .bool false]) (by simp only [results, put_results]; go_simp) rfl ?_
    exact ⟨rfl, HF.out⟩

set_option maxRecDepth 100000 in
set_option maxHeartbeats 1000000 in
theorem queue_put_nil (w : World) (m : Im) :
    Calls Try.prog 23 #[.pointer none, m.val] w fun e w' => e = .returned (.tuple #[.int .i64 0, .bool false]) ∧ Fr [] w w' := by
  obtain ⟨l, C, n, c, s, f, xs⟩ := m
  simp only [Im.val]
  have HF := Lib.hid ((Fr.refl [] w).alloc (.cells #[.int .i64 l, .slice C n c, .string s, .int .i64 f] 38))
  go_enter Try.func23, Try.ntmps23
  go_wp2_with fail
  (try simp only [Exit.inBlock, Exit.then])
  refine bodyPost_ret (v := .tuple #[.int .i64 0, .bool false]) (by simp only [results, put_results]; go_simp) rfl ?_
  exact ⟨rfl, HF.out⟩
set_option maxRecDepth 100000 in
set_option maxHeartbeats 1000000 in
theorem queue_put_bare (w : World) (a : Nat) (h : At w a 83 #[.slice none 0 0, .slice none 0 0, .bool false]) (m : Im) :
    Calls Try.prog 23 #[.pointer (some ⟨a, 0, none⟩), m.val] w fun e w' => e = .returned (.tuple #[.int .i64 0, .bool false]) ∧ Fr [] w w' := by
  obtain ⟨l, C, n, c, s, f, xs⟩ := m
  simp only [Im.val]
  have HF := Lib.hid ((Fr.refl [] w).alloc (.cells #[.int .i64 l, .slice C n c, .string s, .int .i64 f] 38))
  have h2 := h.alloc (.cells #[.int .i64 l, .slice C n c, .string s, .int .i64 f] 38)
  have o2 := h2.cell 2
  simp at o2
  clear h h2
  go_enter Try.func23, Try.ntmps23
  go_wp2_with fail
  (try simp only [Exit.inBlock, Exit.then])
  refine bodyPost_ret (v := .tuple #[.int .i64 0, .bool false]) (by simp only [results, put_results]; go_simp) rfl ?_
  exact ⟨rfl, HF.out⟩

set_option maxRecDepth 100000 in
set_option maxHeartbeats 4000000 in
theorem queue_put_yes (w : World) (L : Ql) (M : List Im) (W : List Int) (h : QAt w L M W) (m : Im) (hm : Cub w m) (hl : 0 ≤ m.l) (hf : m.f = 0 ∨ (m.f ≠ 0 ∧ (decide (1 ≤ m.f) && decide (m.f ≤ M.length)) = true)) (hlen : M.length ≤ 2097152) (hlw : W.length ≤ 2097152) :
    Calls Try.prog 23 #[.pointer (some ⟨L.a, 0, none⟩), m.val] w fun e w' => e = .returned (.tuple #[.int .i64 (M.length + 1 : Nat), .bool true]) ∧
      ∃ L' C' c', QAt w' L' (M ++ [{ m with C := C', c := c' }]) (W ++ [((M.length + 1 : Nat) : Int)]) ∧ L.ext L' w ∧ (∀ k, k ∈ blks C' → w.heap.size ≤ k) ∧ Fr L.fp w w' := by
  obtain ⟨l, C, n, c, s, f, xs⟩ := m
  simp only [Im.val]
  simp only at hl hf
  obtain ⟨V, hV⟩ : ∃ V, V = w.alloc (.cells #[.int .i64 l, .slice C n c, .string s, .int .i64 f] 38) := ⟨_, rfl⟩
  have HVW : Hid (Fr [] w V) := by rw [hV]; exact (Fr.refl [] w).alloc _
  have HH : Hid (QAt V L M W) := h.keep HVW.out
  have HC := Lib.hid (hm.keep HVW.out)
  have HB : Hid (At V w.heap.size 38 #[.int .i64 l, .slice C n c, .string s, .int .i64 f]) := by rw [hV]; exact At.new w _ _
  have hs := h.small
  clear h hm
  go_enter Try.func23, Try.ntmps23
  go_upto_region 1 with fail
  rw [← hV]
  clear hV
  have hws : ∃ bx, w.heap.size = bx := ⟨_, rfl⟩
  obtain ⟨bx, hbx⟩ := hws
  rw [hbx] at HB ⊢
  have HBX := Lib.hid hbx
  clear hbx
  have o2 := HH.out.o2
  have b0 := HB.out.cell 0
  have b1 := HB.out.cell 1
  have b2 := HB.out.cell 2
  have b3 := HB.out.cell 3
  simp at b0 b1 b2 b3
  go_cut [32] (fun st wx => st = .bool false ∧ V = wx)
  case first =>
    rcases hf with rfl | ⟨h2, h3⟩
    · go_wp2_with fail
      go_meet
      exact ⟨by rw [decide_eq_false (by omega)], rfl⟩
    · have H3 := Lib.hid h3
      have hb : (f != 0) = true := bne_iff_ne.2 h2
      clear h3
      go_wp2_with fail
      refine (queue_is _ L.a M.length L.c L.A HH.out.o0 hs f true H3.out).mono ?_
      rintro e w' ⟨rfl, rfl⟩
      go_wp2_with fail
      go_meet
      exact ⟨by rw [decide_eq_false (by omega)], rfl⟩
  case rest =>
    obtain ⟨rfl, rfl⟩ := hcut
    go_upto_region 3 with fail
    go_region_with (first | (go_at_call 55; refine (copied_is _ ⟨l, C, n, c, s, f, xs⟩ (HC.out.keep ((Fr.refl [] V).drewN _))).mono ?_; rintro e w2 ⟨C', c', rfl, hc2, hn2, hf2⟩; have HC2 := Lib.hid hc2; have HN2 := Lib.hid hn2; have HF2 := Lib.hid hf2; clear hc2 hn2 hf2) | (go_at_call 54; refine (row_put _ L M W (HH.out.keep (((Fr.refl [] V).drewN _).then_ HF2.out)) ⟨l, C', n, c', s, f, xs⟩ HC2.out (fun k hk hk' => by have h1 := HH.out.lt k hk'; have h2 := HN2.out k hk; simp at h2; omega) hlen).mono ?_; rintro e w3 ⟨rfl, L3, hq3, hx3, hf3⟩; have HQ3 := Lib.hid hq3; have HX3 := Lib.hid hx3; have HF3 := Lib.hid hf3; clear hq3 hx3 hf3))
    have a3 : L3.a = L.a := HX3.out.1
    have o1 := HQ3.out.o1
    have p1 := HQ3.out.obj.frozen 1
    rw [a3] at o1 p1
    go_wp2_with (at_builtin; refine wpList_append_int _ rfl _ _ rfl L3.B L3.d W _ rfl rfl (HQ3.out.waits.alloc _) ⟨w3.heap.size, 0, none⟩ 1 (M.length + 1 : Nat) rfl (by simp) (by omega) ?_; intro g2 cap w4 hi2 hf2 hg2 hs2; have hO4 := hf2.at_ (HQ3.out.obj.alloc _) (fun hk => ((qnodup HQ3.out.nd).2 _ hk).1 rfl); have p4 := hO4.frozen 1; have o4 := hO4.cell 1; rw [a3] at p4 o4; simp at o4; have HI4 := Lib.hid hi2; have HF4 := Lib.hid hf2; have HG4 := Lib.hid hg2; clear hi2 hf2 hg2 hs2 hO4)
    (try simp only [Exit.inBlock, Exit.then])
    refine bodyPost_ret (v := .tuple #[.int .i64 ((M.length : Int) + 1), .bool true]) (by simp only [results, put_results]; go_simp) rfl ?_
    have q := (HQ3.out.alloc _).newWaits HI4.out HF4.out (HG4.out.imp id (fun e => by rw [e]; exact Nat.le_refl _))
    rw [a3] at q
    obtain ⟨q1, q2, q3⟩ := q
    have f1 : Fr L.fp w w2 := (HVW.out.mono (fun k hk => by cases hk)).trans (((Fr.refl [] V).drewN _).then_ HF2.out) (fun k hk => by cases hk)
    have f2 : Fr L.fp w w3 := f1.then_ HF3.out
    have f4 := (f2.alloc _).trans q3 (fun k hk => (HX3.out.2 k hk).imp id (fun h => Nat.le_trans f1.size h))
    refine ⟨by simp, ⟨L.a, L3.A, L3.c, some ⟨g2, 0, none⟩, cap⟩, C', c', by simpa using q1, ⟨rfl, fun k hk => ?_⟩, fun k hk => Nat.le_trans (HVW.out.drewN _).size (HN2.out k hk), by simpa using f4⟩
    rcases q2.2 k hk with h1 | h1
    · exact (HX3.out.2 k h1).imp id (fun h => Nat.le_trans f1.size h)
    · exact .inr (Nat.le_trans (f2.alloc _).size h1)

end Go.Proofs.Ytnbpnpodpnlamaa
