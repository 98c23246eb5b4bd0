/- Delete walked. -/
import Derived.Test.YtnbpnpodpnlamaaQueueB
import Derived.Deep.RegionLaw
import Derived.Lib.SliceRun
import Derived.Deep.MidRow
namespace Go.Proofs.Ytnbpnpodpnlamaa
open Go.RowKit Go.Lib
set_option linter.unusedVariables false

def setL : List Int → Nat → List Int → List Int
  | xs, _, [] => xs
  | xs, o, y :: ys => setL (xs.set o y) (o + 1) ys
theorem setL_len : ∀ (ys xs : List Int) (o : Nat), (setL xs o ys).length = xs.length := by
  intro ys
  induction ys with
  | nil => intro xs o; rfl
  | cons y ys ih => intro xs o; rw [setL, ih, List.length_set]
theorem setL_eq : ∀ (ys xs : List Int) (o : Nat), o + ys.length ≤ xs.length → setL xs o ys = xs.take o ++ ys ++ xs.drop (o + ys.length) := by
  intro ys
  induction ys with
  | nil => intro xs o h; simp [setL]
  | cons y ys ih =>
    intro xs o h
    simp only [List.length_cons] at h
    rw [setL, ih _ _ (by rw [List.length_set]; omega)]
    have h1 : (xs.set o y).take (o + 1) = xs.take o ++ [y] := by
      rw [List.take_add_one, List.take_set_of_le (Nat.le_refl o)]
      simp [show o < xs.length by omega]
    rw [h1, List.drop_set_of_lt (by omega)]
    simp only [List.append_assoc, List.cons_append, List.nil_append, List.length_cons]
    rw [show o + 1 + ys.length = o + (ys.length + 1) by omega]
theorem Ints.setCells_ {g c : Nat} : ∀ (ys : List Int) (o : Nat) (w : World) (xs : List Int), Ints w (some ⟨g, 0, none⟩) c xs → Ints (w.setCells g o (ys.map (Value.int .i64))) (some ⟨g, 0, none⟩) c (setL xs o ys) := by
  intro ys
  induction ys with
  | nil => intro o w xs h; exact h
  | cons y ys ih => intro o w xs h; exact ih (o + 1) _ _ (h.set_ o y)
theorem Fr.setCells_ {S : List Nat} {w0 : World} {g : Nat} (hg : g ∈ S ∨ w0.heap.size ≤ g) : ∀ (vs : List Value) (o : Nat) (w : World), Fr S w0 w → Fr S w0 (w.setCells g o vs) := by
  intro vs
  induction vs with
  | nil => intro o w h; exact h
  | cons v vs ih => intro o w h; exact ih (o + 1) _ (h.setCell (p := ⟨g, o, none⟩) hg v)

set_option maxHeartbeats 4000000 in
set_option maxRecDepth 1000000 in
theorem delete_cells (w : World) (blk off cap i j : Nat) (d : List Int) (hc : ∀ t : Nat, t < d.length → w.cell? ⟨blk, off + t, none⟩ = some (.int .i64 d[t]!)) (hf : ∀ t : Nat, t < d.length → w.frozen? ⟨blk, off + t, none⟩ = false)
    (hcap : d.length ≤ cap) (hm : cap ≤ 9223372036854775807) (hij : j = i + 1) (hj : j ≤ d.length) :
    Calls Try.prog 66 #[.slice (some ⟨blk, off, none⟩) d.length cap, .int .i64 i, .int .i64 j] w fun e w' => e = .returned (.slice (some ⟨blk, off, none⟩) (d.length - 1) cap) ∧
      w' = ((w.drew.setCells blk (off + i * 1) ((d.drop j).map (Value.int .i64))).setCells blk (off + (i + (d.length - j))) [.int .i64 0]) := by
  obtain ⟨i0, hi0, hz0, hz1, hz2⟩ := info_parts infoInt
  have hlt : i < j := by omega
  have hjd : d.length - (i + (d.length - j)) = 1 := by omega
  have hd1 : d.length - 1 = i + (d.length - j) := by omega
  obtain ⟨news, hnews⟩ : ∃ news, news = (d.drop j).map (Value.int .i64) := ⟨_, rfl⟩
  have hlen : news.length = d.length - j := by rw [hnews]; simp
  have hget : ∀ t, t < d.length - j → news[t]? = some (.int .i64 d[j + t]!) := by
    intro t ht
    rw [hnews, List.getElem?_map, List.getElem?_drop, List.getElem?_eq_getElem (show j + t < d.length by omega)]
    simp [show j + t < d.length by omega]
  obtain ⟨A, hA, hsrc⟩ : ∃ A : Addr, (if cap = j then some (⟨blk, off, none⟩ : Addr) else some ⟨blk, off + j, none⟩) = some A ∧ Hid (∀ t u, news[t]? = some u → w.drew.cell? (A.add t) = some u) := by
    by_cases h : cap = j
    · refine ⟨⟨blk, off, none⟩, by simp [h], fun t u hu => ?_⟩
      have h0 : news.length = 0 := by rw [hlen]; omega
      rw [List.length_eq_zero_iff.1 h0] at hu
      simp at hu
    · refine ⟨⟨blk, off + j, none⟩, by simp [h], fun t u hu => ?_⟩
      have ht : t < d.length - j := by
        have := (List.getElem?_eq_some_iff.1 hu).1
        rwa [hlen] at this
      rw [hget t ht] at hu
      rw [adr_add, show off + j + t = off + (j + t) by omega]
      exact (hc (j + t) (by omega)).trans hu
  have s1 : Hid (news.length = (d.length - j) * 1) := by rw [Nat.mul_one]; exact hlen
  have s2 : Hid (∀ u ∈ news, u.oneCell' = true) := by
    intro u hu
    rw [hnews] at hu
    obtain ⟨x, _, rfl⟩ := List.mem_map.1 hu
    rfl
  have s3 : Hid (∀ t, t < news.length → (w.drew.cell? ⟨blk, off + i * 1 + t, none⟩).isSome = true ∧ w.drew.frozen? ⟨blk, off + i * 1 + t, none⟩ = false) := by
    intro t ht
    rw [hlen] at ht
    rw [Nat.mul_one, Nat.add_assoc]
    exact ⟨by show (w.cell? _).isSome = true; rw [hc (i + t) (by omega)]; rfl, hf (i + t) (by omega)⟩
  obtain ⟨W1, hW1⟩ : ∃ W1, W1 = w.drew.setCells blk (off + i * 1) news := ⟨_, rfl⟩
  have hcW : ∀ t : Nat, t < d.length → (W1.cell? ⟨blk, off + t, none⟩).isSome = true ∧ W1.frozen? ⟨blk, off + t, none⟩ = false := by
    intro t ht
    rw [hW1]
    refine ⟨?_, ?_⟩
    · refine World.isSome_setCells _ _ _ _ _ ?_
      show (w.cell? _).isSome = true
      rw [hc t ht]; rfl
    · rw [World.frozen?_setCells]
      exact hf t ht
  have hcl : ∀ ty, (Builtin.clear_ #[22] ty #[.slice (some ⟨blk, off + (i + (d.length - j)), none⟩) (d.length - (i + (d.length - j))) (cap - (i + (d.length - j)))]).run Try.prog W1 = .ok (.tuple #[]) (W1.setCells blk (off + (i + (d.length - j))) (List.replicate (d.length - (i + (d.length - j))) (.int .i64 0))) :=
    fun ty => run_clear_slice W1 _ _ ty _ Try.underlying22 Try.zeroValue3 rfl rfl blk (off + (i + (d.length - j))) _ _ (by omega)
      (fun t ht => by rw [show off + (i + (d.length - j)) + t = off + (i + (d.length - j) + t) by omega]; exact (hcW _ (by omega)).1)
      (fun t ht => by rw [show off + (i + (d.length - j)) + t = off + (i + (d.length - j) + t) by omega]; exact (hcW _ (by omega)).2)
  rw [hjd] at hcl
  have hW : Hid (W1 = w.drew.setCells blk (off + i * 1) news) := hW1
  have hic : i ≤ cap := by omega
  have hjc : j ≤ cap := by omega
  have HD1 := Lib.hid hd1
  have HNW := Lib.hid hnews
  clear hW1 hcW hc hf hget hnews hlen hij hd1
  go_enter Try.func66, Try.ntmps66
  go_wp2_with fail
  go_region_law (refine step_append_room rfl (.tmp 22) (.tmp 25) 22 rfl 3 i0 1 Try.underlying22 hi0 hz1 blk off i cap (by simp [Act.eval, Act.put]) A (d.length - j) (cap - j) news (by simp [Act.eval, Act.put]) s1.out hsrc.out s2.out (by omega) s3.out ?_; rw [← hW.out])
  go_wp2
  go_ret
  exact ⟨by rw [HD1.out]; rfl, by rw [hW.out, HNW.out]⟩

theorem delete_is (w : World) (g c : Nat) (xs : List Int) (i : Nat) (h : Ints w (some ⟨g, 0, none⟩) c xs) (hi : i < xs.length) :
    Calls Try.prog 66 #[.slice (some ⟨g, 0, none⟩) xs.length c, .int .i64 i, .int .i64 ((i : Int) + 1)] w fun e w' => e = .returned (.slice (some ⟨g, 0, none⟩) (xs.eraseIdx i).length c) ∧
      Ints w' (some ⟨g, 0, none⟩) c (xs.eraseIdx i) ∧ Fr [g] w w' := by
  have hcc : xs.length ≤ c ∧ c ≤ 9223372036854775807 := by
    rcases h.form with ⟨h0, _⟩ | ⟨_, _, _, h1, h2⟩
    · cases h0
    · exact ⟨h1, h2⟩
  have e1 : ((i : Int) + 1) = ((i + 1 : Nat) : Int) := by omega
  rw [e1]
  refine (delete_cells w g 0 c i (i + 1) xs (fun t ht => by rw [Nat.zero_add]; exact h.cell ht) (fun t ht => h.frozen _) hcc.1 hcc.2 rfl hi).mono ?_
  rintro e w' ⟨rfl, rfl⟩
  have hl : (xs.eraseIdx i).length = xs.length - 1 := List.length_eraseIdx_of_lt hi
  have hd : (xs.drop (i + 1)).length = xs.length - (i + 1) := List.length_drop
  have st1 : setL xs (0 + i * 1) (xs.drop (i + 1)) = xs.eraseIdx i ++ xs.drop (xs.length - 1) := by
    rw [Nat.zero_add, Nat.mul_one, setL_eq _ _ _ (by rw [hd]; omega), hd, show i + (xs.length - (i + 1)) = xs.length - 1 by omega, List.eraseIdx_eq_take_drop_succ]
  have hz : (xs.drop (xs.length - 1)).length = 1 := by rw [List.length_drop]; omega
  have hfin : setL (setL xs (0 + i * 1) (xs.drop (i + 1))) (0 + (i + (xs.length - (i + 1)))) [0] = xs.eraseIdx i ++ [0] := by
    rw [st1, show 0 + (i + (xs.length - (i + 1))) = (xs.eraseIdx i).length by omega, setL_eq _ _ _ (by rw [List.length_append, hz]; exact Nat.le_refl _), List.take_left, List.drop_eq_nil_of_le (by rw [List.length_append, hz]; exact Nat.le_refl _), List.append_nil]
  have h1 := (h.drew.setCells_ (xs.drop (i + 1)) (0 + i * 1)).setCells_ [0] (0 + (i + (xs.length - (i + 1))))
  rw [hfin] at h1
  have h2 := h1.take_ (xs.length - 1)
  rw [← hl, List.take_left] at h2
  refine ⟨by rw [hl], h2, ?_⟩
  exact Fr.setCells_ (.inl (by simp)) _ _ _ (Fr.setCells_ (.inl (by simp)) _ _ _ (Fr.refl [g] w).drew)

end Go.Proofs.Ytnbpnpodpnlamaa
