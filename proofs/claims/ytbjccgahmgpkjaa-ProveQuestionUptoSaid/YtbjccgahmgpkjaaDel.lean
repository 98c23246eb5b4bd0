/- slices.DeleteFunc at names, for the names of Bads behind the first, walked. -/
import Derived.Test.YtbjccgahmgpkjaaCopy
import Derived.Test.YtbjccgahmgpkjaaCirB
import Derived.Shelf.Abstract
import Derived.Laws.CopyRow
namespace Go.Proofs.Ytbjccgahmgpkjaa
open Go.RowKit
set_option linter.unusedVariables false

/-- Is a name one of a Bad behind the first? -/
def delB (x : Nm) : Bool := (x.k.toList == [98]) && decide (0 < x.i)
def kept (l : List Nm) : List Nm := l.filter fun x => !delB x

set_option maxHeartbeats 1000000 in
theorem tgt1_calls (w : World) (k : ByteArray) (i : Int) (t : ByteArray) :
    Calls Try.prog 24 #[.agg #[.string k, .int .i64 i, .string t]] w fun e w' => e = .returned (.bool (delB ⟨k, i, t⟩)) ∧ Fr [] w w' := by
  have hK : Hid (∀ s, delB ⟨k, i, t⟩ = s → Ending.returned (.bool s) = .returned (.bool (delB ⟨k, i, t⟩))) := fun s h => by rw [h]
  rcases seq_or k.toList [98] with g | g
  · obtain ⟨q, HQ⟩ : ∃ q, Hid (decide (0 < i) = q) := ⟨_, rfl⟩
    have HB : Hid (delB ⟨k, i, t⟩ = q) := (by simp only [delB, g, HQ.out, Bool.true_and] : delB ⟨k, i, t⟩ = q)
    have hq := HQ.out
    go_enter Try.func24, Try.ntmps24
    go_wp2_with fail
    go_ret
    exact ⟨hK.out _ HB.out, box_fr _ _⟩
  · have HB : Hid (delB ⟨k, i, t⟩ = false) := (by simp only [delB, g, Bool.false_and] : delB ⟨k, i, t⟩ = false)
    go_enter Try.func24, Try.ntmps24
    go_wp2_with fail
    go_ret
    exact ⟨hK.out _ HB.out, box_fr _ _⟩
theorem enters24 : ∀ args w, (callFunc 24 args).run Try.prog w = .ok (.enter 24 args) w := enters_of Try.func24 (by kernel_rfl) rfl

/-- The first name for which it holds, or -1. -/
def IxN (l : List Nm) (w : World) (e : Ending) (w' : World) : Prop := ((e = .returned (.int .i64 (-1)) ∧ ∀ x ∈ l, delB x = false) ∨ ∃ n : Nat, e = .returned (.int .i64 n) ∧ n < l.length ∧ NoneTo l delB n ∧ delB l[n]! = true) ∧ Fr [] w w'

set_option maxHeartbeats 1000000 in
theorem index_names (w : World) (A : Option Addr) (c : Nat) (l : List Nm) (h : RdM w A l) (hl : l.length ≤ 3518437208781) :
    Calls Try.prog 50 #[.slice A l.length c, .func (.func 24) #[] #[]] w (IxN l w) := by
  have HH := Lib.hid h
  have YES : Hid (∀ (n : Nat) W, n < l.length → NoneTo l delB n → delB l[n]! = true → Fr [] w W → IxN l w (.returned (.int .i64 (n : Int))) W) := fun n W h1 h2 h3 h4 => ⟨.inr ⟨n, rfl, h1, h2, h3⟩, h4⟩
  have NO : Hid (∀ W, NoneTo l delB l.length → Fr [] w W → IxN l w (.returned (.int .i64 (-1))) W) := fun W h2 h3 => ⟨.inl ⟨rfl, fun x hx => by
    obtain ⟨j, hj, e⟩ := List.mem_iff_getElem.1 hx
    have := h2 j hj
    rwa [List.getElem!_eq_getElem?_getD, List.getElem?_eq_getElem hj, e] at this⟩, h3⟩
  have eg := enters24
  clear h
  go_enter Try.func50, Try.ntmps50
  go_wp2_with fail
  go_loopg [8] l.length (fun g i wr => ∃ k : Nat, k + g = l.length ∧ i = .int .i64 k ∧ Fr [] w wr ∧ NoneTo l delB k)
  case atStart => exact ⟨0, by omega, rfl, Fr.refl _ _, NoneTo.zero _ _⟩
  case round =>
    obtain ⟨k, hk, rfl, hx, hn⟩ := hrel
    have HK := Lib.hid hk
    have HX := Lib.hid hx
    have HN := Lib.hid hn
    have hkn : k ≤ l.length := by omega
    clear hk hx hn
    by_cases hlt : k < l.length
    · obtain ⟨b, o, hA, hx⟩ := (HH.out.keep HX.out) (by omega)
      obtain ⟨cx, cy, cz⟩ := hx k hlt
      obtain ⟨x, y, z, he⟩ : ∃ x y z, Hid (l[k]! = ⟨x, y, z⟩) := ⟨_, _, _, rfl⟩
      rw [he.out] at cx cy cz
      subst hA
      simp only at cx cy cz
      obtain ⟨q, HQ⟩ : ∃ q, Hid (delB ⟨x, y, z⟩ = q) := ⟨_, rfl⟩
      have HC := Lib.hid (tgt1_calls wr x y z)
      clear hx
      go_wp2_with fail
      refine HC.out.mono ?_
      rw [HQ.out]
      rintro e w2 ⟨rfl, hf⟩
      have HF := Lib.hid (HX.out.then_ hf)
      clear hf
      cases q with
      | true =>
        go_wp2_with fail
        go_ret
        exact YES.out k _ hlt HN.out (by rw [he.out]; exact HQ.out) HF.out
      | false =>
        go_wp2_with fail
        go_roundg (gk - 1)
        case measure => have := HK.out; omega
        case rel => exact ⟨k + 1, by have := HK.out; omega, by go_num, HF.out, HN.out.step (by rw [he.out]; exact HQ.out)⟩
    · have HT : Hid (NoneTo l delB l.length) := (by rw [show l.length = k from by omega]; exact HN.out : NoneTo l delB l.length)
      clear HN HK
      go_wp2_with fail
      go_ret
      exact NO.out _ HT.out HX.out

theorem flatM_set : ∀ (l : List Nm) (i : Nat) (x : Nm), i < l.length → (((flatM l).set (i * 3) (.string x.k)).set (i * 3 + 1) (.int .i64 x.i)).set (i * 3 + 2) (.string x.t) = flatM (l.set i x) := by
  intro l
  induction l with
  | nil => intro i x h; simp at h
  | cons y r ih =>
    intro i x h
    cases i with
    | zero => simp [flatM]
    | succ i =>
      have := ih i x (by simpa using h)
      have e : (i + 1) * 3 = i * 3 + 1 + 1 + 1 := by omega
      rw [e]
      simp only [flatM, List.set_cons_succ]
      rw [this]
theorem flatM_take : ∀ (l : List Nm) (i : Nat), (flatM l).take (i * 3) = flatM (l.take i) := by
  intro l
  induction l with
  | nil => intro i; simp [flatM]
  | cons y r ih =>
    intro i
    cases i with
    | zero => simp [flatM]
    | succ i =>
      have e : (i + 1) * 3 = i * 3 + 1 + 1 + 1 := by omega
      rw [e]
      simp only [flatM, List.take_succ_cons, ih]

/-- What DeleteFunc has done by now. -/
structure KI (nms : List Nm) (i j : Nat) (L : List Nm) : Prop where
  len : L.length = nms.length
  lt : i < j
  le : j ≤ nms.length
  done : L.take i = kept (nms.take j)
  rest : L.drop j = nms.drop j
theorem KI.at_ {nms L : List Nm} {i j : Nat} (h : KI nms i j L) (hj : j < nms.length) : L[j]! = nms[j]! := by
  have := congrArg (fun l => l[0]?) h.rest
  simp only [List.getElem?_drop, Nat.add_zero] at this
  rw [List.getElem!_eq_getElem?_getD, List.getElem!_eq_getElem?_getD, this]
theorem kept_snoc (nms : List Nm) (j : Nat) (hj : j < nms.length) : kept (nms.take (j + 1)) = kept (nms.take j) ++ (if delB nms[j]! then [] else [nms[j]!]) := by
  rw [List.take_succ_eq_append_getElem hj, kept, List.filter_append, kept]
  congr 1
  have e : nms[j]! = nms[j] := by simp [hj]
  rw [e]
  cases h : delB nms[j] <;> simp [h]
theorem KI.rest1 {nms L : List Nm} {i j : Nat} (h : KI nms i j L) : L.drop (j + 1) = nms.drop (j + 1) := by
  have := congrArg (List.drop 1) h.rest
  rwa [List.drop_drop, List.drop_drop] at this
theorem KI.skip {nms L : List Nm} {i j : Nat} (h : KI nms i j L) (hj : j < nms.length) (hd : delB nms[j]! = true) : KI nms i (j + 1) L :=
  ⟨h.len, Nat.lt_succ_of_lt h.lt, hj, by rw [h.done, kept_snoc nms j hj, hd]; simp, h.rest1⟩
theorem KI.keep {nms L : List Nm} {i j : Nat} (h : KI nms i j L) (hj : j < nms.length) (hd : delB nms[j]! = false) : KI nms (i + 1) (j + 1) (L.set i nms[j]!) := by
  have hi : i < L.length := by have := h.len; have := h.lt; omega
  refine ⟨by rw [List.length_set]; exact h.len, Nat.succ_lt_succ h.lt, hj, ?_, ?_⟩
  · rw [kept_snoc nms j hj, hd, ← h.done]
    rw [List.take_succ_eq_append_getElem (by rw [List.length_set]; exact hi)]
    simp [List.take_set_of_le]
  · rw [List.drop_set_of_lt (Nat.lt_succ_of_lt h.lt)]; exact h.rest1
theorem KI.start {nms : List Nm} {n : Nat} (hn : n < nms.length) (h1 : NoneTo nms delB n) (h2 : delB nms[n]! = true) : KI nms n (n + 1) nms := by
  refine ⟨rfl, Nat.lt_succ_self _, hn, ?_, rfl⟩
  rw [kept_snoc nms n hn, h2]
  simp only [if_true, List.append_nil]
  rw [kept, List.filter_eq_self.2]
  intro x hx
  obtain ⟨j, hj, e⟩ := List.mem_iff_getElem.1 hx
  rw [List.length_take] at hj
  have := h1 j (by omega)
  rw [List.getElem_take] at e
  rw [List.getElem!_eq_getElem?_getD, List.getElem?_eq_getElem (by omega), e] at this
  have e3 : delB x = false := this
  rw [e3]; rfl

theorem ownM_take {w : World} {g n c : Nat} {vs : List Value} (h : w.ownsRow 0 61 3 (.slice (some ⟨g, 0, none⟩) n c) n vs) {i : Nat} (hi : i ≤ n) : w.ownsRow 0 61 3 (.slice (some ⟨g, 0, none⟩) i c) i (vs.take (i * 3)) := by
  have hl := h.1
  refine ⟨by rw [List.length_take]; omega, ?_⟩
  rcases h.2 with ⟨h1, _⟩ | ⟨g', cap, cur, hv, hb, hg, hn, hm, hs, ht⟩
  · cases h1
  · simp only [Value.slice.injEq, Option.some.injEq, Addr.mk.injEq, and_true, true_and] at hv
    obtain ⟨rfl, rfl⟩ := hv
    refine .inr ⟨g, c, cur, rfl, hb, hg, by omega, hm, hs, ?_⟩
    rw [← ht, List.take_take]
    congr 1
    omega

theorem zero_name (w : World) : (zeroValue 61).run Try.prog w = .ok (.agg #[.string ⟨#[]⟩, .int .i64 0, .string ⟨#[]⟩]) w := by kernel_rfl

/-- The zero cells of so many names. -/
def zl (n : Nat) : List Value := (Builtin.zeroCells #[.string ⟨#[]⟩, .int .i64 0, .string ⟨#[]⟩] n).toList
theorem zl_mem (n : Nat) : ∀ v ∈ zl n, v.oneCell' = true := by
  intro v hv
  simp only [zl, Builtin.zeroCells, Array.toList_map, List.mem_map] at hv
  obtain ⟨i, _, rfl⟩ := hv
  have h3 : i % 3 < 3 := Nat.mod_lt _ (by decide)
  rcases (by omega : i % 3 = 0 ∨ i % 3 = 1 ∨ i % 3 = 2) with e | e | e <;> simp [e] <;> rfl
theorem zl_length (n : Nat) : (zl n).length = n * 3 := by
  simp [zl, Builtin.zeroCells]
theorem run_clear_of (w : World) (g o c ty n : Nat) (w' : World) (h : (storeCells ⟨g, o, none⟩ (zl (n + 1))).run Try.prog w = .ok () w') :
    (Builtin.clear_ #[25] ty #[.slice (some ⟨g, o, none⟩) (n + 1) c]).run Try.prog w = .ok (.tuple #[]) w' := by
  simp only [zl] at h
  simp only [Builtin.clear_, go_sem]
  simp [h, run_underlying Try.underlying25]

/-- The places behind the first i, cleared. -/
theorem run_clear_names (w : World) (g n c i ty c' : Nat) (vs : List Value) (h : w.ownsRow 0 61 3 (.slice (some ⟨g, 0, none⟩) n c) n vs) (hi : i < n) :
    ∃ w', (Builtin.clear_ #[25] ty #[.slice (some ⟨g, i * 3, none⟩) (n - i) c']).run Try.prog w = .ok (.tuple #[]) w' ∧ w'.ownsRow 0 61 3 (.slice (some ⟨g, 0, none⟩) i c) i (vs.take (i * 3)) ∧ Fr [g] w w' := by
  have hl := h.1
  rcases h.2 with ⟨h1, _⟩ | ⟨g', cap, cur, hv, hb, hg, hn, hm, hs, ht⟩
  · cases h1
  · simp only [Value.slice.injEq, Option.some.injEq, Addr.mk.injEq, and_true, true_and] at hv
    obtain ⟨rfl, rfl⟩ := hv
    have hz := zl_length (n - i)
    have hst := run_storeCells_at (P := Try.prog) g (i * 3) 61 (zl (n - i)) 0 cur w hg (by rw [hz, Nat.add_zero, hs]; omega) (zl_mem _)
    obtain ⟨m, hm2⟩ : ∃ m, n - i = m + 1 := ⟨n - i - 1, by omega⟩
    obtain ⟨new, hnew⟩ : ∃ new, cur.toList.take (i * 3 + 0) ++ zl (n - i) ++ cur.toList.drop (i * 3 + 0 + (zl (n - i)).length) = new := ⟨_, rfl⟩
    rw [hnew] at hst
    have hlen : new.length = c * 3 := by
      rw [← hnew]
      simp only [List.length_append, List.length_take, List.length_drop, hz, Array.length_toList, hs]
      omega
    have htk : new.take (i * 3) = vs.take (i * 3) := by
      rw [← hnew, ← ht, List.take_take, List.append_assoc, Nat.add_zero, List.take_append_of_le_length (by rw [List.length_take, Array.length_toList, hs]; omega), List.take_take]
      congr 1
      omega
    clear hnew
    refine ⟨w.setRow g new.toArray, ?_, ?_, ?_⟩
    · rw [hm2] at hst ⊢
      exact run_clear_of _ _ _ _ _ _ _ hst
    · refine ⟨by rw [List.length_take]; omega, .inr ⟨g, c, new.toArray, rfl, hb, setRow_heap w g cur _ _ _ hg, by omega, hm, by rw [List.size_toArray, hlen], ?_⟩⟩
      simpa using htk
    · refine ⟨rfl, rfl, rfl, by simp, fun k _ hk => setRow_other _ _ _ _ (fun e => hk (by simp [e]))⟩

end Go.Proofs.Ytbjccgahmgpkjaa
