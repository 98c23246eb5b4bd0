/- The queue's memory: items, each with its cube in memory of its own; Clone and the row's small functions walked. -/
import Derived.Test.YtnbpnpodpnlamaaRow
import Derived.Test.YtnbpnpodpnlamaaRead
import Derived.Test.YtnbpnpodpnlamaaOrd
import Derived.Deep.LoopGhost
import Derived.Deep.DeepCutAuto
import Derived.BigQuiet
import Derived.BigRegion
namespace Go.Proofs.Ytnbpnpodpnlamaa
open Go.RowKit
set_option linter.unusedVariables false

theorem adr_add (g o n : Nat) : (Addr.mk g o none).add n = ⟨g, o + n, none⟩ := by unfold Addr.add; split <;> simp_all

/-- An item as it lies in memory: its level, its cube's slice, its input, what it is from; and what the cube holds. -/
structure Im where
  l : Int
  C : Option Addr
  n : Nat
  c : Nat
  s : ByteArray
  f : Int
  xs : List Int
instance : Inhabited Im := ⟨⟨0, none, 0, 0, ⟨#[]⟩, 0, []⟩⟩
def Im.val (m : Im) : Value := .agg #[.int .i64 m.l, .slice m.C m.n m.c, .string m.s, .int .i64 m.f]

def flat4 : List Im → List Value
  | [] => []
  | m :: M => .int .i64 m.l :: .slice m.C m.n m.c :: .string m.s :: .int .i64 m.f :: flat4 M

theorem flat4_len (M : List Im) : (flat4 M).length = M.length * 4 := by
  induction M with
  | nil => rfl
  | cons m M ih => simp [flat4, ih]; omega
theorem flat4_app (a b : List Im) : flat4 (a ++ b) = flat4 a ++ flat4 b := by
  induction a with
  | nil => rfl
  | cons m M ih => simp [flat4, ih]
theorem flat4_get : ∀ (M : List Im) (i : Nat), i < M.length → (flat4 M)[i * 4]? = some (.int .i64 (M[i]!).l) ∧ (flat4 M)[i * 4 + 1]? = some (.slice (M[i]!).C (M[i]!).n (M[i]!).c) ∧
    (flat4 M)[i * 4 + 2]? = some (.string (M[i]!).s) ∧ (flat4 M)[i * 4 + 3]? = some (.int .i64 (M[i]!).f) := by
  intro M
  induction M with
  | nil => intro i h; simp at h
  | cons m M ih =>
    intro i h
    cases i with
    | zero => simp [flat4]
    | succ i =>
      have := ih i (by simpa using h)
      have e : (i + 1) * 4 = i * 4 + 1 + 1 + 1 + 1 := by omega
      rw [e]
      simpa [flat4] using this
theorem flat4_lev : ∀ (M : List Im) (i : Nat) (l : Int), i < M.length → (flat4 M).set (i * 4) (.int .i64 l) = flat4 (M.set i { M[i]! with l := l }) := by
  intro M
  induction M with
  | nil => intro i _ h; simp at h
  | cons d M ih =>
    intro i l h
    cases i with
    | zero => simp [flat4]
    | succ i =>
      have := ih i l (by simpa using h)
      have e : (i + 1) * 4 = i * 4 + 1 + 1 + 1 + 1 := by omega
      rw [e]
      simp only [flat4, List.set_cons_succ]
      rw [this]
      simp

theorem infoItem : (Try.prog.info? 38).map (fun i => (i.zero, i.size, i.bytes)) = some (some (.agg #[.int .i64 0, .slice none 0 0, .string ⟨#[]⟩, .int .i64 0]), 4, 56) := by kernel_rfl

/-- The slice value '.slice A n c' of items holds M, in a row of its own. -/
def Its (w : World) (A : Option Addr) (c : Nat) (M : List Im) : Prop := w.ownsRow 0 38 4 (.slice A M.length c) M.length (flat4 M)

namespace Its
variable {w w' : World} {A : Option Addr} {c : Nat} {M : List Im}
theorem form (h : Its w A c M) : (A = none ∧ c = 0 ∧ M = []) ∨ ∃ g, A = some ⟨g, 0, none⟩ ∧ g < w.heap.size ∧ M.length ≤ c ∧ c ≤ maxLen := by
  rcases h.2 with ⟨h1, h2⟩ | ⟨g, cap, cur, hv, _, hg, hn, hm, _⟩
  · simp only [Value.slice.injEq] at h1
    exact .inl ⟨h1.1, h1.2.2, List.eq_nil_of_length_eq_zero h2⟩
  · simp only [Value.slice.injEq, true_and] at hv
    obtain ⟨rfl, rfl⟩ := hv
    exact .inr ⟨g, rfl, At.lt (t := 38) hg, hn, hm⟩
theorem pos {i : Nat} (h : Its w A c M) (hi : i < M.length) : ∃ g, A = some ⟨g, 0, none⟩ ∧ g < w.heap.size := by
  rcases h.form with ⟨_, _, rfl⟩ | ⟨g, h1, h2, _⟩
  · simp at hi
  · exact ⟨g, h1, h2⟩
theorem cell {g : Nat} (h : Its w (some ⟨g, 0, none⟩) c M) {i : Nat} (hi : i < M.length) :
    w.cell? ⟨g, i * 4, none⟩ = some (.int .i64 (M[i]!).l) ∧ w.cell? ⟨g, i * 4 + 1, none⟩ = some (.slice (M[i]!).C (M[i]!).n (M[i]!).c) ∧
      w.cell? ⟨g, i * 4 + 2, none⟩ = some (.string (M[i]!).s) ∧ w.cell? ⟨g, i * 4 + 3, none⟩ = some (.int .i64 (M[i]!).f) := by
  obtain ⟨h1, h2, h3, h4⟩ := flat4_get M i hi
  refine ⟨?_, ?_, ?_, ?_⟩
  · rw [World.ownsRow.cellAt h _ (by omega)]; exact h1
  · rw [World.ownsRow.cellAt h _ (by omega)]; exact h2
  · rw [World.ownsRow.cellAt h _ (by omega)]; exact h3
  · rw [World.ownsRow.cellAt h _ (by omega)]; exact h4
theorem frozen {g : Nat} (h : Its w (some ⟨g, 0, none⟩) c M) (i : Nat) : w.frozen? ⟨g, i, none⟩ = false := World.ownsRow.frozenAt h i
theorem lev {g : Nat} (h : Its w (some ⟨g, 0, none⟩) c M) {i : Nat} (hi : i < M.length) (l : Int) : Its (w.setCell ⟨g, i * 4, none⟩ (.int .i64 l)) (some ⟨g, 0, none⟩) c (M.set i { M[i]! with l := l }) := by
  have h1 := (World.ownsRow.stored h (i * 4) (.int .i64 l)).1
  unfold Its
  rw [flat4_lev M i l hi] at h1
  rw [List.length_set]
  exact h1
theorem own_blk : ∀ k, (Value.slice A M.length c).ownBlock = some k → k ∈ blks A := fun k hk => (blks_own k).1 hk
theorem fr {S : List Nat} (h : Its w A c M) (hf : Fr S w w') (hd : ∀ k, k ∈ blks A → k ∉ S) : Its w' A c M := hf.own h (fun k hk => hd k (own_blk k hk))
theorem drewN (h : Its w A c M) (n : Nat) : Its (w.drewN n) A c M := h
theorem alloc (h : Its w A c M) (o : Obj) : Its (w.alloc o) A c M := World.ownsRow.alloc h o
theorem nil (w : World) : Its w none 0 [] := World.ownsRow_nil w 0 _ 4
theorem lt (h : Its w A c M) : ∀ k, k ∈ blks A → k < w.heap.size := by
  rcases h.form with ⟨rfl, _⟩ | ⟨g, rfl, h1, _⟩
  · simp [blks]
  · simpa [blks] using h1
end Its

/-- An item's cube lies in memory that is there. -/
structure Cube (w : World) (m : Im) : Prop where
  n : m.n = m.xs.length
  rd : Rd w m.C m.xs
  lt : ∀ k, k ∈ blks m.C → k < w.heap.size
  nil_ : m.C = none → m.n = 0 ∧ m.c = 0
  adr : ∀ a, m.C = some a → a.spot = none
  small : m.xs.length ≤ 17592186044416
namespace Cube
variable {w w' : World} {m : Im}
theorem fr {S : List Nat} (h : Cube w m) (hf : Fr S w w') (hd : ∀ k, k ∈ blks m.C → k ∉ S) : Cube w' m := by
  refine ⟨h.n, h.rd.fr fun b o j hC hj => ?_, fun k hk => Nat.lt_of_lt_of_le (h.lt k hk) hf.size, h.nil_, h.adr, h.small⟩
  have hk : b ∈ blks m.C := by rw [hC]; simp [blks]
  exact World.cell?_of_block (hf.block b (h.lt b hk) (hd b hk))
theorem keep (h : Cube w m) (hf : Fr [] w w') : Cube w' m := h.fr hf (fun _ _ => by simp)
theorem lev (h : Cube w m) (l : Int) : Cube w { m with l := l } := ⟨h.n, h.rd, h.lt, h.nil_, h.adr, h.small⟩
theorem blkEq {C : Option Addr} {m m' : Im} (h : m'.C = m.C) : blks m'.C = blks m.C := by rw [h]
end Cube

/-- An item's cube can be read; where it is empty it may lie anywhere. -/
structure Cub (w : World) (m : Im) : Prop where
  n : m.n = m.xs.length
  rd : Rd w m.C m.xs
  lt : 0 < m.xs.length → ∀ k, k ∈ blks m.C → k < w.heap.size
  nil_ : m.C = none → m.n = 0 ∧ m.c = 0
  small : m.xs.length ≤ 17592186044416
theorem Cube.cub {w : World} {m : Im} (h : Cube w m) : Cub w m := ⟨h.n, h.rd, fun _ => h.lt, h.nil_, h.small⟩
theorem Cub.fr {w w' : World} {m : Im} {S : List Nat} (h : Cub w m) (hf : Fr S w w') (hd : 0 < m.xs.length → ∀ k, k ∈ blks m.C → k ∉ S) : Cub w' m := by
  refine ⟨h.n, h.rd.fr fun b o j hC hj => ?_, fun hp k hk => Nat.lt_of_lt_of_le (h.lt hp k hk) hf.size, h.nil_, h.small⟩
  have hk : b ∈ blks m.C := by rw [hC]; simp [blks]
  exact World.cell?_of_block (hf.block b (h.lt (by omega) b hk) (hd (by omega) b hk))
theorem Cub.keep {w w' : World} {m : Im} (h : Cub w m) (hf : Fr [] w w') : Cub w' m := h.fr hf (fun _ _ _ => by simp)

set_option maxRecDepth 100000 in
set_option maxHeartbeats 1000000 in
theorem clone_is (w : World) (m : Im) (h : Cub w m) :
    Calls Try.prog 52 #[.slice m.C m.n m.c] w fun e w' => ∃ C' c', e = .returned (.slice C' m.n c') ∧ Cube w' { m with C := C', c := c' } ∧ (∀ k, k ∈ blks C' → w.heap.size ≤ k) ∧ Fr [] w w' := by
  obtain ⟨l, C, n, c, s, f, xs⟩ := m
  obtain ⟨h1, h2, h3, h4, h6⟩ := h
  simp only at h1 h2 h3 h4 h6 ⊢
  subst h1
  cases C with
  | none =>
    obtain ⟨e0, rfl⟩ := h4 rfl
    obtain rfl := List.eq_nil_of_length_eq_zero e0
    have he : ∀ w : World, (binOp .eql 22 (.slice none 0 0) (.slice none 0 0)).run Try.prog w = .ok (.bool true) w := fun w => Lib.run_eql_slice_nil w _ _ _ _ _ _ _ Try.underlying22
    have e1 : ([] : List Int).length = 0 := rfl
    rw [e1]
    clear h2 h3 h4 h6 e0
    go_enter Try.func52, Try.ntmps52
    go_wp2_with fail
    go_ret
    exact ⟨none, 0, rfl, ⟨rfl, fun h => absurd h (Nat.lt_irrefl _), by simp [blks], fun _ => ⟨rfl, rfl⟩, fun a h => (by cases h), by simp⟩, by simp [blks], Fr.refl _ _⟩
  | some ad =>
    have HB3 := Lib.hid (fun h => h3 h ad.block (by simp [blks]) : 0 < xs.length → ad.block < w.heap.size)
    have he : ∀ w : World, (binOp .eql 22 (.slice (some ad) xs.length c) (.slice none 0 0)).run Try.prog w = .ok (.bool false) w := fun w => Lib.run_eql_slice_nil w _ _ _ _ _ _ _ Try.underlying22
    have HH := Lib.hid h2
    clear h2 h3 h4
    go_enter Try.func52, Try.ntmps52
    go_wp2_with (at_builtin; (refine wpList_append_row _ rfl _ _ 22 rfl 3 (.int .i64 0) 1 8 Try.underlying22 infoInt rfl (by decide) (some ⟨w.heap.size, 0, none⟩) 0 0 rfl [] ?hown ad xs.length c rfl (xs.map (Value.int .i64)) (by simp) ?hnews (by simp [Value.oneCell']) (by unfold maxLen; omega) (by omega) ?_; (case hown => exact World.ownsRow_lit w #[] 0 (Nat.zero_le _) (by simp [maxLen]) (by simp)); (case hnews => intro jj u hu; simp only [List.getElem?_map, Option.map_eq_some_iff] at hu; obtain ⟨y, hy, rfl⟩ := hu; have hj := (List.getElem?_eq_some_iff.1 hy).1; obtain ⟨b2, o2, hbo, hc⟩ := HH.out (by omega); cases hbo; have := hc jj hj; rw [List.getElem!_eq_getElem?_getD, hy] at this; rw [adr_add]; exact (World.cell?_of_block (Below.heap_alloc w _ b2 (HB3.out (by omega)))).trans this); intro A2 cap w2 hi2 hf2 hg2 hs2 hnn hff; have HI := Lib.hid hi2; have HF2 := Lib.hid hf2; have HG2 := Lib.hid hg2; have HNN := Lib.hid hnn; have HFF := Lib.hid hff; clear hi2 hf2 hg2 hs2 hnn hff))
    go_ret
    have hI : Ints w2 A2 cap xs := by
      have := HI.out
      unfold Ints
      simpa using this
    refine ⟨A2, cap, by simp, ⟨rfl, hI.rd, hI.lt, fun h => ?_, fun a ha => ?_, h6⟩, fun k hk => ?_, ?_⟩
    · exact absurd (HNN.out h).2 (by simp)
    · obtain ⟨g, rfl⟩ := HFF.out a ha; rfl
    · rcases HG2.out k hk with h | h
      · simp [blks] at h; omega
      · rw [h]; simp
    · exact ((Fr.refl [] w).alloc _).trans HF2.out (fun k hk => .inr (by simp [blks] at hk; omega))

theorem copied_results : Try.f55.results = #[.cell 2 38] := by kernel_rfl

set_option maxRecDepth 100000 in
set_option maxHeartbeats 1000000 in
theorem copied_is (w : World) (m : Im) (h : Cub w m) :
    Calls Try.prog 55 #[m.val] w fun e w' => ∃ C' c', e = .returned (Im.val { m with C := C', c := c' }) ∧ Cube w' { m with C := C', c := c' } ∧ (∀ k, k ∈ blks C' → w.heap.size ≤ k) ∧ Fr [] w w' := by
  obtain ⟨l, C, n, c, s, f, xs⟩ := m
  simp only [Im.val]
  obtain ⟨W, hW⟩ : ∃ W, W = (w.alloc (.cells #[.int .i64 l, .slice C n c, .string s, .int .i64 f] 38)).alloc (.cells #[.int .i64 0, .slice none 0 0, .string ⟨#[]⟩, .int .i64 0] 38) := ⟨_, rfl⟩
  have hf0 : Fr [] w W := by rw [hW]; exact ((Fr.refl [] w).alloc _).alloc _
  have hB : At W w.heap.size 38 #[.int .i64 l, .slice C n c, .string s, .int .i64 f] := by rw [hW]; exact (At.new w _ _).alloc _
  have hR : At W (w.heap.size + 1) 38 #[.int .i64 0, .slice none 0 0, .string ⟨#[]⟩, .int .i64 0] := by
    rw [hW]
    have := At.new (w.alloc (.cells #[.int .i64 l, .slice C n c, .string s, .int .i64 f] 38)) 38 #[.int .i64 0, .slice none 0 0, .string ⟨#[]⟩, .int .i64 0]
    simpa using this
  have HC := Lib.hid (h.keep hf0)
  have HF0 := Lib.hid hf0
  have HB := Lib.hid hB
  have HR := Lib.hid hR
  have b1 := hB.cell 1
  simp at b1
  clear h
  go_enter Try.func55, Try.ntmps55
  go_upto_region 1 with fail
  rw [← hW]
  clear hW hf0 hB hR
  go_wp2_with fail
  refine (clone_is W ⟨l, C, n, c, s, f, xs⟩ HC.out).mono ?_
  rintro e w1 ⟨C', c', rfl, hc, hn, hf⟩
  simp only at hc hn ⊢
  have hB1 := hf.at_ HB.out (by simp)
  have hR1 := hf.at_ HR.out (by simp)
  have b0 := hB1.cell 0
  have b1 := hB1.cell 1
  have b2 := hB1.cell 2
  have b3 := hB1.cell 3
  have p1 := hB1.frozen 1
  have r0 := hR1.cell 0
  have r1 := hR1.cell 1
  have r2 := hR1.cell 2
  have r3 := hR1.cell 3
  have q0 := hR1.frozen 0
  have q1 := hR1.frozen 1
  have q2 := hR1.frozen 2
  have q3 := hR1.frozen 3
  simp at b0 b1 b2 b3 r0 r1 r2 r3
  have HF1 := Lib.hid (HF0.out.then_ hf)
  have HC1 := Lib.hid hc
  have HN1 := Lib.hid (fun k hk => Nat.le_trans HF0.out.size (hn k hk) : ∀ k, k ∈ blks C' → w.heap.size ≤ k)
  have HL := Lib.hid (hn : ∀ k, k ∈ blks C' → W.heap.size ≤ k)
  have HF1' := Lib.hid hf
  have hwl : w.heap.size + 1 < W.heap.size := HR.out.lt
  clear hc hn hf hB1 hR1
  have hW1 : W.heap.size ≤ w1.heap.size := HF1'.out.size
  generalize hob : w.heap.size = ob at *
  go_wp2_with fail
  (try simp only [Exit.inBlock, Exit.then])
  refine bodyPost_ret (v := .agg #[.int .i64 l, .slice C' n c', .string s, .int .i64 f]) (by simp only [results, copied_results]; go_simp) rfl ?_
  have h0 : Fr [ob, ob + 1] w1 w1 := Fr.refl _ _
  have h1 := ((((h0.setCell (p := ⟨ob, 1, none⟩) (.inl (by simp)) (.slice C' n c')).setCell (p := ⟨ob + 1, 0, none⟩) (.inl (by simp)) (.int .i64 l)).setCell (p := ⟨ob + 1, 0 + 1, none⟩) (.inl (by simp)) (.slice C' n c')).setCell (p := ⟨ob + 1, 0 + 2, none⟩) (.inl (by simp)) (.string s)).setCell (p := ⟨ob + 1, 0 + 3, none⟩) (.inl (by simp)) (.int .i64 f)
  refine ⟨C', c', rfl, HC1.out.fr h1 (fun k hk hk' => ?_), fun k hk => by rw [hob]; exact HN1.out k hk, HF1.out.trans h1 (fun k hk => .inr ?_)⟩
  · have h2 := HL.out k hk
    simp only [List.mem_cons, List.not_mem_nil, or_false] at hk'
    omega
  · simp only [List.mem_cons, List.not_mem_nil, or_false] at hk
    omega

end Go.Proofs.Ytnbpnpodpnlamaa
