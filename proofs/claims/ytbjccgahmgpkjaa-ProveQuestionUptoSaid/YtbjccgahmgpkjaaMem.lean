/- Memory words of this seat's own: blocks known whole, frames with a footprint, int slices. Plain lemmas, no program in sight. -/
import Derived.Test.YtbjccgahmgpkjaaRows
import Derived.WalkKit
import Derived.WalkSpells
import Derived.WalkLawsBesides
import Derived.Maps.AppendAt
import Derived.Deep.Draws
import Derived.Deep.QuietTactic
import Derived.BigQuiet
import Derived.Lib.Hide
namespace Go.Proofs.Ytbjccgahmgpkjaa
open Go.RowKit

/-- Block g is just these cells, none frozen. -/
def At (w : World) (g : Nat) (t : TypeId) (cs : Array Value) : Prop := w.heap[g]? = some (.cells cs t (0, 0))

/-- Of the blocks that were there in w only those in S may have turned. -/
structure Fr (S : List Nat) (w w' : World) : Prop where
  os : w'.os = w.os
  tape : w'.tape = w.tape
  output : w'.output = w.output
  size : w.heap.size ≤ w'.heap.size
  block : ∀ k, k < w.heap.size → k ∉ S → w'.heap[k]? = w.heap[k]?

namespace Fr
variable {S T : List Nat} {w w' a b c : World}
theorem refl (S : List Nat) (w : World) : Fr S w w := ⟨rfl, rfl, rfl, Nat.le_refl _, fun _ _ _ => rfl⟩
theorem mono (h : Fr S w w') (hs : ∀ k, k ∈ S → k ∈ T ∨ w.heap.size ≤ k) : Fr T w w' :=
  ⟨h.os, h.tape, h.output, h.size, fun k hk hn => h.block k hk fun hm => (hs k hm).elim hn (by omega)⟩
theorem trans (h : Fr S a b) (k : Fr T b c) (hs : ∀ x, x ∈ T → x ∈ S ∨ a.heap.size ≤ x) : Fr S a c :=
  ⟨k.os.trans h.os, k.tape.trans h.tape, k.output.trans h.output, Nat.le_trans h.size k.size, fun i hi hn =>
    (k.block i (Nat.lt_of_lt_of_le hi h.size) fun hm => (hs i hm).elim hn (by omega)).trans (h.block i hi hn)⟩
theorem then_ (h : Fr S a b) (k : Fr S b c) : Fr S a c := h.trans k fun _ hx => .inl hx
theorem drew (h : Fr S w w') : Fr S w w'.drew := ⟨h.os, h.tape, h.output, h.size, h.block⟩
theorem drewN (h : Fr S w w') (n : Nat) : Fr S w (w'.drewN n) := ⟨h.os, h.tape, h.output, h.size, h.block⟩
theorem alloc (h : Fr S w w') (o : Obj) : Fr S w (w'.alloc o) :=
  h.then_ ⟨rfl, rfl, rfl, by simp, fun k hk _ => Below.heap_alloc _ _ _ hk⟩
theorem setCell (h : Fr S w w') {p : Addr} (hp : p.block ∈ S ∨ w.heap.size ≤ p.block) (u : Value) : Fr S w (w'.setCell p u) :=
  ⟨h.os, h.tape, h.output, by simpa [World.setCell] using h.size, fun k hk hn => (Below.heap_setCell _ _ _ _ (by
    rintro rfl
    rcases hp with hp | hp
    · exact hn hp
    · omega)).trans (h.block k hk hn)⟩
theorem grown (h : Fr S w w') {row : Option Nat} {w'' : World} (hg : w'.grownBy w'' row) (hr : ∀ k, row = some k → k ∈ S ∨ w.heap.size ≤ k) : Fr S w w'' :=
  ⟨hg.os.trans h.os, hg.tape.trans h.tape, hg.output.trans h.output, Nat.le_trans h.size hg.size, fun k hk hn =>
    (hg.block k (Nat.lt_of_lt_of_le hk h.size) fun e => (hr k e.symm).elim hn (by omega)).trans (h.block k hk hn)⟩
theorem of_below (h : Below w.heap.size w w') : Fr S w w' := ⟨h.os, h.tape, h.output, h.size, fun k hk _ => h.block k hk⟩
theorem below (h : Fr [] w w') : Below w.heap.size w w' := ⟨h.os, h.tape, h.output, h.size, fun k hk => h.block k hk (by simp)⟩
theorem at_ (h : Fr S w w') {g : Nat} {t : TypeId} {cs : Array Value} (hg : At w g t cs) (hn : g ∉ S) : At w' g t cs :=
  (h.block g (by
    rcases Nat.lt_or_ge g w.heap.size with hl | hl
    · exact hl
    · unfold At at hg; rw [Array.getElem?_eq_none hl] at hg; cases hg) hn).trans hg
theorem own (h : Fr S w w') {base : Nat} {e : TypeId} {size n : Nat} {v : Value} {xs : List Value} (ho : w.ownsRow base e size v n xs) (hn : ∀ k, v.ownBlock = some k → k ∉ S) : w'.ownsRow base e size v n xs := by
  refine ⟨ho.1, ?_⟩
  rcases ho.2 with h0 | ⟨g, cap, cur, hv, hb, hg, r⟩
  · exact .inl h0
  · exact .inr ⟨g, cap, cur, hv, hb, h.at_ (t := e) hg (hn g (by rw [hv]; rfl)), r⟩
end Fr

namespace At
variable {w w' : World} {g : Nat} {t : TypeId} {cs : Array Value}
theorem lt (h : At w g t cs) : g < w.heap.size := by
  rcases Nat.lt_or_ge g w.heap.size with hl | hl
  · exact hl
  · unfold At at h; rw [Array.getElem?_eq_none hl] at h; cases h
theorem cell (h : At w g t cs) (i : Nat) : w.cell? ⟨g, i, none⟩ = cs[i]? := cell_of_row w g i cs t (0, 0) h
theorem frozen (h : At w g t cs) (i : Nat) : w.frozen? ⟨g, i, none⟩ = false := by
  unfold At at h
  simp [World.frozen?, h]
theorem new (w : World) (t : TypeId) (cs : Array Value) : At (w.alloc (.cells cs t)) w.heap.size t cs := heap_alloc_new w _
theorem drew (h : At w g t cs) : At w.drew g t cs := h
theorem drewN (h : At w g t cs) (n : Nat) : At (w.drewN n) g t cs := h
theorem alloc (h : At w g t cs) (o : Obj) : At (w.alloc o) g t cs := (Below.heap_alloc w o g h.lt).trans h
theorem set_ (h : At w g t cs) (i : Nat) (u : Value) : At (w.setCell ⟨g, i, none⟩ u) g t (cs.setIfInBounds i u) := by
  unfold At at h ⊢
  simp [World.setCell, Array.getElem?_modify, h]
theorem far (h : At w g t cs) {p : Addr} (hp : g ≠ p.block) (u : Value) : At (w.setCell p u) g t cs := (Below.heap_setCell w p u g hp).trans h
theorem grown {row : Option Nat} (h : At w g t cs) (hb : w.grownBy w' row) (hg : row ≠ some g) : At w' g t cs := (hb.block g h.lt (fun e => hg e.symm)).trans h
end At

/-- The slice value '.slice A n c' of ints holds xs, in a row of its own. -/
def Ints (w : World) (A : Option Addr) (c : Nat) (xs : List Int) : Prop := w.ownsRow 0 3 1 (.slice A xs.length c) xs.length (xs.map (Value.int .i64))

/-- The blocks of a slice: one or none. -/
def blks (A : Option Addr) : List Nat := (A.map (·.block)).toList

namespace Ints
variable {w w' : World} {A : Option Addr} {c : Nat} {xs : List Int}
theorem form (h : Ints w A c xs) : (A = none ∧ c = 0 ∧ xs = []) ∨ ∃ g, A = some ⟨g, 0, none⟩ ∧ g < w.heap.size ∧ xs.length ≤ c ∧ c ≤ maxLen := by
  rcases h.2 with ⟨h1, h2⟩ | ⟨g, cap, cur, hv, _, hg, hn, hm, _⟩
  · simp only [Value.slice.injEq] at h1
    exact .inl ⟨h1.1, h1.2.2, List.eq_nil_of_length_eq_zero h2⟩
  · simp only [Value.slice.injEq, true_and] at hv
    obtain ⟨rfl, rfl⟩ := hv
    exact .inr ⟨g, rfl, At.lt (t := 3) hg, hn, hm⟩
theorem pos {i : Nat} (h : Ints w A c xs) (hi : i < xs.length) : ∃ g, A = some ⟨g, 0, none⟩ ∧ g < w.heap.size := by
  rcases h.form with ⟨_, _, rfl⟩ | ⟨g, h1, h2, _⟩
  · simp at hi
  · exact ⟨g, h1, h2⟩
theorem len (h : Ints w A c xs) : xs.length ≤ maxLen := by
  rcases h.form with ⟨_, _, rfl⟩ | ⟨g, _, _, h1, h2⟩
  · simp [maxLen]
  · omega
theorem cell {g : Nat} (h : Ints w (some ⟨g, 0, none⟩) c xs) {i : Nat} (hi : i < xs.length) : w.cell? ⟨g, i, none⟩ = some (.int .i64 (xs[i]!)) := by
  rw [World.ownsRow.cellAt h i (by omega)]
  simp [hi]
theorem frozen {g : Nat} (h : Ints w (some ⟨g, 0, none⟩) c xs) (i : Nat) : w.frozen? ⟨g, i, none⟩ = false := World.ownsRow.frozenAt h i
theorem set_ {g : Nat} (h : Ints w (some ⟨g, 0, none⟩) c xs) (i : Nat) (x : Int) : Ints (w.setCell ⟨g, i, none⟩ (.int .i64 x)) (some ⟨g, 0, none⟩) c (xs.set i x) := by
  have := (World.ownsRow.stored h i (.int .i64 x)).1
  unfold Ints
  rw [List.length_set, List.map_set]
  exact this
theorem far (h : Ints w A c xs) {p : Addr} (hp : p.block ∉ blks A) (u : Value) : Ints (w.setCell p u) A c xs :=
  Fr.own (S := [p.block]) ((Fr.refl [p.block] w).setCell (.inl (by simp)) u) h (fun k hk => by
    rcases A with _ | ad
    · simp [Value.ownBlock] at hk
    · simp only [Value.ownBlock, Option.some.injEq] at hk
      subst hk
      simp only [blks, Option.map_some, Option.toList_some, List.mem_singleton] at hp ⊢
      exact fun e => hp e.symm)
theorem fr {S : List Nat} (h : Ints w A c xs) (hf : Fr S w w') (hd : ∀ k, k ∈ blks A → k ∉ S) : Ints w' A c xs :=
  hf.own h (fun k hk => hd k (by
    rcases A with _ | ad
    · simp [Value.ownBlock] at hk
    · simp only [Value.ownBlock, Option.some.injEq] at hk
      subst hk
      simp [blks]))
theorem take_ (h : Ints w A c xs) (k : Nat) : Ints w A c (xs.take k) := by
  refine ⟨by simp, ?_⟩
  rcases h.2 with ⟨h1, h2⟩ | ⟨g, cap, cur, hv, hb, hg, hn, hm, hs, ht⟩
  · have : xs = [] := List.eq_nil_of_length_eq_zero h2
    subst this
    simp only [Value.slice.injEq, List.length_nil, true_and] at h1
    exact .inl ⟨by simp [h1.1, h1.2], by simp⟩
  · simp only [Value.slice.injEq, true_and] at hv
    obtain ⟨rfl, rfl⟩ := hv
    refine .inr ⟨g, c, cur, rfl, hb, hg, by simp; omega, hm, hs, ?_⟩
    simp only [Nat.mul_one] at ht ⊢
    rw [List.map_take, ← ht, List.take_take, List.length_take]
theorem drew (h : Ints w A c xs) : Ints w.drew A c xs := h
theorem drewN (h : Ints w A c xs) (n : Nat) : Ints (w.drewN n) A c xs := h
theorem alloc (h : Ints w A c xs) (o : Obj) : Ints (w.alloc o) A c xs := World.ownsRow.alloc h o
theorem nil (w : World) : Ints w none 0 [] := World.ownsRow_nil w 0 _ 1
theorem lt (h : Ints w A c xs) : ∀ k, k ∈ blks A → k < w.heap.size := by
  rcases h.form with ⟨rfl, _⟩ | ⟨g, rfl, h1, _⟩
  · simp [blks]
  · simpa [blks] using h1
end Ints

/-- A contract of a call that only draws, in the form that 'go_quiet' wants. -/
theorem quiet_l {P : Program} {f : FuncId} {args : Array Value} {w : World} {n : Nat} {v : Value}
    (h : Calls P f args (w.drewN n) fun e w' => e = .returned v ∧ ∃ m, (w.drewN n).drewN m = w') : Calls P f args (w.drewN n) fun e w'' => e = .returned v ∧ ∃ m, w'' = w.drewN m :=
  h.mono fun _ _ ⟨he, m, hm⟩ => ⟨he, n + m, by rw [← hm, World.drewN_drewN]⟩
theorem quiet_s {P : Program} {f : FuncId} {args : Array Value} {w : World} {n : Nat} {v : Value}
    (h : Calls P f args (w.drewN n) fun e w' => e = .returned v ∧ w.drewN n = w') : Calls P f args (w.drewN n) fun e w'' => e = .returned v ∧ ∃ m, w'' = w.drewN m :=
  h.mono fun _ _ ⟨he, hm⟩ => ⟨he, n, hm.symm⟩

end Go.Proofs.Ytbjccgahmgpkjaa
