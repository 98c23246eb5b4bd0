/- The steps of a region that draws, in short words. -/
import Derived.Test.YtpjbaobgnhjgoaaGreatRows
import Derived.WalkKit
import Derived.WalkSpells
import Derived.WalkLawsBesides
import Derived.Maps.AppendAt
import Derived.Deep.Draws
import Derived.Deep.QuietTactic
import Derived.BigQuiet
import Derived.Lib.Hide
import Derived.Deep.RegionLaw
import Derived.Deep.RegionHeld3
import Derived.OrdersHeld
import Derived.Deep.RegionHeld
import Derived.Deep.LoopGhost
set_option linter.unusedVariables false
set_option linter.unusedSimpArgs false
set_option maxHeartbeats 4000000
set_option maxRecDepth 100000
namespace Go.Proofs.YtpjbaobgnhjgoaaGreat
open Go.RowKit
theorem aa : ∀ {p : Prop}, p → RowKit.Hid p := @Lib.hid
theorem ae.{u_1} : ∀ {α : Type u_1} [inst : Inhabited α] {l : List α} {i : Nat}, l[i]! = l[i]?.getD default := @List.getElem!_eq_getElem?_getD
theorem af.{u_1} : ∀ {α : Type u_1} {l : List α} {i : Nat} (h : i < l.length), l[i]? = some l[i] := @List.getElem?_eq_getElem
theorem ai.{u} : ∀ {α : Type u} {«as» bs : List α}, («as» ++ bs).length = «as».length + bs.length := @List.length_append
theorem aj.{u_1} : ∀ {α : Type u_1} {a : α} {s t : List α}, a ∈ s ++ t ↔ a ∈ s ∨ a ∈ t := @List.mem_append
theorem ak.{u} : ∀ {α : Type u} {«as» : List α} {i : Nat} {a : α}, («as».set i a).length = «as».length := @List.length_set
theorem an.{u_1} : ∀ {α : Type u_1} {a b : α}, a ∈ [b] ↔ a = b := @List.mem_singleton
theorem ao : ∀ (n : Nat), n ≤ n := @Nat.le_refl
theorem aq.{u_1} : ∀ {α : Type u_1} {a b : α}, (some a).getD b = a := @Option.getD_some
theorem ax.{u_1,u_2} : ∀ {α : Type u_1} {β : Type u_2} {«as» : List α} (f : α → β), (List.map f «as»).length = «as».length := @List.length_map
theorem ay.{u_1} : ∀ {α : Type u_1} {b : α} {l : List α} {a : α}, a ∈ b :: l ↔ a = b ∨ a ∈ l := @List.mem_cons
theorem aD : ∀ (a b : Bool), ((a && b) = true) = (a = true ∧ b = true) := @Bool.and_eq_true
theorem aE : ∀ {n m k : Nat}, n ≤ m → m ≤ k → n ≤ k := @Nat.le_trans
theorem aF.{u_1} : ∀ {α : Type u_1} (a : α) (l : List α), a :: l ≠ [] := @List.cons_ne_nil
theorem aG : ∀ (n : Nat), ¬n < 0 := @Nat.not_lt_zero
theorem aQ : ∀ {n m k : Nat}, n < m → m ≤ k → n < k := @Nat.lt_of_lt_of_le
theorem aW.{u} : ∀ {α : Type u} {a : α} {«as» : List α} (bs : List α), a ∈ «as» → a ∈ «as» ++ bs := @List.mem_append_left
theorem a6.{u_1} : ∀ {α : Type u_1} {l : List α}, l.length = 0 → l = [] := @List.eq_nil_of_length_eq_zero
theorem a7.{u} : ∀ {α : Type u} {n : Nat} {a : α}, (List.replicate n a).length = n := @List.length_replicate
theorem bh.{u_1,u_2} : ∀ {α : Type u_1} {β : Type u_2} {f : α → β} {l : List α} {i : Nat}, (List.map f l)[i]? = Option.map f l[i]? := @List.getElem?_map
theorem bk.{u_1} : ∀ {α : Type u_1} {i : Nat} {l : List α}, (List.take i l).length = min i l.length := @List.length_take
theorem bl : ∀ (n m : Nat), n < m ∨ n ≥ m := @Nat.lt_or_ge
theorem bu.{u} : ∀ {α : Type u} {a : α}, [a].length = 1 := @List.length_singleton
theorem bE.{u_1,u_2} : ∀ {α : Type u_1} {β : Type u_2} {b : β} {f : α → β} {l : List α}, b ∈ List.map f l ↔ ∃ a, a ∈ l ∧ f a = b := @List.mem_map
theorem bP.{u_1,u_2} : ∀ {α : Type u_1} {β : Type u_2} {f : α → β} {l₁ l₂ : List α}, List.map f (l₁ ++ l₂) = List.map f l₁ ++ List.map f l₂ := @List.map_append
theorem bR.{u_1} : ∀ {α : Type u_1} (y : α) {a : α} {l : List α}, a ∈ l → a ∈ y :: l := @List.mem_cons_of_mem
theorem bT.{u_1} : ∀ {α : Type u_1} {a : α} {l : List α}, (a :: l)[0]? = some a := @List.getElem?_cons_zero
theorem bV : ∀ (n : Nat), 0 ≤ n := @Nat.zero_le
theorem bY.{u_1} : ∀ {α : Type u_1} {a : α} {l : List α}, a ∈ a :: l := @List.mem_cons_self
theorem cg.{u_1} : ∀ {α : Type u_1} {a : α} {i : Nat} {l : List α}, (a :: l)[i + 1]? = l[i]? := @List.getElem?_cons_succ
theorem cq.{u} : ∀ {α : Type u} {xs : List α} {i : Nat}, xs.toArray[i]? = xs[i]? := @List.getElem?_toArray
theorem cG.{u_1} : ∀ {α : Type u_1} {a : α}, ¬a ∈ [] := @List.not_mem_nil
theorem cN.{u_1} : ∀ {α : Type u_1} (l : List α), l.Perm l := @List.Perm.refl
theorem cS : ∀ {n : Nat}, (List.range n).length = n := @List.length_range
theorem cZ : ∀ (n : Nat), 0 + n = n := @Nat.zero_add
theorem dc.{u_1,u_2} : ∀ {α : Type u_1} {β : Type u_2} (a : α) (f : α → β), Option.map f (some a) = some (f a) := @Option.map_some
theorem df : (false = true) = False := @Bool.false_eq_true
theorem dh.{u_1} : ∀ {α : Type u_1} {i : Nat} {l : List α}, l.length ≤ i → List.take i l = l := @List.take_of_length_le
theorem dJ.{u} : ∀ {α : Type u} («as» : List α), «as» ++ [] = «as» := @List.append_nil
theorem dW.{u,v} : ∀ {α : Type u} {β : Type v} {f : α → β} {a : α} {l : List α}, List.map f (a :: l) = f a :: List.map f l := @List.map_cons
theorem eo : ∀ (n m : Nat), n + m - m = n := @Nat.add_sub_cancel
theorem eI.{u_1} : ∀ {α : Type u_1} (a : α), (some a).toList = [a] := @Option.toList_some
theorem eS.{u_1} : ∀ {α : Type u_1} {l₁ l₂ : List α} {i : Nat}, i < l₁.length → (l₁ ++ l₂)[i]? = l₁[i]? := @List.getElem?_append_left
theorem fc : ∀ {x y : Bool}, (x || y) = false ↔ x = false ∧ y = false := @Bool.or_eq_false_iff
theorem ff.{u_1} : ∀ {α : Type u_1} {i : Nat} {xs : Array α}, xs.size ≤ i → xs[i]? = none := @Array.getElem?_eq_none
theorem fH.{u_1} : ∀ {α : Type u_1} {x : α} {«as» : List α}, x ∈ «as».reverse ↔ x ∈ «as» := @List.mem_reverse
theorem fO.{u_1} : ∀ {α : Type u_1} {l : List α}, List.take l.length l = l := @List.take_length
theorem fX.{u,v} : ∀ {α : Type u} {β : Type v} {f : α → β}, List.map f [] = [] := @List.map_nil
theorem gG : ∀ {m n : Nat}, m ∈ List.range n ↔ m < n := @List.mem_range
theorem gW.{u_1} : ∀ {α : Type u_1} {a : α} {l : List α}, (a :: l).Nodup ↔ ¬a ∈ l ∧ l.Nodup := @List.nodup_cons
theorem iH : ∀ {a b : Nat}, a ≤ b → min a b = a := @Nat.min_eq_left
theorem kf : ∀ (a : Int), a ≤ a := @Int.le_refl
theorem kU.{u_1} : ∀ {α : Type u_1} {l₁ l₂ : List α} {i : Nat}, i ≤ l₁.length → List.take i (l₁ ++ l₂) = List.take i l₁ := @List.take_append_of_le_length
theorem kV.{u} : ∀ {α : Type u} {a : α} {«as» : List α}, (a :: «as»).length = «as».length + 1 := @List.length_cons
def At (w : World) (g : Nat) (t : TypeId) (cs : Array Value) : Prop := w.heap[g]? = some (.cells cs t (0, 0))
structure Fr (S : List Nat) (w w' : World) : Prop where
 os : w'.os = w.os
 tape : w'.tape = w.tape
 output : w'.output = w.output
 size : w.heap.size ≤ w'.heap.size
 block : ∀ k, k < w.heap.size → k ∉ S → w'.heap[k]? = w.heap[k]?
namespace Fr
variable {S T : List Nat} {w w' a b c : World}
theorem refl (S : List Nat) (w : World) : Fr S w w := ⟨rfl, rfl, rfl, ao _, fun _ _ _ => rfl⟩
theorem mono (h : Fr S w w') (hs : ∀ k, k ∈ S → k ∈ T ∨ w.heap.size ≤ k) : Fr T w w' :=
 ⟨h.os, h.tape, h.output, h.size, fun k hk hn => h.block k hk fun hm => (hs k hm).elim hn (by omega)⟩
theorem trans (h : Fr S a b) (k : Fr T b c) (hs : ∀ x, x ∈ T → x ∈ S ∨ a.heap.size ≤ x) : Fr S a c :=
 ⟨k.os.trans h.os, k.tape.trans h.tape, k.output.trans h.output, aE h.size k.size, fun i hi hn =>
  (k.block i (aQ hi h.size) fun hm => (hs i hm).elim hn (by omega)).trans (h.block i hi hn)⟩
theorem ag (h : Fr S a b) (k : Fr S b c) : Fr S a c := h.trans k fun _ hx => .inl hx
theorem drew (h : Fr S w w') : Fr S w w'.drew := ⟨h.os, h.tape, h.output, h.size, h.block⟩
theorem drewN (h : Fr S w w') (n : Nat) : Fr S w (w'.drewN n) := ⟨h.os, h.tape, h.output, h.size, h.block⟩
theorem alloc (h : Fr S w w') (o : Obj) : Fr S w (w'.alloc o) :=
 h.ag ⟨rfl, rfl, rfl, by simp, fun k hk _ => Below.heap_alloc _ _ _ hk⟩
theorem setCell (h : Fr S w w') {p : Addr} (hp : p.block ∈ S ∨ w.heap.size ≤ p.block) (u : Value) : Fr S w (w'.setCell p u) :=
 ⟨h.os, h.tape, h.output, by simpa [World.setCell] using h.size, fun k hk hn => (Below.heap_setCell _ _ _ _ (by
  rintro rfl
  rcases hp with hp | hp
  ·exact hn hp
  ·omega)).trans (h.block k hk hn)⟩
theorem grown (h : Fr S w w') {row : Option Nat} {vg : World} (hg : w'.grownBy vg row) (hr : ∀ k, row = some k → k ∈ S ∨ w.heap.size ≤ k) : Fr S w vg :=
 ⟨hg.os.trans h.os, hg.tape.trans h.tape, hg.output.trans h.output, aE h.size hg.size, fun k hk hn =>
  (hg.block k (aQ hk h.size) fun e => (hr k e.symm).elim hn (by omega)).trans (h.block k hk hn)⟩
theorem below (h : Fr [] w w') : Below w.heap.size w w' := ⟨h.os, h.tape, h.output, h.size, fun k hk => h.block k hk (by simp)⟩
theorem at_ (h : Fr S w w') {g : Nat} {t : TypeId} {cs : Array Value} (hg : At w g t cs) (hn : g ∉ S) : At w' g t cs :=
 (h.block g (by
  rcases bl g w.heap.size with hl | hl
  ·exact hl
  ·unfold At at hg; rw [ff hl] at hg; cases hg) hn).trans hg
theorem own (h : Fr S w w') {base : Nat} {e : TypeId} {size n : Nat} {v : Value} {xs : List Value} (ho : w.ownsRow base e size v n xs) (hn : ∀ k, v.ownBlock = some k → k ∉ S) : w'.ownsRow base e size v n xs := by
 refine ⟨ho.1, ?_⟩
 rcases ho.2 with h0 | ⟨g, cap, cur, hv, hb, hg, r⟩
 ·exact .inl h0
 ·exact .inr ⟨g, cap, cur, hv, hb, h.at_ (t := e) hg (hn g (by rw [hv]; rfl)), r⟩
end Fr
namespace At
variable {w w' : World} {g : Nat} {t : TypeId} {cs : Array Value}
theorem lt (h : At w g t cs) : g < w.heap.size := by
 rcases bl g w.heap.size with hl | hl
 ·exact hl
 ·unfold At at h; rw [ff hl] at h; cases h
theorem cell (h : At w g t cs) (i : Nat) : w.cell? ⟨g, i, none⟩ = cs[i]? := cell_of_row w g i cs t (0, 0) h
theorem frozen (h : At w g t cs) (i : Nat) : w.frozen? ⟨g, i, none⟩ = false := by
 unfold At at h
 simp [World.frozen?, h]
theorem new (w : World) (t : TypeId) (cs : Array Value) : At (w.alloc (.cells cs t)) w.heap.size t cs := heap_alloc_new w _
theorem drew (h : At w g t cs) : At w.drew g t cs := h
theorem alloc (h : At w g t cs) (o : Obj) : At (w.alloc o) g t cs := (Below.heap_alloc w o g h.lt).trans h
theorem cV (h : At w g t cs) (i : Nat) (u : Value) : At (w.setCell ⟨g, i, none⟩ u) g t (cs.setIfInBounds i u) := by
 unfold At at h ⊢
 simp [World.setCell, Array.getElem?_modify, h]
theorem fy (h : At w g t cs) {p : Addr} (hp : g ≠ p.block) (u : Value) : At (w.setCell p u) g t cs := (Below.heap_setCell w p u g hp).trans h
end At
def Ints (w : World) (A : Option Addr) (c : Nat) (xs : List Int) : Prop := w.ownsRow 0 3 1 (.slice A xs.length c) xs.length (xs.map (Value.int .i64))
def ah (A : Option Addr) : List Nat := (A.map (·.block)).toList
namespace Ints
variable {w w' : World} {A : Option Addr} {c : Nat} {xs : List Int}
theorem form (h : Ints w A c xs) : (A = none ∧ c = 0 ∧ xs = []) ∨ ∃ g, A = some ⟨g, 0, none⟩ ∧ g < w.heap.size ∧ xs.length ≤ c ∧ c ≤ maxLen := by
 rcases h.2 with ⟨h1, h2⟩ | ⟨g, cap, cur, hv, _, hg, hn, hm, _⟩
 ·simp only [Value.slice.injEq] at h1
  exact .inl ⟨h1.1, h1.2.2, a6 h2⟩
 ·simp only [Value.slice.injEq, true_and] at hv
  obtain ⟨rfl, rfl⟩ := hv
  exact .inr ⟨g, rfl, At.lt (t := 3) hg, hn, hm⟩
theorem pos {i : Nat} (h : Ints w A c xs) (hi : i < xs.length) : ∃ g, A = some ⟨g, 0, none⟩ ∧ g < w.heap.size := by
 rcases h.form with ⟨_, _, rfl⟩ | ⟨g, h1, h2, _⟩
 ·simp at hi
 ·exact ⟨g, h1, h2⟩
theorem len (h : Ints w A c xs) : xs.length ≤ maxLen := by
 rcases h.form with ⟨_, _, rfl⟩ | ⟨g, _, _, h1, h2⟩
 ·simp [maxLen]
 ·omega
theorem cell {g : Nat} (h : Ints w (some ⟨g, 0, none⟩) c xs) {i : Nat} (hi : i < xs.length) : w.cell? ⟨g, i, none⟩ = some (.int .i64 (xs[i]!)) := by
 rw [World.ownsRow.cellAt h i (by omega)]
 simp [hi]
theorem frozen {g : Nat} (h : Ints w (some ⟨g, 0, none⟩) c xs) (i : Nat) : w.frozen? ⟨g, i, none⟩ = false := World.ownsRow.frozenAt h i
theorem cV {g : Nat} (h : Ints w (some ⟨g, 0, none⟩) c xs) (i : Nat) (x : Int) : Ints (w.setCell ⟨g, i, none⟩ (.int .i64 x)) (some ⟨g, 0, none⟩) c (xs.set i x) := by
 have := (World.ownsRow.stored h i (.int .i64 x)).1
 unfold Ints
 rw [ak, List.map_set]
 exact this
theorem fy (h : Ints w A c xs) {p : Addr} (hp : p.block ∉ ah A) (u : Value) : Ints (w.setCell p u) A c xs :=
 Fr.own (S := [p.block]) ((Fr.refl [p.block] w).setCell (.inl (by simp)) u) h (fun k hk => by
  rcases A with _ | ad
  ·simp [Value.ownBlock] at hk
  ·simp only [Value.ownBlock, Option.some.injEq] at hk
   subst hk
   simp only [ah, dc, eI, an] at hp ⊢
   exact fun e => hp e.symm)
theorem fr {S : List Nat} (h : Ints w A c xs) (hf : Fr S w w') (hd : ∀ k, k ∈ ah A → k ∉ S) : Ints w' A c xs :=
 hf.own h (fun k hk => hd k (by
  rcases A with _ | ad
  ·simp [Value.ownBlock] at hk
  ·simp only [Value.ownBlock, Option.some.injEq] at hk
   subst hk
   simp [ah]))
theorem nP (h : Ints w A c xs) (k : Nat) : Ints w A c (xs.take k) := by
 refine ⟨by simp, ?_⟩
 rcases h.2 with ⟨h1, h2⟩ | ⟨g, cap, cur, hv, hb, hg, hn, hm, hs, ht⟩
 ·have : xs = [] := a6 h2
  subst this
  simp only [Value.slice.injEq, List.length_nil, true_and] at h1
  exact .inl ⟨by simp [h1.1, h1.2], by simp⟩
 ·simp only [Value.slice.injEq, true_and] at hv
  obtain ⟨rfl, rfl⟩ := hv
  refine .inr ⟨g, c, cur, rfl, hb, hg, by simp; omega, hm, hs, ?_⟩
  simp only [Nat.mul_one] at ht ⊢
  rw [List.map_take, ← ht, List.take_take, bk]
theorem drew (h : Ints w A c xs) : Ints w.drew A c xs := h
theorem alloc (h : Ints w A c xs) (o : Obj) : Ints (w.alloc o) A c xs := World.ownsRow.alloc h o
theorem nil (w : World) : Ints w none 0 [] := World.ownsRow_nil w 0 _ 1
theorem lt (h : Ints w A c xs) : ∀ k, k ∈ ah A → k < w.heap.size := by
 rcases h.form with ⟨rfl, _⟩ | ⟨g, rfl, h1, _⟩
 ·simp [ah]
 ·simpa [ah] using h1
end Ints
theorem FH {P : Program} {f : FuncId} {args : Array Value} {w : World} {n : Nat} {v : Value}
  (h : Calls P f args (w.drewN n) fun e w' => e = .returned v ∧ ∃ m, (w.drewN n).drewN m = w') : Calls P f args (w.drewN n) fun e vg => e = .returned v ∧ ∃ m, vg = w.drewN m :=
 h.mono fun _ _ ⟨he, m, hm⟩ => ⟨he, n + m, by rw [← hm, World.drewN_drewN]⟩
structure Hp where
 items : List Int
 at_ : List Int
 score : List Int
structure eW where
 a : Nat
 A1 : Option Addr
 c1 : Nat
 A2 : Option Addr
 c2 : Nat
 A3 : Option Addr
 c3 : Nat
def eW.fp (L : eW) : List Nat := L.a :: (ah L.A1 ++ (ah L.A2 ++ ah L.A3))
structure b8 (w : World) (L : eW) (H : Hp) : Prop where
 obj : At w L.a 159 #[.slice L.A1 H.items.length L.c1, .slice L.A2 H.at_.length L.c2, .slice L.A3 H.score.length L.c3]
 items : Ints w L.A1 L.c1 H.items
 at_ : Ints w L.A2 L.c2 H.at_
 score : Ints w L.A3 L.c3 H.score
 nodup : L.fp.Nodup
 same : H.at_.length = H.score.length
def Hp.sc (H : Hp) (x : Int) : Int := H.score[x.toNat]!
def Hp.pl (H : Hp) (x : Int) : Int := H.at_[x.toNat]!
def Hp.it (H : Hp) (i : Int) : Int := H.items[i.toNat]!
def Hp.gX (H : Hp) (x : Int) : Bool := decide (0 ≤ x) && decide (x < H.at_.length)
def Hp.bi (H : Hp) (x y : Int) : Bool := decide (H.sc y < H.sc x) || (decide (H.sc x = H.sc y) && decide (x < y))
theorem ju {a b : Bool} (h : a = b) : Ending.returned (.bool a) = .returned (.bool b) := by rw [h]
theorem yf {k : IntKind} {a b : Int} (h : a = b) : Ending.returned (.int k a) = .returned (.int k b) := by rw [h]
theorem Qa (w : World) (L : eW) (H : Hp) (h : b8 w L H) (x : Int) :
  Calls Tryz.prog 147 #[.pointer (some ⟨L.a, 0, none⟩), .int .i64 x] w fun e w' => e = .returned (.bool (H.gX x)) ∧ w = w' := by
 have c1 := h.obj.cell 1
 simp at c1
 unfold Hp.gX
 by_cases h0 : 0 ≤ x
 ·by_cases h1 : x < H.at_.length
  ·go_enter Tryz.func147, Tryz.ntmps147
   go_wp2
   go_ret
   exact ⟨ju (by simp [h0, h1]), rfl⟩
  ·go_enter Tryz.func147, Tryz.ntmps147
   go_wp2
   go_ret
   exact ⟨ju (by simp [h1]), rfl⟩
 ·go_enter Tryz.func147, Tryz.ntmps147
  go_wp2
  go_ret
  exact ⟨ju (by simp; omega), rfl⟩
theorem b8.av {w : World} {L : eW} {H : Hp} (h : b8 w L H) {x : Int} (h0 : 0 ≤ x) (h1 : x < H.at_.length) :
  ∃ g, L.A3 = some ⟨g, 0, none⟩ ∧ w.cell? ⟨g, x.toNat, none⟩ = some (.int .i64 (H.sc x)) := by
 have hs := h.same
 obtain ⟨g, hg, _⟩ := h.score.pos (i := x.toNat) (by omega)
 refine ⟨g, hg, ?_⟩
 have := h.score
 rw [hg] at this
 exact this.cell (by omega)
theorem heap_ahead (w : World) (L : eW) (H : Hp) (h : b8 w L H) (x y : Int) (Ay : 0 ≤ x) (gP : x < H.at_.length) (jJ : 0 ≤ y) (gx : y < H.at_.length) :
  Calls Tryz.prog 167 #[.pointer (some ⟨L.a, 0, none⟩), .int .i64 x, .int .i64 y] w fun e w' => e = .returned (.bool (H.bi x y)) ∧ ∃ n, w.drewN n = w' := by
 have hs := h.same
 have c1 := h.obj.cell 2
 simp at c1
 obtain ⟨g, hg, cx⟩ := h.av Ay gP
 obtain ⟨g', nq, cy⟩ := h.av jJ gx
 rw [hg] at nq c1
 cases nq
 have iP : x < H.score.length := by omega
 have kg : y < H.score.length := by omega
 unfold Hp.bi
 clear h hs gP gx
 generalize H.sc x = sx at cx ⊢
 generalize H.sc y = sy at cy ⊢
 by_cases h1 : sy < sx
 ·go_enter Tryz.func167, Tryz.ntmps167
  go_wp2_with fail
  go_quiet (fail)
  go_wp2
  go_ret
  exact ⟨ju (by simp [h1]), _, rfl⟩
 ·have vy : decide (sy < sx) = false := decide_eq_false h1
  by_cases h2 : sx = sy
  ·subst h2
   by_cases h3 : x < y
   ·go_enter Tryz.func167, Tryz.ntmps167
    go_wp2_with fail
    go_quiet (fail)
    go_wp2
    go_ret
    exact ⟨ju (by simp [h3]), _, rfl⟩
   ·go_enter Tryz.func167, Tryz.ntmps167
    go_wp2_with fail
    go_quiet (fail)
    go_wp2
    go_ret
    exact ⟨ju (by simp), _, rfl⟩
  ·have h2' : (sx == sy) = false := beq_eq_false_iff_ne.2 h2
   go_enter Tryz.func167, Tryz.ntmps167
   go_wp2_with fail
   go_quiet (fail)
   go_wp2
   go_ret
   exact ⟨ju (by simp [vy, h2]), _, rfl⟩
def Hp.put (H : Hp) (i x : Int) : Hp := { H with items := H.items.set i.toNat x, at_ := H.at_.set x.toNat i }
theorem gf {a : Nat} {x y z : List Nat} (h : (a :: (x ++ (y ++ z))).Nodup) :
  (∀ k, k ∈ x → k ≠ a ∧ k ∉ y ∧ k ∉ z) ∧ (∀ k, k ∈ y → k ≠ a ∧ k ∉ x ∧ k ∉ z) ∧ (∀ k, k ∈ z → k ≠ a ∧ k ∉ x ∧ k ∉ y) := by
 simp only [gW, aj, List.nodup_append] at h
 obtain ⟨h1, h2, ⟨h3, h4, h5⟩, h6⟩ := h
 refine ⟨fun k hk => ⟨?_, ?_, ?_⟩, fun k hk => ⟨?_, ?_, ?_⟩, fun k hk => ⟨?_, ?_, ?_⟩⟩
 ·rintro rfl; exact h1 (.inl hk)
 ·exact fun hy => h6 k hk k (.inl hy) rfl
 ·exact fun hz => h6 k hk k (.inr hz) rfl
 ·rintro rfl; exact h1 (.inr (.inl hk))
 ·exact fun hx => h6 k hx k (.inl hk) rfl
 ·exact fun hz => h5 k hk k hz rfl
 ·rintro rfl; exact h1 (.inr (.inr hk))
 ·exact fun hx => h6 k hx k (.inr hk) rfl
 ·exact fun hy => h5 k hy k hk rfl
theorem b8.ip {w : World} {L : eW} {H : Hp} (h : b8 w L H) {i : Int} (h0 : 0 ≤ i) (h1 : i < H.items.length) :
  ∃ g, L.A1 = some ⟨g, 0, none⟩ ∧ w.cell? ⟨g, i.toNat, none⟩ = some (.int .i64 (H.it i)) ∧ w.frozen? ⟨g, i.toNat, none⟩ = false := by
 obtain ⟨g, hg, _⟩ := h.items.pos (i := i.toNat) (by omega)
 refine ⟨g, hg, ?_⟩
 have := h.items
 rw [hg] at this
 exact ⟨this.cell (by omega), this.frozen _⟩
theorem b8.u1 {w : World} {L : eW} {H : Hp} (h : b8 w L H) {i : Int} (h0 : 0 ≤ i) (h1 : i < H.at_.length) :
  ∃ g, L.A2 = some ⟨g, 0, none⟩ ∧ w.cell? ⟨g, i.toNat, none⟩ = some (.int .i64 (H.pl i)) ∧ w.frozen? ⟨g, i.toNat, none⟩ = false := by
 obtain ⟨g, hg, _⟩ := h.at_.pos (i := i.toNat) (by omega)
 refine ⟨g, hg, ?_⟩
 have := h.at_
 rw [hg] at this
 exact ⟨this.cell (by omega), this.frozen _⟩
theorem b8.acb {w : World} {L : eW} {H : Hp} (h : b8 w L H) {g : Nat} (hg : L.A1 = some ⟨g, 0, none⟩) (i : Nat) (x : Int) :
  b8 (w.setCell ⟨g, i, none⟩ (.int .i64 x)) L { H with items := H.items.set i x } := by
 obtain ⟨h1, h2, h3⟩ := gf h.nodup
 have hm : g ∈ ah L.A1 := by simp [hg, ah]
 refine ⟨?_, ?_, ?_, ?_, h.nodup, h.same⟩
 ·have := h.obj.fy (p := ⟨g, i, none⟩) (fun e => (h1 g hm).1 e.symm) (.int .i64 x)
  simpa using this
 ·have := h.items
  rw [hg] at this ⊢
  exact this.cV i x
 ·exact h.at_.fy (fun hk => (h1 g hm).2.1 hk) _
 ·exact h.score.fy (fun hk => (h1 g hm).2.2 hk) _
theorem b8.SI {w : World} {L : eW} {H : Hp} (h : b8 w L H) {g : Nat} (hg : L.A2 = some ⟨g, 0, none⟩) (i : Nat) (x : Int) :
  b8 (w.setCell ⟨g, i, none⟩ (.int .i64 x)) L { H with at_ := H.at_.set i x } := by
 obtain ⟨h1, h2, h3⟩ := gf h.nodup
 have hm : g ∈ ah L.A2 := by simp [hg, ah]
 refine ⟨?_, ?_, ?_, ?_, h.nodup, by simpa using h.same⟩
 ·have := h.obj.fy (p := ⟨g, i, none⟩) (fun e => (h2 g hm).1 e.symm) (.int .i64 x)
  simpa using this
 ·exact h.items.fy (fun hk => (h2 g hm).2.1 hk) _
 ·have := h.at_
  rw [hg] at this ⊢
  exact this.cV i x
 ·exact h.score.fy (fun hk => (h2 g hm).2.2 hk) _
theorem b8.drewN {w : World} {L : eW} {H : Hp} (h : b8 w L H) (n : Nat) : b8 (w.drewN n) L H := ⟨h.obj, h.items, h.at_, h.score, h.nodup, h.same⟩
theorem b8.drew {w : World} {L : eW} {H : Hp} (h : b8 w L H) : b8 w.drew L H := ⟨h.obj, h.items, h.at_, h.score, h.nodup, h.same⟩
theorem fo (w : World) (L : eW) (H : Hp) (h : b8 w L H) (i x : Int) (P2 : 0 ≤ i) (LS : i < H.items.length) (Ay : 0 ≤ x) (gP : x < H.at_.length) :
  Calls Tryz.prog 168 #[.pointer (some ⟨L.a, 0, none⟩), .int .i64 i, .int .i64 x] w fun e w' => e = .returned (.tuple #[]) ∧ b8 w' L (H.put i x) ∧ Fr L.fp w w' := by
 have o0 := h.obj.cell 0
 have o1 := h.obj.cell 1
 simp at o0 o1
 obtain ⟨g, hg, ci, fi⟩ := h.ip P2 LS
 obtain ⟨g', nq, cx, fx⟩ := h.u1 Ay gP
 have dN : g ≠ g' := fun e => ((gf h.nodup).1 g (by simp [hg, ah])).2.1 (by simp [nq, ah, e])
 rw [hg] at o0
 rw [nq] at o1
 have fin := (h.acb hg i.toNat x).SI nq x.toNat i
 have fr : Fr L.fp w ((w.setCell ⟨g, i.toNat, none⟩ (.int .i64 x)).setCell ⟨g', x.toNat, none⟩ (.int .i64 i)) :=
  ((Fr.refl L.fp w).setCell (.inl (by simp [eW.fp, hg, ah])) _).setCell (.inl (by simp [eW.fp, nq, ah])) _
 clear h
 go_enter Tryz.func168, Tryz.ntmps168
 go_wp2
 go_region
 go_wp2
 go_end0
 exact ⟨rfl, fin.drew, fr.drew⟩
theorem da (w : World) (L : eW) (H : Hp) (h : b8 w L H) (x y : Int) (b : Bool) (hb : H.bi x y = b) (hx : 0 ≤ x ∧ x < H.at_.length) (hy : 0 ≤ y ∧ y < H.at_.length) :
  Calls Tryz.prog 167 #[.pointer (some ⟨L.a, 0, none⟩), .int .i64 x, .int .i64 y] w fun e w' => e = .returned (.bool b) ∧ ∃ n, w.drewN n = w' :=
 (heap_ahead w L H h x y hx.1 hx.2 hy.1 hy.2).mono fun _ _ ⟨he, hw⟩ => ⟨by rw [he, hb], hw⟩
theorem Hp.dx (H : Hp) (i x : Int) : (H.put i x).items.length = H.items.length := by simp [Hp.put]
theorem Hp.qu (H : Hp) (i x : Int) : (H.put i x).at_.length = H.at_.length := by simp [Hp.put]
def Hp.EW (H : Hp) : Prop := ∀ j : Nat, j < H.items.length → 0 ≤ H.items[j]! ∧ H.items[j]! < H.at_.length
theorem Hp.EW.it {H : Hp} (h : H.EW) {i : Int} (h0 : 0 ≤ i) (h1 : i < H.items.length) : 0 ≤ H.it i ∧ H.it i < H.at_.length := h i.toNat (by omega)
theorem Hp.EW.put {H : Hp} (h : H.EW) {i x : Int} (Ay : 0 ≤ x) (gP : x < H.at_.length) : (H.put i x).EW := by
 intro j hj
 have Ua : j < H.items.length := by simpa [Hp.put] using hj
 have := h j Ua
 simp only [Hp.put, ak]
 by_cases e : i.toNat = j
 ·subst e; simp [Ua]; omega
 ·have : (H.items.set i.toNat x)[j]! = H.items[j]! := by simp [ae, e]
  rw [this]; assumption
def Hp.nO (x : Int) : Nat → Hp → Nat → Hp
 | 0, H, i => H.put i x
 | f + 1, H, i => if 0 < i ∧ H.bi x (H.it (((i - 1) / 2 : Nat) : Int)) = true then nO x f (H.put i (H.it (((i - 1) / 2 : Nat) : Int))) ((i - 1) / 2) else H.put i x
theorem Hp.SG {x : Int} {f : Nat} {H : Hp} {i : Nat} (hi : 0 < i) (ha : H.bi x (H.it (((i - 1) / 2 : Nat) : Int)) = true) (hf : i < f) :
  Hp.nO x f H i = Hp.nO x (f - 1) (H.put i (H.it (((i - 1) / 2 : Nat) : Int))) ((i - 1) / 2) := by
 obtain ⟨f, rfl⟩ : ∃ g, f = g + 1 := ⟨f - 1, by omega⟩
 simp only [Hp.nO, eo]; rw [if_pos ⟨hi, ha⟩]
theorem Hp.zL {x : Int} {f : Nat} {H : Hp} {i : Nat} (h : ¬ (0 < i ∧ H.bi x (H.it (((i - 1) / 2 : Nat) : Int)) = true)) : Hp.nO x f H i = H.put i x := by
 cases f with
 | zero => rfl
 | succ f => simp only [Hp.nO]; rw [if_neg h]
theorem F3 (w : World) (L : eW) (H : Hp) (h : b8 w L H) (hr : H.EW) (i : Nat) (LS : i < H.items.length) :
  Calls Tryz.prog 148 #[.pointer (some ⟨L.a, 0, none⟩), .int .i64 i] w fun e w' => e = .returned (.tuple #[]) ∧ b8 w' L (Hp.nO (H.it i) (i + 1) H i) ∧ Fr L.fp w w' := by
 have o0 := h.obj.cell 0
 simp at o0
 have hm := h.items.len
 unfold maxLen at hm
 obtain ⟨g, hg, ci, fi⟩ := h.ip (i := i) (by omega) (by omega)
 rw [hg] at o0
 have hx := hr.it (i := i) (by omega) (by omega)
 obtain ⟨x, sL⟩ : ∃ x, H.it i = x := ⟨_, rfl⟩
 rw [sL] at ci hx ⊢
 have ci' : w.cell? ⟨g, i, none⟩ = some (.int .i64 x) := by simpa using ci
 clear ci fi sL
 have qg : (i : Int) < H.items.length := by omega
 go_enter Tryz.func148, Tryz.ntmps148
 go_wp2
 go_loopw [1] (fun iv wr => ∃ (k f : Nat) (K : Hp), iv = .int .i64 k ∧ b8 wr L K ∧ K.EW ∧ K.items.length = H.items.length ∧ K.at_.length = H.at_.length ∧ k < H.items.length ∧ k < f ∧
   Hid (Hp.nO x (i + 1) H i = Hp.nO x f K k) ∧ Fr L.fp w wr) (fun iv _ => (intOf iv).toNat)
 case atStart => exact ⟨i, i + 1, H, rfl, h, hr, rfl, rfl, LS, by omega, rfl, Fr.refl _ _⟩
 case round =>
  obtain ⟨k, f, K, rfl, hK, RY, l1, l2, hk, hkf, HE, sg⟩ := hrel
  have q0 := hK.obj.cell 0
  simp only [l1, hg, cq, bT] at q0
  by_cases LN : 0 < k
  ·obtain ⟨g', nq, cp, _⟩ := hK.ip (i := ((k - 1) / 2 : Nat)) (by omega) (by omega)
   rw [hg] at nq
   cases nq
   have hy := RY.it (i := ((k - 1) / 2 : Nat)) (by omega) (by omega)
   obtain ⟨y, rm⟩ : ∃ y, K.it (((k - 1) / 2 : Nat) : Int) = y := ⟨_, rfl⟩
   rw [rm] at cp hy
   have cp' : wr.cell? ⟨g, (k - 1) / 2, none⟩ = some (.int .i64 y) := cp
   clear cp
   have alU : (0 : Int) < (k : Int) := by omega
   have HK := aa hK
   have HL := aa l1
   have HM := aa l2
   have Ec : (k : Int) < H.items.length := by omega
   cases ha : K.bi x y with
   | true =>
    have HS : Hid (Hp.nO x f K k = Hp.nO x (f - 1) (K.put k y) ((k - 1) / 2)) := by
     have := Hp.SG (x := x) (f := f) (H := K) LN (by rw [rm]; exact ha) hkf
     rw [rm] at this
     exact this
    have HA := aa ha
    have HY := aa rm
    clear ha rm hK l1 l2
    go_wp2_with fail
    refine (da _ L K HK.out x y true HA.out (by rw [HM.out]; exact hx) hy).mono ?_
    rintro e w1 ⟨rfl, n1, rfl⟩
    go_wp2_with fail
    refine (fo _ L K (HK.out.drewN _) k y (by omega) (by rw [HL.out]; omega) hy.1 hy.2).mono ?_
    rintro e w1 ⟨rfl, hp, cE⟩
    have HP := aa hp
    clear hp
    go_wp2_with fail
    go_roundw
    case rel =>
     exact ⟨(k - 1) / 2, f - 1, K.put k y, by go_num, HP.out, RY.put hy.1 hy.2, by rw [Hp.dx]; exact HL.out, by rw [Hp.qu]; exact HM.out, by omega, by omega, HE.out.trans HS.out,
      sg.ag (((Fr.refl L.fp wr).drewN n1).ag cE)⟩
    case measure => simp [intOf]; omega
   | false =>
    have HS : Hid (Hp.nO x f K k = K.put k x) := Hp.zL (by rw [rm, ha]; simp)
    have HA := aa ha
    clear ha rm hK l1 l2
    go_wp2_with fail
    refine (da _ L K HK.out x y false HA.out (by rw [HM.out]; exact hx) hy).mono ?_
    rintro e w1 ⟨rfl, n1, rfl⟩
    go_wp2_with fail
    refine (fo _ L K (HK.out.drewN _) k x (by omega) (by rw [HL.out]; omega) hx.1 (by rw [HM.out]; exact hx.2)).mono ?_
    rintro e w1 ⟨rfl, hp, cE⟩
    have HP := aa hp
    clear hp
    go_wp2_with fail
    go_end0
    exact ⟨rfl, by rw [HE.out, HS.out]; exact HP.out, sg.ag (((Fr.refl L.fp wr).drewN n1).ag cE)⟩
  ·have HS : Hid (Hp.nO x f K k = K.put k x) := Hp.zL (fun h => LN h.1)
   have hz : k = 0 := by omega
   subst hz
   have HK := aa hK
   have HL := aa l1
   have HM := aa l2
   clear hK l1 l2
   go_wp2_with fail
   refine (fo _ L K HK.out _ x (by omega) (by rw [HL.out]; omega) hx.1 (by rw [HM.out]; exact hx.2)).mono ?_
   rintro e w1 ⟨rfl, hp, cE⟩
   have HP := aa hp
   clear hp
   go_wp2_with fail
   go_end0
   exact ⟨rfl, by rw [HE.out, HS.out]; exact HP.out, sg.ag cE⟩
def Hp.bF (H : Hp) (i : Nat) : Nat := if 2 * i + 2 < H.items.length ∧ H.bi (H.it ((2 * i + 2 : Nat) : Int)) (H.it ((2 * i + 1 : Nat) : Int)) = true then 2 * i + 2 else 2 * i + 1
def Hp.fu (x : Int) : Nat → Hp → Nat → Hp
 | 0, H, i => H.put i x
 | f + 1, H, i => if 2 * i + 1 < H.items.length ∧ H.bi (H.it ((H.bF i : Nat) : Int)) x = true then Hp.fu x f (H.put i (H.it ((H.bF i : Nat) : Int))) (H.bF i) else H.put i x
theorem Hp.uJ {x : Int} {f : Nat} {H : Hp} {i b : Nat} (hb : H.bF i = b) (hi : 2 * i + 1 < H.items.length) (ha : H.bi (H.it ((b : Nat) : Int)) x = true) (hf : 1 ≤ f) :
  Hp.fu x f H i = Hp.fu x (f - 1) (H.put i (H.it ((b : Nat) : Int))) b := by
 obtain ⟨f, rfl⟩ : ∃ g, f = g + 1 := ⟨f - 1, by omega⟩
 simp only [Hp.fu, eo]; rw [hb, if_pos ⟨hi, ha⟩]
theorem Hp.lE {x : Int} {f : Nat} {H : Hp} {i : Nat} (h : ¬ (2 * i + 1 < H.items.length ∧ H.bi (H.it ((H.bF i : Nat) : Int)) x = true)) : Hp.fu x f H i = H.put i x := by
 cases f with
 | zero => rfl
 | succ f => simp only [Hp.fu]; rw [if_neg h]
theorem Iv (w : World) (L : eW) (H : Hp) (h : b8 w L H) (hr : H.EW) (i : Nat) (LS : i < H.items.length) (Hu : H.items.length ≤ 4611686018427387903) :
  Calls Tryz.prog 183 #[.pointer (some ⟨L.a, 0, none⟩), .int .i64 i] w fun e w' => e = .returned (.tuple #[]) ∧ b8 w' L (Hp.fu (H.it i) H.items.length H i) ∧ Fr L.fp w w' := by
 have o0 := h.obj.cell 0
 simp at o0
 obtain ⟨g, hg, ci, fi⟩ := h.ip (i := i) (by omega) (by omega)
 rw [hg] at o0
 have hx := hr.it (i := i) (by omega) (by omega)
 obtain ⟨x, sL⟩ : ∃ x, H.it i = x := ⟨_, rfl⟩
 rw [sL] at ci hx ⊢
 have ci' : w.cell? ⟨g, i, none⟩ = some (.int .i64 x) := by simpa using ci
 clear ci fi sL
 have qg : (i : Int) < H.items.length := by omega
 go_enter Tryz.func183, Tryz.ntmps183
 go_wp2
 go_loopw [1, 5] (fun iv kv wr => ∃ (k f : Nat) (K : Hp), iv = .int .i64 k ∧ b8 wr L K ∧ K.EW ∧ K.items.length = H.items.length ∧ K.at_.length = H.at_.length ∧ k < H.items.length ∧ H.items.length ≤ k + f ∧
   Hid (Hp.fu x H.items.length H i = Hp.fu x f K k) ∧ Fr L.fp w wr) (fun iv _ _ => H.items.length - (intOf iv).toNat)
 case atStart => exact ⟨i, H.items.length, H, rfl, h, hr, rfl, rfl, LS, by omega, rfl, Fr.refl _ _⟩
 case round =>
  obtain ⟨k, f, K, rfl, hK, RY, l1, l2, hk, hkf, HE, sg⟩ := hrel
  have q0 := hK.obj.cell 0
  simp only [l1, hg, cq, bT] at q0
  by_cases hc : 2 * k + 1 < H.items.length
  ·have V5 : 2 * (k : Int) + 1 < H.items.length := by omega
   obtain ⟨g', nq, cp, _⟩ := hK.ip (i := (2 * k + 1 : Nat)) (by omega) (by omega)
   rw [hg] at nq
   cases nq
   have hy := RY.it (i := (2 * k + 1 : Nat)) (by omega) (by omega)
   obtain ⟨y, rm⟩ : ∃ y, K.it ((2 * k + 1 : Nat) : Int) = y := ⟨_, rfl⟩
   rw [rm] at cp hy
   have cp' : wr.cell? ⟨g, 2 * k + 1, none⟩ = some (.int .i64 y) := cp
   clear cp
   have Ec : (k : Int) < H.items.length := by omega
   have HK := aa hK
   have HL := aa l1
   have HM := aa l2
   -- ab3 SH round amL with SH one WD is found
   by_cases Bk : 2 * k + 2 < H.items.length
   ·have aes : 2 * (k : Int) + 1 + 1 < H.items.length := by omega
    obtain ⟨g', nq, cp, _⟩ := hK.ip (i := (2 * k + 2 : Nat)) (by omega) (by omega)
    rw [hg] at nq
    cases nq
    have hz := RY.it (i := (2 * k + 2 : Nat)) (by omega) (by omega)
    obtain ⟨z, VN⟩ : ∃ z, K.it ((2 * k + 2 : Nat) : Int) = z := ⟨_, rfl⟩
    rw [VN] at cp hz
    have YW : wr.cell? ⟨g, 2 * k + 1 + 1, none⟩ = some (.int .i64 z) := cp
    clear cp
    have e1 : IntKind.i64.wrap (2 * (k : Int) + 1 + 1) = 2 * (k : Int) + 1 + 1 := IntWalk.i64_in _ (by omega)
    have HY := aa rm
    have HZ := aa VN
    have dV := aa e1
    cases ha : K.bi z y with
    | true =>
     have hb : K.bF k = 2 * k + 2 := by unfold Hp.bF; rw [if_pos ⟨by omega, by rw [VN, rm]; exact ha⟩]
     have HB := aa hb
     have HA := aa ha
     clear ha rm VN hb hK l1 l2 e1
     go_wp2_with fail
     have e1 := dV.out
     have e2 : (2 * (k : Int) + 1 + 1).toNat = 2 * k + 1 + 1 := by omega
     have e3 : (0 : Int) ≤ 2 * (k : Int) + 1 + 1 := by omega
     have e4 : (2 * (k : Int) + 1).toNat = 2 * k + 1 := by omega
     have e5 : (0 : Int) ≤ 2 * (k : Int) + 1 := by omega
     go_quiet ((go_at_call 167; exact FH (da _ L K (HK.out.drewN _) z y true HA.out hz hy)))
     clear e1 e2 e3 e4 e5
     go_wp2_with fail
     cases ut : K.bi z x with
     | true =>
      have HS : Hid (Hp.fu x f K k = Hp.fu x (f - 1) (K.put k z) (2 * k + 2)) := by
       have := Hp.uJ (x := x) (f := f) (H := K) (i := k) HB.out (by rw [HL.out]; exact hc) (by rw [HZ.out]; exact ut) (by omega)
       rw [HZ.out] at this
       exact this
      have Fl := aa ut
      clear ut
      refine (da _ L K (HK.out.drewN _) z x true Fl.out hz (by rw [HM.out]; exact hx)).mono ?_
      rintro e w1 ⟨rfl, n1, rfl⟩
      go_wp2_with fail
      refine (fo _ L K (HK.out.drewN _) k z (by omega) (by rw [HL.out]; omega) hz.1 hz.2).mono ?_
      rintro e w1 ⟨rfl, hp, cE⟩
      have HP := aa hp
      clear hp
      go_wp2_with fail
      go_roundw
      case rel =>
       exact ⟨2 * k + 2, f - 1, K.put k z, by go_num, HP.out, RY.put hz.1 hz.2, by rw [Hp.dx]; exact HL.out, by rw [Hp.qu]; exact HM.out, by omega, by omega, HE.out.trans HS.out,
        sg.ag (((Fr.refl L.fp wr).drewN _).ag cE)⟩
      case measure => simp [intOf]; omega
     | false =>
      have HS : Hid (Hp.fu x f K k = K.put k x) := Hp.lE (by rw [HB.out, HZ.out, ut]; simp)
      have Fl := aa ut
      clear ut
      refine (da _ L K (HK.out.drewN _) z x false Fl.out hz (by rw [HM.out]; exact hx)).mono ?_
      rintro e w1 ⟨rfl, n1, rfl⟩
      go_wp2_with fail
      refine (fo _ L K (HK.out.drewN _) k x (by omega) (by rw [HL.out]; omega) hx.1 (by rw [HM.out]; exact hx.2)).mono ?_
      rintro e w1 ⟨rfl, hp, cE⟩
      have HP := aa hp
      clear hp
      go_wp2_with fail
      go_end0
      exact ⟨rfl, by rw [HE.out, HS.out]; exact HP.out, sg.ag (((Fr.refl L.fp wr).drewN _).ag cE)⟩
    | false =>
     have hb : K.bF k = 2 * k + 1 := by unfold Hp.bF; rw [if_neg (by rw [VN, rm, ha]; simp)]
     have HB := aa hb
     have HA := aa ha
     clear ha rm VN hb hK l1 l2 e1
     go_wp2_with fail
     have e1 := dV.out
     have e2 : (2 * (k : Int) + 1 + 1).toNat = 2 * k + 1 + 1 := by omega
     have e3 : (0 : Int) ≤ 2 * (k : Int) + 1 + 1 := by omega
     have e4 : (2 * (k : Int) + 1).toNat = 2 * k + 1 := by omega
     have e5 : (0 : Int) ≤ 2 * (k : Int) + 1 := by omega
     go_quiet ((go_at_call 167; exact FH (da _ L K (HK.out.drewN _) z y false HA.out hz hy)))
     clear e1 e2 e3 e4 e5
     go_wp2_with fail
     cases ut : K.bi y x with
     | true =>
      have HS : Hid (Hp.fu x f K k = Hp.fu x (f - 1) (K.put k y) (2 * k + 1)) := by
       have := Hp.uJ (x := x) (f := f) (H := K) (i := k) HB.out (by rw [HL.out]; exact hc) (by rw [HY.out]; exact ut) (by omega)
       rw [HY.out] at this
       exact this
      have Fl := aa ut
      clear ut
      refine (da _ L K (HK.out.drewN _) y x true Fl.out hy (by rw [HM.out]; exact hx)).mono ?_
      rintro e w1 ⟨rfl, n1, rfl⟩
      go_wp2_with fail
      refine (fo _ L K (HK.out.drewN _) k y (by omega) (by rw [HL.out]; omega) hy.1 hy.2).mono ?_
      rintro e w1 ⟨rfl, hp, cE⟩
      have HP := aa hp
      clear hp
      go_wp2_with fail
      go_roundw
      case rel =>
       exact ⟨2 * k + 1, f - 1, K.put k y, by go_num, HP.out, RY.put hy.1 hy.2, by rw [Hp.dx]; exact HL.out, by rw [Hp.qu]; exact HM.out, by omega, by omega, HE.out.trans HS.out,
        sg.ag (((Fr.refl L.fp wr).drewN _).ag cE)⟩
      case measure => simp [intOf]; omega
     | false =>
      have HS : Hid (Hp.fu x f K k = K.put k x) := Hp.lE (by rw [HB.out, HY.out, ut]; simp)
      have Fl := aa ut
      clear ut
      refine (da _ L K (HK.out.drewN _) y x false Fl.out hy (by rw [HM.out]; exact hx)).mono ?_
      rintro e w1 ⟨rfl, n1, rfl⟩
      go_wp2_with fail
      refine (fo _ L K (HK.out.drewN _) k x (by omega) (by rw [HL.out]; omega) hx.1 (by rw [HM.out]; exact hx.2)).mono ?_
      rintro e w1 ⟨rfl, hp, cE⟩
      have HP := aa hp
      clear hp
      go_wp2_with fail
      go_end0
      exact ⟨rfl, by rw [HE.out, HS.out]; exact HP.out, sg.ag (((Fr.refl L.fp wr).drewN _).ag cE)⟩
   ·have aes : decide (2 * (k : Int) + 1 + 1 < H.items.length) = false := decide_eq_false (by omega)
    have hb : K.bF k = 2 * k + 1 := by unfold Hp.bF; rw [if_neg (by rw [l1]; omega)]
    have e1 : IntKind.i64.wrap (2 * (k : Int) + 1 + 1) = 2 * (k : Int) + 1 + 1 := IntWalk.i64_in _ (by omega)
    have HB := aa hb
    have HY := aa rm
    have dV := aa e1
    clear rm hb hK l1 l2 e1
    go_wp2_with fail
    have e1 := dV.out
    go_quiet (fail)
    clear e1
    go_wp2_with fail
    cases ut : K.bi y x with
    | true =>
     have HS : Hid (Hp.fu x f K k = Hp.fu x (f - 1) (K.put k y) (2 * k + 1)) := by
      have := Hp.uJ (x := x) (f := f) (H := K) (i := k) HB.out (by rw [HL.out]; exact hc) (by rw [HY.out]; exact ut) (by omega)
      rw [HY.out] at this
      exact this
     have Fl := aa ut
     clear ut
     refine (da _ L K (HK.out.drewN _) y x true Fl.out hy (by rw [HM.out]; exact hx)).mono ?_
     rintro e w1 ⟨rfl, n1, rfl⟩
     go_wp2_with fail
     refine (fo _ L K (HK.out.drewN _) k y (by omega) (by rw [HL.out]; omega) hy.1 hy.2).mono ?_
     rintro e w1 ⟨rfl, hp, cE⟩
     have HP := aa hp
     clear hp
     go_wp2_with fail
     go_roundw
     case rel =>
      exact ⟨2 * k + 1, f - 1, K.put k y, by go_num, HP.out, RY.put hy.1 hy.2, by rw [Hp.dx]; exact HL.out, by rw [Hp.qu]; exact HM.out, by omega, by omega, HE.out.trans HS.out,
       sg.ag (((Fr.refl L.fp wr).drewN _).ag cE)⟩
     case measure => simp [intOf]; omega
    | false =>
     have HS : Hid (Hp.fu x f K k = K.put k x) := Hp.lE (by rw [HB.out, HY.out, ut]; simp)
     have Fl := aa ut
     clear ut
     refine (da _ L K (HK.out.drewN _) y x false Fl.out hy (by rw [HM.out]; exact hx)).mono ?_
     rintro e w1 ⟨rfl, n1, rfl⟩
     go_wp2_with fail
     refine (fo _ L K (HK.out.drewN _) k x (by omega) (by rw [HL.out]; omega) hx.1 (by rw [HM.out]; exact hx.2)).mono ?_
     rintro e w1 ⟨rfl, hp, cE⟩
     have HP := aa hp
     clear hp
     go_wp2_with fail
     go_end0
     exact ⟨rfl, by rw [HE.out, HS.out]; exact HP.out, sg.ag (((Fr.refl L.fp wr).drewN _).ag cE)⟩
  ·have HS : Hid (Hp.fu x f K k = K.put k x) := Hp.lE (fun h => hc (by rw [← l1]; exact h.1))
   have V5 : ¬ 2 * (k : Int) + 1 < H.items.length := by omega
   have HK := aa hK
   have HL := aa l1
   have HM := aa l2
   clear hK l1 l2
   go_wp2_with fail
   refine (fo _ L K HK.out k x (by omega) (by rw [HL.out]; omega) hx.1 (by rw [HM.out]; exact hx.2)).mono ?_
   rintro e w1 ⟨rfl, hp, cE⟩
   have HP := aa hp
   clear hp
   go_wp2_with fail
   go_end0
   exact ⟨rfl, by rw [HE.out, HS.out]; exact HP.out, sg.ag cE⟩
theorem ng : (Tryz.prog.info? 3).map (fun i => (i.zero, i.size, i.bytes)) = some (some (.int .i64 0), 1, 8) := by kernel_rfl
theorem iz {A : Option Addr} {n c : Nat} : ∀ k, (Value.slice A n c).ownBlock = some k ↔ k ∈ ah A := by
 intro k
 rcases A with _ | ad
 ·simp [Value.ownBlock, ah]
 ·simp [Value.ownBlock, ah, eq_comm]
theorem mB (w : World) (ty : TypeId) (A : Option Addr) (c : Nat) (xs : List Int) (dj : Ints w A c xs) (ad : Addr) (c' : Nat) (y : Int) (hy : w.cell? ad = some (.int .i64 y)) (hlen : xs.length < 17592186044416) :
  ∃ g cap w', (Builtin.append_ #[22, 22] ty #[.slice A xs.length c, .slice (some ad) 1 c']).run Tryz.prog w = .ok (.slice (some ⟨g, 0, none⟩) (xs.length + 1) cap) w' ∧
   Ints w' (some ⟨g, 0, none⟩) cap (xs ++ [y]) ∧ Fr (ah A) w w' ∧ (g ∈ ah A ∨ g = w.heap.size) ∧ w.heap.size ≤ w'.heap.size := by
 obtain ⟨i0, hi, vK, ow, Co⟩ := info_parts ng
 obtain ⟨v', w', hr, h2, h3, h4, h5⟩ := run_append_own_at (P := Tryz.prog) w 0 22 ty 3 i0 (.int .i64 0) 1 8 Tryz.underlying22 hi vK ow Co rfl (by decide) (.slice A xs.length c) xs.length _ dj
  ad 1 c' [.int .i64 y] rfl (by
   intro j u hj
   match j, hj with
   | 0, hj =>
    simp at hj
    subst hj
    simpa [Addr.add] using hy) (by simp [Value.oneCell']) (by unfold maxLen; omega) (by omega) (bV _)
 have hv : ∃ g cap, v' = .slice (some ⟨g, 0, none⟩) (xs.length + 1) cap := by
  rcases h2.2 with ⟨_, h0⟩ | ⟨g, cap, cur, hv, _⟩
  ·omega
  ·exact ⟨g, cap, hv⟩
 obtain ⟨g, cap, rfl⟩ := hv
 refine ⟨g, cap, w', hr, ?_, ?_, ?_, h3.size⟩
 ·unfold Ints
  simpa using h2
 ·exact (Fr.refl _ w).grown h3 fun k hk => .inl ((iz k).1 hk)
 ·rcases h5 with h5 | h5
  ·exact .inl ((iz g).1 h5.symm)
  ·simp only [Value.ownBlock, Option.some.injEq] at h5
   exact .inr h5
theorem cM (w : World) {ops : Array Oper} {rest : List Oper} {o : Oper} {a : Act} {Q : Exit → Act → World → Prop} (ui : o.guard = none) (s x : Operand)
  (ho : o.op = .call { callee := .builtin .append, args := #[s, x], argTypes := #[22, 22] }) (A : Option Addr) (c : Nat) (xs : List Int) (n : Nat) (hs : a.eval s = .slice A n c) (hn : n = xs.length) (dj : Ints w A c xs)
  (ad : Addr) (c' : Nat) (y : Int) (hx : a.eval x = .slice (some ad) 1 c') (hy : w.cell? ad = some (.int .i64 y)) (hlen : xs.length < 17592186044416)
  (h : ∀ g cap w', Ints w' (some ⟨g, 0, none⟩) cap (xs ++ [y]) → Fr (ah A) w w' → (g ∈ ah A ∨ g = w.heap.size) → w.heap.size ≤ w'.heap.size → wpList Tryz.prog ops Q rest (a.put o.dst (.slice (some ⟨g, 0, none⟩) (n + 1) cap)) w') :
  wpList Tryz.prog ops Q (o :: rest) a w := by
 subst hn
 refine wpList_plain ui fun K hK => ?_
 obtain ⟨g, cap, w', hr, h2, h3, h4, h5⟩ := mB w o.type A c xs dj ad c' y hy hlen
 unfold Oper.wp execOp
 simp only [ho, resolve, invoke, builtin, Sem.run_bind, Sem.run_pure, Result.andThen_ok, List.map_toArray, dW, fX, hs, hx, hr]
 exact hK _ _ (h g cap w' h2 h3 h4 h5)
theorem bK {w : World} {ops : Array Oper} {o : Oper} {a : Act} {K : Act → World → Prop} {Q : Exit → Act → World → Prop} {E : Prop} (ui : o.guard = none) (s x : Operand)
  (ho : o.op = .call { callee := .builtin .append, args := #[s, x], argTypes := #[22, 22] }) (A : Option Addr) (c : Nat) (xs : List Int) (n : Nat) (hs : a.eval s = .slice A n c) (hn : n = xs.length) (dj : Ints w A c xs)
  (ad : Addr) (c' : Nat) (y : Int) (hx : a.eval x = .slice (some ad) 1 c') (hy : w.cell? ad = some (.int .i64 y)) (hlen : xs.length < 17592186044416)
  (h : ∀ g cap w', Ints w' (some ⟨g, 0, none⟩) cap (xs ++ [y]) → Fr (ah A) w w' → (g ∈ ah A ∨ g = w.heap.size) → w.heap.size ≤ w'.heap.size → K (a.put o.dst (.slice (some ⟨g, 0, none⟩) (n + 1) cap)) w') :
  if Region.wanted o (yielded ops a.tmps) = true then Oper.wp Tryz.prog o a w K Q else E := by
 have hw : Region.wanted o (yielded ops a.tmps) = true := by simp [Region.wanted, ui]
 rw [if_pos hw]
 subst hn
 obtain ⟨g, cap, w', hr, h2, h3, h4, h5⟩ := mB w o.type A c xs dj ad c' y hy hlen
 unfold Oper.wp execOp
 simp only [ho, resolve, invoke, builtin, Sem.run_bind, Sem.run_pure, Result.andThen_ok, List.map_toArray, dW, fX, hs, hx, hr]
 exact h g cap w' h2 h3 h4 h5
theorem Bf (w : World) (L : eW) (H : Hp) (h : b8 w L H) :
  Calls Tryz.prog 182 #[.pointer (some ⟨L.a, 0, none⟩)] w fun e w' => e = .returned (.int .i64 H.items.length) ∧ w = w' := by
 have o0 := h.obj.cell 0
 simp at o0
 go_enter Tryz.func182, Tryz.ntmps182
 go_wp2
 go_ret
 exact ⟨rfl, rfl⟩
theorem Hp.cQ {H : Hp} {x : Int} (h : H.gX x = true) : 0 ≤ x ∧ x < H.at_.length := by simpa [Hp.gX] using h
theorem gz (w : World) (L : eW) (H : Hp) (h : b8 w L H) (x : Int) (b : Bool) (hb : H.gX x = b) :
  Calls Tryz.prog 147 #[.pointer (some ⟨L.a, 0, none⟩), .int .i64 x] w fun e w' => e = .returned (.bool b) ∧ w = w' := by
 subst hb; exact Qa w L H h x
theorem b8.alloc {w : World} {L : eW} {H : Hp} (h : b8 w L H) (o : Obj) : b8 (w.alloc o) L H :=
 ⟨h.obj.alloc o, h.items.alloc o, h.at_.alloc o, h.score.alloc o, h.nodup, h.same⟩
theorem b8.fr {w w' : World} {L : eW} {H : Hp} {S : List Nat} (h : b8 w L H) (hf : Fr S w w') (hd : ∀ k, k ∈ L.fp → k ∉ S) : b8 w' L H :=
 ⟨hf.at_ h.obj (hd _ (by simp [eW.fp])), h.items.fr hf fun k hk => hd k (by simp [eW.fp, hk]), h.at_.fr hf fun k hk => hd k (by simp [eW.fp, hk]), h.score.fr hf fun k hk => hd k (by simp [eW.fp, hk]), h.nodup, h.same⟩
theorem b8.lt {w : World} {L : eW} {H : Hp} (h : b8 w L H) : ∀ k, k ∈ L.fp → k < w.heap.size := by
 intro k hk
 simp only [eW.fp, ay, aj] at hk
 rcases hk with rfl | hk | hk | hk
 ·exact h.obj.lt
 ·exact h.items.lt k hk
 ·exact h.at_.lt k hk
 ·exact h.score.lt k hk
theorem b8.Ks {w w' : World} {L : eW} {H : Hp} (h : b8 w L H) {g cap : Nat} {items : List Int} (hi : Ints w' (some ⟨g, 0, none⟩) cap items) (hf : Fr (ah L.A1) w w') (hg : g ∈ ah L.A1 ∨ g = w.heap.size) :
  b8 (w'.setCell ⟨L.a, 0, none⟩ (.slice (some ⟨g, 0, none⟩) items.length cap)) { L with A1 := some ⟨g, 0, none⟩, c1 := cap } { H with items := items } := by
 obtain ⟨h1, h2, h3⟩ := gf h.nodup
 have bM := h.lt
 have np : g ≠ L.a := by
  rcases hg with hg | hg
  ·exact (h1 g hg).1
  ·have := h.obj.lt; omega
 have eJ : g ∉ ah L.A2 := by
  rcases hg with hg | hg
  ·exact (h1 g hg).2.1
  ·intro hk; have := h.at_.lt g hk; omega
 have yC : g ∉ ah L.A3 := by
  rcases hg with hg | hg
  ·exact (h1 g hg).2.2
  ·intro hk; have := h.score.lt g hk; omega
 have hb : ah (some ⟨g, 0, none⟩) = [g] := rfl
 refine ⟨?_, ?_, ?_, ?_, ?_, h.same⟩
 ·have := (hf.at_ h.obj (fun hk => (h1 _ hk).1 rfl)).cV 0 (.slice (some ⟨g, 0, none⟩) items.length cap)
  simpa using this
 ·exact hi.fy (by rw [hb]; simpa using fun e => np e.symm) _
 ·exact (h.at_.fr hf fun k hk nV => (h1 k nV).2.1 hk).fy (fun hk => (h2 _ hk).1 rfl) _
 ·exact (h.score.fr hf fun k hk nV => (h1 k nV).2.2 hk).fy (fun hk => (h3 _ hk).1 rfl) _
 ·have hn := h.nodup
  simp only [eW.fp, gW, aj, List.nodup_append, hb, an, cG, not_false_eq_true, List.nodup_nil, true_and, and_true] at hn ⊢
  obtain ⟨n1, n2, n3, n4⟩ := hn
  refine ⟨?_, n3, ?_⟩
  ·rintro (e | hk)
   ·exact np e.symm
   ·exact n1 (.inr hk)
  ·rintro _ rfl b hb' rfl
   exact hb'.elim eJ yC
def Hp.pt (H : Hp) (x : Int) : Hp := Hp.nO x (H.items.length + 1) { H with items := H.items ++ [x], at_ := H.at_.set x.toNat H.items.length } H.items.length
def eW.ext (L L' : eW) (w : World) : Prop := L'.a = L.a ∧ (∀ k, k ∈ L'.fp → k ∈ L.fp ∨ w.heap.size ≤ k) ∧ (L.A2.isSome = true → L'.A2.isSome = true)
theorem yF (w : World) (L : eW) (H : Hp) (h : b8 w L H) (x : Int) (hx : H.gX x = false ∨ H.gX x = true ∧ 0 ≤ H.pl x) :
  Calls Tryz.prog 114 #[.pointer (some ⟨L.a, 0, none⟩), .int .i64 x] w fun e w' => e = .returned (.bool false) ∧ w = w' := by
 have o1 := h.obj.cell 1
 simp at o1
 rcases hx with hb | ⟨hb, hp⟩
 ·have HB := aa hb
  have HH := aa h
  clear hb h
  go_enter Tryz.func114, Tryz.ntmps114
  go_wp2_with fail
  refine (gz _ L H HH.out x false HB.out).mono ?_
  rintro e w1 ⟨rfl, rfl⟩
  go_wp2_with fail
  go_ret
  exact ⟨rfl, rfl⟩
 ·obtain ⟨h0, h1⟩ := Hp.cQ hb
  obtain ⟨g, hg, ci, fi⟩ := h.u1 h0 h1
  rw [hg] at o1
  have HB := aa hb
  have HH := aa h
  clear hb h
  go_enter Tryz.func114, Tryz.ntmps114
  go_wp2_with fail
  refine (gz _ L H HH.out x true HB.out).mono ?_
  rintro e w1 ⟨rfl, rfl⟩
  go_wp2_with fail
  go_ret
  exact ⟨rfl, rfl⟩
theorem vR (w : World) (L : eW) (H : Hp) (h : b8 w L H) (hr : H.EW) (x : Int) (hb : H.gX x = true) (hp : H.pl x < 0) (hlen : H.items.length < 1048576) :
  Calls Tryz.prog 114 #[.pointer (some ⟨L.a, 0, none⟩), .int .i64 x] w fun e w' => e = .returned (.bool true) ∧ ∃ L', b8 w' L' (H.pt x) ∧ L.ext L' w ∧ Fr L.fp w w' := by
 have o0 := h.obj.cell 0
 have o1 := h.obj.cell 1
 simp at o0 o1
 obtain ⟨h0, h1⟩ := Hp.cQ hb
 obtain ⟨g2, eJ, ci, fi⟩ := h.u1 h0 h1
 rw [eJ] at o1
 have oa := h.obj.frozen 0
 have HB := aa hb
 have HH := aa h
 have HR := aa hr
 have rN := aa eJ
 have bM := h.obj.lt
 clear hb h hr eJ
 go_enter Tryz.func114, Tryz.ntmps114
 go_wp2_with fail
 refine (gz _ L H HH.out x true HB.out).mono ?_
 rintro e w1 ⟨rfl, rfl⟩
 have rM : Hid (L.a ∉ ah L.A1) := fun hk => ((gf HH.out.nodup).1 _ hk).1 rfl
 go_wp2_with (at_builtin; refine cM _ rfl _ _ rfl L.A1 L.c1 H.items _ rfl rfl (HH.out.items.alloc _) ⟨w.heap.size, 0, none⟩ 1 x rfl (by simp) (by omega) ?_; intro g cap w2 qg cd eJ jK; have q2 := cd.at_ (HH.out.obj.alloc _) rM.out; have q3 := q2.cell 0; have q4 := q2.frozen 0; simp at q3; have HI := aa qg; have HF := aa cd; have HQ := aa eJ; have HS := aa jK; clear q2 qg cd eJ jK)
 have hN : b8 (w2.setCell ⟨L.a, 0, none⟩ (.slice (some ⟨g, 0, none⟩) (H.items.length + 1) cap)) { L with A1 := some ⟨g, 0, none⟩, c1 := cap } { H with items := H.items ++ [x] } := by
  have := b8.Ks (HH.out.alloc _) HI.out HF.out HQ.out
  simpa using this
 have hF : Fr L.fp w (w2.setCell ⟨L.a, 0, none⟩ (.slice (some ⟨g, 0, none⟩) (H.items.length + 1) cap)) :=
  (((Fr.refl L.fp w).alloc _).trans HF.out (fun k hk => .inl (by simp [eW.fp, hk]))).setCell (.inl (by simp [eW.fp])) _
 have hX : ∀ k, k ∈ ({ L with A1 := some ⟨g, 0, none⟩, c1 := cap } : eW).fp → k ∈ L.fp ∨ w.heap.size ≤ k := by
  intro k hk
  simp only [eW.fp, ay, aj, ah, dc, eI, cG, or_false] at hk ⊢
  rcases hk with hk | hk | hk | hk
  ·exact .inl (.inl hk)
  ·rcases HQ.out with hq | hq
   ·exact .inl (.inr (.inl (by rw [hk]; exact hq)))
   ·right; rw [hk, hq]; simp
  ·exact .inl (.inr (.inr (.inl hk)))
  ·exact .inl (.inr (.inr (.inr hk)))
 obtain ⟨W, hW⟩ : ∃ W, W = w2.setCell ⟨L.a, 0, none⟩ (.slice (some ⟨g, 0, none⟩) (H.items.length + 1) cap) := ⟨_, rfl⟩
 rw [← hW] at hN hF ⊢
 clear hW o0 o1 ci fi oa q3 q4
 have p0 := hN.obj.cell 0
 have p1 := hN.obj.cell 1
 simp [rN.out] at p0 p1
 have eJ := rN.out
 obtain ⟨g', nq, ci, fi⟩ := hN.u1 (i := x) h0 h1
 simp only [eJ, Option.some.injEq, Addr.mk.injEq, and_true] at nq
 subst nq
 have hM := hN.SI (g := g2) eJ x.toNat H.items.length
 have HM := aa hM
 have HF := aa hF
 have HX := aa hX
 clear hM hF hX hN eJ
 have aik : (H.items.length : Int) < 1048576 := by omega
 go_region
 obtain ⟨V, hV⟩ : ∃ V, V = (W.setCell ⟨g2, x.toNat, none⟩ (.int .i64 H.items.length)).drew := ⟨_, rfl⟩
 rw [← hV]
 have hM : b8 V { L with A1 := some ⟨g, 0, none⟩, c1 := cap } { H with items := H.items ++ [x], at_ := H.at_.set x.toNat H.items.length } := by
  rw [hV]; exact HM.out.drew
 have zw : Fr L.fp w V := by
  rw [hV]; exact (HF.out.setCell (.inl (by simp [eW.fp, rN.out, ah])) _).drew
 clear hV p0 p1 ci fi HM HF hp
 have p1 := hM.obj.cell 1
 simp [rN.out] at p1
 have eJ := rN.out
 obtain ⟨g', nq, ci, _⟩ := hM.u1 (i := x) h0 (by simpa using h1)
 simp only [eJ, Option.some.injEq, Addr.mk.injEq, and_true] at nq
 subst nq
 have iP : x.toNat < H.at_.length := by omega
 simp only [Hp.pl, ae, List.getElem?_set_self iP, aq] at ci
 have HM := aa hM
 have HF := aa zw
 clear hM zw eJ
 go_wp2_with fail
 refine (F3 _ _ _ HM.out ?_ H.items.length (by simp)).mono ?_
 ·intro j hj
  have Ua : j < H.items.length + 1 := by simpa using hj
  simp only [ak]
  by_cases e : j < H.items.length
  ·have : (H.items ++ [x])[j]! = H.items[j]! := by simp [ae, eS e]
   rw [this]; exact HR.out j e
  ·have e' : j = H.items.length := by omega
   subst e'
   have : (H.items ++ [x])[H.items.length]! = x := by simp
   rw [this]; exact ⟨h0, h1⟩
 rintro e w1 ⟨rfl, hp, cE⟩
 have HP := aa hp
 have dv := aa cE
 clear hp cE p1 ci
 go_wp2_with fail
 go_ret
 refine ⟨rfl, { L with A1 := some ⟨g, 0, none⟩, c1 := cap }, ?_, ⟨rfl, HX.out, id⟩, ?_⟩
 ·have := HP.out
  have e1 : Hp.it { H with items := H.items ++ [x], at_ := H.at_.set x.toNat H.items.length } (H.items.length : Nat) = x := by simp [Hp.it]
  rw [e1] at this
  exact this
 ·exact HF.out.trans dv.out HX.out
theorem Be (w : World) (L : eW) (H : Hp) (h : b8 w L H) (hn : H.items = []) :
  Calls Tryz.prog 166 #[.pointer (some ⟨L.a, 0, none⟩)] w fun e w' => e = .returned (.tuple #[.int .i64 0, .bool false]) ∧ w = w' := by
 have hl := Bf w L H h
 rw [hn] at hl
 have HL := aa hl
 clear hl h
 go_enter Tryz.func166, Tryz.ntmps166
 go_wp2_with fail
 refine HL.out.mono ?_
 rintro e w1 ⟨rfl, rfl⟩
 go_wp2_with fail
 go_ret2
 exact ⟨rfl, rfl⟩
def Hp.kw (H : Hp) : Hp :=
 let n := H.items.length - 1
 let K : Hp := { H with items := H.items.take n, at_ := H.at_.set (H.it 0).toNat (-1) }
 if n = 0 then K else Hp.fu (H.it n) n (K.put 0 (H.it n)) 0
theorem b8.cut {w : World} {L : eW} {H : Hp} (h : b8 w L H) (k : Nat) (hk : k ≤ H.items.length) : b8 (w.setCell ⟨L.a, 0, none⟩ (.slice L.A1 k L.c1)) L { H with items := H.items.take k } := by
 obtain ⟨h1, h2, h3⟩ := gf h.nodup
 refine ⟨?_, ?_, ?_, ?_, h.nodup, h.same⟩
 ·have := h.obj.cV 0 (.slice L.A1 k L.c1)
  have e : (H.items.take k).length = k := by simp; omega
  simpa [e] using this
 ·exact (h.items.nP k).fy (fun hk => (h1 _ hk).1 rfl) _
 ·exact h.at_.fy (fun hk => (h2 _ hk).1 rfl) _
 ·exact h.score.fy (fun hk => (h3 _ hk).1 rfl) _
theorem yG (w : World) (L : eW) (H : Hp) (h : b8 w L H) (hr : H.EW) (n : Nat) (hn : H.items.length = n + 1) (hlen : H.items.length < 1048576) :
  Calls Tryz.prog 166 #[.pointer (some ⟨L.a, 0, none⟩)] w fun e w' => e = .returned (.tuple #[.int .i64 (H.it 0), .bool true]) ∧ b8 w' L H.kw ∧ Fr L.fp w w' := by
 have o0 := h.obj.cell 0
 have o1 := h.obj.cell 1
 simp at o0 o1
 obtain ⟨g, hg, c0, _⟩ := h.ip (i := 0) (by omega) (by omega)
 obtain ⟨g', nq, cn, _⟩ := h.ip (i := n) (by omega) (by omega)
 rw [hg] at nq o0
 cases nq
 have hx := hr.it (i := 0) (by omega) (by omega)
 have hy := hr.it (i := n) (by omega) (by omega)
 obtain ⟨g2, eJ, cx, fx⟩ := h.u1 hx.1 hx.2
 rw [eJ] at o1
 have hl := Bf w L H h
 rw [hn] at hl o0
 have sl : n + 1 ≤ L.c1 := by
  rcases h.items.form with ⟨_, _, h0⟩ | ⟨_, _, _, h0, _⟩
  ·rw [h0] at hn; simp at hn
  ·omega
 have dN : g ≠ g2 := fun e => ((gf h.nodup).1 g (by simp [hg, ah])).2.1 (by simp [eJ, ah, e])
 have hna : L.a ≠ g2 := fun e => ((gf h.nodup).2.1 g2 (by simp [eJ, ah])).1 e.symm
 have oa := h.obj.frozen 0
 have hM := (h.cut n (by omega)).SI (g := g2) eJ (H.it 0).toNat (-1)
 rw [hg] at hM
 have hF : Fr L.fp w ((w.setCell ⟨L.a, 0, none⟩ (.slice (some ⟨g, 0, none⟩) n L.c1)).setCell ⟨g2, (H.it 0).toNat, none⟩ (.int .i64 (-1))) :=
  ((Fr.refl L.fp w).setCell (.inl (by simp [eW.fp])) _).setCell (.inl (by simp [eW.fp, eJ, ah])) _
 have HM := aa hM
 have HF := aa hF
 have HL := aa hl
 have HG := aa hg
 have rN := aa eJ
 have HR := aa hr
 have HN := aa hn
 simp only [Int.toNat_zero, Int.toNat_natCast] at c0 cn
 obtain ⟨x, sL⟩ : ∃ x, H.it 0 = x := ⟨_, rfl⟩
 obtain ⟨y, rm⟩ : ∃ y, H.it n = y := ⟨_, rfl⟩
 rw [sL] at c0 cx fx hx HM HF ⊢
 rw [rm] at cn hy
 have HXE := aa sL
 have UV := aa rm
 have jZ : (n : Int) + 1 < 1048576 := by omega
 clear hM hF hl hg eJ hr hn sL rm h hlen
 go_enter Tryz.func166, Tryz.ntmps166
 go_wp2_with fail
 refine HL.out.mono ?_
 rintro e w1 ⟨rfl, rfl⟩
 have ez : ((n : Int) + 1 == 0) = false := beq_eq_false_iff_ne.2 (by omega)
 have ez' : (((n + 1 : Nat) : Int) == 0) = false := beq_eq_false_iff_ne.2 (by omega)
 go_wp2_with fail
 go_region
 go_wp2_with fail
 go_region
 obtain ⟨V, hV⟩ : ∃ V, V = ((w.setCell ⟨L.a, 0, none⟩ (.slice (some ⟨g, 0, none⟩) n L.c1)).setCell ⟨g2, x.toNat, none⟩ (.int .i64 (-1))).drew.drew := ⟨_, rfl⟩
 rw [← hV]
 have hM : b8 V L { H with items := H.items.take n, at_ := H.at_.set x.toNat (-1) } := by rw [hV]; exact HM.out.drew.drew
 have hF : Fr L.fp w V := by rw [hV]; exact HF.out.drew.drew
 clear hV HM HF o0 o1 c0 cn cx fx oa
 have hlen : (H.items.take n).length = n := by have := HN.out; simp; omega
 have HM := aa hM
 have HF := aa hF
 have E9 := aa hlen
 clear hM hF hlen
 by_cases hz : n = 0
 ·subst hz
  have HP : Hid (H.kw = { H with items := H.items.take 0, at_ := H.at_.set x.toNat (-1) }) := by
   show _ = _
   unfold Hp.kw
   rw [HN.out, HXE.out]
   simp
  go_wp2_with fail
  go_ret2
  exact ⟨rfl, by rw [HP.out]; exact HM.out, HF.out⟩
 ·have RL : 0 < n := by omega
  have HP : Hid (H.kw = Hp.fu y n (Hp.put { H with items := H.items.take n, at_ := H.at_.set x.toNat (-1) } 0 y) 0) := by
   show _ = _
   unfold Hp.kw
   rw [HN.out, HXE.out]
   simp only [eo]
   rw [if_neg hz, UV.out]
  have hK : Hp.EW (Hp.put { H with items := H.items.take n, at_ := H.at_.set x.toNat (-1) } 0 y) := by
   refine Hp.EW.put (fun j hj => ?_) hy.1 (by simpa using hy.2)
   have hl := E9.out
   have hn' := HN.out
   have e : (H.items.take n)[j]! = H.items[j]! := by
    simp only [ae, List.getElem?_take]
    rw [if_pos (by simp only [hl] at hj; exact hj)]
   simp only [e, ak]
   exact HR.out j (by simp only [hl] at hj; omega)
  have HK := aa hK
  clear hK hz ez ez'
  go_wp2_with fail
  refine (fo _ L _ HM.out 0 y (by omega) (by rw [show ({ H with items := H.items.take n, at_ := H.at_.set x.toNat (-1) } : Hp).items.length = n from E9.out]; omega) hy.1 (by simpa using hy.2)).mono ?_
  rintro e w1 ⟨rfl, hp, cE⟩
  have HP1 := aa hp
  have dv := aa cE
  have xg : (Hp.put { H with items := H.items.take n, at_ := H.at_.set x.toNat (-1) } 0 y).items.length = n := by rw [Hp.dx]; exact E9.out
  have XN : (Hp.put { H with items := H.items.take n, at_ := H.at_.set x.toNat (-1) } 0 y).it (0 : Nat) = y := by
   have hl := E9.out
   have : 0 < (H.items.take n).length := by omega
   simp [Hp.it, Hp.put, ae, List.getElem?_set_self this]
  have iY := aa xg
  have HPI := aa XN
  clear hp cE xg XN
  go_wp2_with fail
  refine (Iv _ L _ HP1.out HK.out 0 (by rw [iY.out]; omega) (by rw [iY.out]; omega)).mono ?_
  rintro e w2 ⟨rfl, hp, cE⟩
  have zl := aa hp
  have cJ := aa cE
  clear hp cE
  go_wp2_with fail
  go_ret2
  refine ⟨rfl, ?_, (HF.out.ag dv.out).ag cJ.out⟩
  rw [HP.out]
  have := zl.out
  rw [HPI.out, iY.out] at this
  exact this
def Hp.iM (H : Hp) (x b : Int) : Hp :=
 if H.gX x = true ∧ 0 ≤ b ∧ b ≤ 1099511627776 ∧ H.sc x ≤ 1125899906842624 - b then
  let K : Hp := { H with score := H.score.set x.toNat (H.sc x + b) }
  if 0 ≤ H.pl x then Hp.nO (K.it (H.pl x)) ((H.pl x).toNat + 1) K (H.pl x).toNat else K
 else H
theorem vQ (w : World) (L : eW) (H : Hp) (h : b8 w L H) (x b : Int) (xj : ¬ (H.gX x = true ∧ 0 ≤ b ∧ b ≤ 1099511627776 ∧ H.sc x ≤ 1125899906842624 - b)) :
  Calls Tryz.prog 178 #[.pointer (some ⟨L.a, 0, none⟩), .int .i64 x, .int .i64 b] w fun e w' => e = .returned (.tuple #[]) ∧ w = w' := by
 have o2 := h.obj.cell 2
 simp at o2
 have hs := h.same
 cases hb : H.gX x with
 | false =>
  have HB := aa hb
  have HH := aa h
  clear hb h xj hs
  go_enter Tryz.func178, Tryz.ntmps178
  go_wp2_with fail
  refine (gz _ L H HH.out x false HB.out).mono ?_
  rintro e w1 ⟨rfl, rfl⟩
  go_wp2_with fail
  refine bodyPost_ret (results_none rfl _ _ _) rfl ?_
  exact ⟨rfl, rfl⟩
 | true =>
  obtain ⟨h0, h1⟩ := Hp.cQ hb
  obtain ⟨g, hg, ci⟩ := h.av h0 h1
  rw [hg] at o2
  have h2 : x < H.score.length := by omega
  obtain ⟨s, TA⟩ : ∃ s, H.sc x = s := ⟨_, rfl⟩
  rw [TA] at ci xj
  have HB := aa hb
  have HH := aa h
  by_cases Mg : b < 0
  ·clear hb h hs xj
   go_enter Tryz.func178, Tryz.ntmps178
   go_wp2_with fail
   refine (gz _ L H HH.out x true HB.out).mono ?_
   rintro e w1 ⟨rfl, rfl⟩
   go_wp2_with fail
   refine bodyPost_ret (results_none rfl _ _ _) rfl ?_
   exact ⟨rfl, rfl⟩
  ·by_cases sT : 1099511627776 < b
   ·clear hb h hs xj
    go_enter Tryz.func178, Tryz.ntmps178
    go_wp2_with fail
    refine (gz _ L H HH.out x true HB.out).mono ?_
    rintro e w1 ⟨rfl, rfl⟩
    go_wp2_with fail
    refine bodyPost_ret (results_none rfl _ _ _) rfl ?_
    exact ⟨rfl, rfl⟩
   ·have rA : 1125899906842624 - b < s := by
     rcases Int.lt_or_le (1125899906842624 - b) s with h | h
     ·exact h
     ·exact absurd ⟨hb, by omega, by omega, h⟩ xj
    clear hb h hs xj
    go_enter Tryz.func178, Tryz.ntmps178
    go_wp2_with fail
    refine (gz _ L H HH.out x true HB.out).mono ?_
    rintro e w1 ⟨rfl, rfl⟩
    go_wp2_with fail
    refine bodyPost_ret (results_none rfl _ _ _) rfl ?_
    exact ⟨rfl, rfl⟩
theorem b8.aca {w : World} {L : eW} {H : Hp} (h : b8 w L H) {g : Nat} (hg : L.A3 = some ⟨g, 0, none⟩) (i : Nat) (x : Int) :
  b8 (w.setCell ⟨g, i, none⟩ (.int .i64 x)) L { H with score := H.score.set i x } := by
 obtain ⟨h1, h2, h3⟩ := gf h.nodup
 have hm : g ∈ ah L.A3 := by simp [hg, ah]
 refine ⟨?_, ?_, ?_, ?_, h.nodup, by simpa using h.same⟩
 ·have := h.obj.fy (p := ⟨g, i, none⟩) (fun e => (h3 g hm).1 e.symm) (.int .i64 x)
  simpa using this
 ·exact h.items.fy (fun hk => (h3 g hm).2.1 hk) _
 ·exact h.at_.fy (fun hk => (h3 g hm).2.2 hk) _
 ·have := h.score
  rw [hg] at this ⊢
  exact this.cV i x
theorem uk (w : World) (L : eW) (H : Hp) (h : b8 w L H) (hr : H.EW) (x b : Int) (hb : H.gX x = true) (Mg : 0 ≤ b) (sT : b ≤ 1099511627776) (rA : H.sc x ≤ 1125899906842624 - b) (hs0 : 0 ≤ H.sc x)
  (xg : H.pl x < H.items.length) :
  Calls Tryz.prog 178 #[.pointer (some ⟨L.a, 0, none⟩), .int .i64 x, .int .i64 b] w fun e w' => e = .returned (.tuple #[]) ∧ b8 w' L (H.iM x b) ∧ Fr L.fp w w' := by
 have o1 := h.obj.cell 1
 have o2 := h.obj.cell 2
 simp at o1 o2
 have hs := h.same
 obtain ⟨h0, h1⟩ := Hp.cQ hb
 obtain ⟨g, hg, ci⟩ := h.av h0 h1
 obtain ⟨g2, eJ, cx, _⟩ := h.u1 h0 h1
 have fi : w.frozen? ⟨g, x.toNat, none⟩ = false := by
  have := h.score
  rw [hg] at this
  exact this.frozen _
 rw [hg] at o2
 rw [eJ] at o1
 have dN : g2 ≠ g := fun e => ((gf h.nodup).2.1 g2 (by simp [eJ, ah])).2.2 (by simp [hg, ah, e])
 have hna : L.a ≠ g := fun e => ((gf h.nodup).2.2 g (by simp [hg, ah])).1 e.symm
 have h2 : x < H.score.length := by omega
 have hM := h.aca hg x.toNat (H.sc x + b)
 have hF : Fr L.fp w (w.setCell ⟨g, x.toNat, none⟩ (.int .i64 (H.sc x + b))) := (Fr.refl L.fp w).setCell (.inl (by simp [eW.fp, hg, ah])) _
 have hD : H.iM x b = if 0 ≤ H.pl x then Hp.nO (Hp.it { H with score := H.score.set x.toNat (H.sc x + b) } (H.pl x)) ((H.pl x).toNat + 1) { H with score := H.score.set x.toNat (H.sc x + b) } (H.pl x).toNat else { H with score := H.score.set x.toNat (H.sc x + b) } := by
  unfold Hp.iM
  rw [if_pos ⟨hb, Mg, sT, rA⟩]
 obtain ⟨s, TA⟩ : ∃ s, H.sc x = s := ⟨_, rfl⟩
 obtain ⟨p, hpe⟩ : ∃ p, H.pl x = p := ⟨_, rfl⟩
 rw [TA] at ci rA hs0 hM hF hD
 rw [hpe] at cx xg hD
 have cx2 : (w.setCell ⟨g, x.toNat, none⟩ (.int .i64 (s + b))).cell? ⟨g2, x.toNat, none⟩ = some (.int .i64 p) := by
  rw [World.cell?_setCell_other _ _ _ _ (by simp only [ne_eq, Addr.mk.injEq, not_and]; exact fun e => absurd e.symm dN)]; exact cx
 have o12 : (w.setCell ⟨g, x.toNat, none⟩ (.int .i64 (s + b))).cell? ⟨L.a, 1, none⟩ = some (.slice (some ⟨g2, 0, none⟩) H.at_.length L.c2) := by
  rw [World.cell?_setCell_other _ _ _ _ (by simp only [ne_eq, Addr.mk.injEq, not_and]; exact fun e => absurd e.symm hna)]; exact o1
 have HB := aa hb
 have HH := aa h
 have HM := aa hM
 have HF := aa hF
 have HD := aa hD
 have HR := aa hr
 have HC := aa cx2
 have HO := aa o12
 clear hb h hM hF hD TA hpe hr hs cx o1 cx2 o12 dN hna hg eJ
 go_enter Tryz.func178, Tryz.ntmps178
 go_wp2_with fail
 refine (gz _ L H HH.out x true HB.out).mono ?_
 rintro e w1 ⟨rfl, rfl⟩
 obtain ⟨V, hV⟩ : ∃ V, V = w.setCell ⟨g, x.toNat, none⟩ (.int .i64 (s + b)) := ⟨_, rfl⟩
 have cx2 := HC.out
 have o12 := HO.out
 have Cu : -1099511627776 ≤ b := by omega
 by_cases Ln : 0 ≤ p
 ·have RF : (p.toNat : Int) = p := by omega
  go_wp2_with fail
  have e3 : (Value.int .i64 p) = .int .i64 (p.toNat : Int) := by rw [RF]
  rw [e3]
  refine (F3 _ L _ HM.out (fun j hj => HR.out j hj) p.toNat (by show p.toNat < H.items.length; omega)).mono ?_
  rintro e w2 ⟨rfl, hp, cE⟩
  have HP := aa hp
  have dv := aa cE
  clear hp cE RF e3
  go_wp2_with fail
  go_end0
  refine ⟨rfl, ?_, HF.out.ag dv.out⟩
  rw [HD.out, if_pos Ln]
  have := HP.out
  rw [show ((p.toNat : Int)) = p from by omega] at this
  exact this
 ·go_wp2_with fail
  go_end0
  refine ⟨rfl, ?_, HF.out⟩
  rw [HD.out, if_neg (by omega)]
  exact HM.out
def jC (ma n : Int) : Int := ma + min (max n 0) (262144 - ma)
theorem It (w : World) (ma n : Int) (h0 : 0 ≤ ma) (h1 : ma ≤ 262144) :
  Calls Tryz.prog 159 #[.int .i64 ma, .int .i64 n] w fun e w' => e = .returned (.int .i64 (jC ma n)) ∧ w = w' := by
 by_cases RL : n < 0
 ·go_enter Tryz.func159, Tryz.ntmps159
  go_wp2
  go_ret
  exact ⟨yf (by unfold jC; omega), rfl⟩
 ·by_cases hb : 262144 - ma < n
  ·go_enter Tryz.func159, Tryz.ntmps159
   go_wp2
   go_ret
   exact ⟨yf (by unfold jC; omega), rfl⟩
  ·go_enter Tryz.func159, Tryz.ntmps159
   go_wp2
   go_ret
   exact ⟨yf (by unfold jC; omega), rfl⟩
end Go.Proofs.YtpjbaobgnhjgoaaGreat
namespace Go.Proofs.YtpjbaobgnhjgoaaGreat
open Go
section
variable {P : Program} {ops : Array Oper} {Q : Exit → Act → World → Prop} {md : Region.Mode} {S : World → Prop} {k : Nat}
def jf (S : World → Prop) (k : Nat) (aw : Array Bool) (w : World) : Prop := aw.getD k false = true ∨ S w
def de (P : Program) (md : Region.Mode) (ops : Array Oper) (Q : Exit → Act → World → Prop) (S : World → Prop) (k : Nat) : Nat → Array Bool → Act → World → Prop
 | 0, aw, a, w => Region.ready md ops aw = [] ∧ Q .normal a w
 | fuel + 1, aw, a, w =>
  (Region.ready md ops aw = [] → Q .normal a w) ∧
  ∀ i ∈ Region.ready md ops aw, wpOp P ops Q i (fun a' w' => jf S k (aw.setIfInBounds i true) w' ∧ de P md ops Q S k fuel (aw.setIfInBounds i true) a' w') a w
theorem tk : ∀ (fuel : Nat) (aw : Array Bool) (a : Act) (w : World), de P md ops Q S k fuel aw a w → wpAny P md ops Q fuel aw a w
 | 0, _, _, _, h => h
 | fuel + 1, _, _, _, h => ⟨h.1, fun i hi => wpOp_mono (fun a' w' h' => tk fuel _ a' w' h'.2) (h.2 i hi)⟩
def qe (md : Region.Mode) (ops : Array Oper) (C : List Nat) (i : Nat) (aw : Array Bool) : Prop :=
 ∀ x, x ∈ C → aw.getD x true = false ∧ (x = i ∨ ∃ y, y ∈ C ∧ ∃ ox e, ops[x]? = some ox ∧ e ∈ ox.after ∧ Region.binds md e = true ∧ e.on = y)
def chainB (md : Region.Mode) (ops : Array Oper) (C : List Nat) (i k : Nat) (aw : Array Bool) : Bool :=
 C.contains k && C.all fun x => !aw.getD x true && (x == i || C.any fun y => match ops[x]? with | some ox => ox.after.any (fun e => Region.binds md e && e.on == y) | none => false)
theorem BK {C : List Nat} {i : Nat} {aw : Array Bool} (h : chainB md ops C i k aw = true) : k ∈ C ∧ qe md ops C i aw := by
 unfold chainB at h
 rw [aD] at h
 refine ⟨by simpa using h.1, fun x hx => ?_⟩
 have := List.all_eq_true.1 h.2 x hx
 rw [aD] at this
 refine ⟨by simpa using this.1, ?_⟩
 rcases Bool.or_eq_true_iff.1 this.2 with h1 | h1
 ·exact .inl (by simpa using h1)
 ·right
  obtain ⟨y, hy, h2⟩ := List.any_eq_true.1 h1
  cases XP : ops[x]? with
  | none => rw [XP] at h2; cases h2
  | some ox =>
   rw [XP] at h2
   obtain ⟨e, he, hb⟩ := Array.any_eq_true'.1 h2
   simp only [aD, beq_iff_eq] at hb
   exact ⟨y, hy, ox, e, rfl, he, hb.1, hb.2⟩
theorem qe.GW {C : List Nat} {i j : Nat} {aw : Array Bool} (h : qe md ops C i aw) (hj : j ∈ C) (oT : j ≠ i) : j ∉ Region.ready md ops aw := by
 intro hr
 obtain ⟨_, hw⟩ := h j hj
 obtain ⟨_, oj, PR, jd⟩ := mem_ready.1 hr
 rcases hw with hw | ⟨y, hy, ox, e, XP, he, hb, hon⟩
 ·exact oT hw
 ·rw [PR] at XP
  cases XP
  have h1 := jd e he hb
  have h2 := (h y hy).1
  rw [hon] at h1
  rcases bl y aw.size with hl | hl
  ·simp [hl] at h1 h2; rw [h2] at h1; cases h1
  ·simp [ff hl] at h2
theorem qe.step {C : List Nat} {i j : Nat} {aw : Array Bool} (h : qe md ops C i aw) (hj : j ∉ C) : qe md ops C i (aw.setIfInBounds j true) := by
 intro x hx
 obtain ⟨h1, h2⟩ := h x hx
 refine ⟨?_, h2⟩
 have dN : j ≠ x := by rintro rfl; exact hj hx
 rw [getD_set_ne true dN]
 exact h1
theorem qe.Rp {C : List Nat} {i : Nat} {aw : Array Bool} (h : qe md ops C i aw) (hk : k ∈ C) : aw.getD k false = false := by
 have := (h k hk).1
 rcases bl k aw.size with hl | hl
 ·simp [hl] at this ⊢; exact this
 ·simp [ff hl] at this
theorem xE {i : Nat} {oi : Oper} {v : Value} {C : List Nat} (hi : ops[i]? = some oi) (Li : ∀ (j : Nat) (o : Oper) cs b, ops[j]? = some o → o.op ≠ .select cs b)
  (JE : k ≠ i) (hkC : k ∈ C) (hQ : ∀ c a w, Q (.panic c) (a.put oi.dst v) w → Q (.panic c) a w) :
  ∀ (fuel : Nat) (aw : Array Bool) (a : Act) (w : World),
   (∀ j oj, ops[j]? = some oj → j ≠ i → aw.getD j true = false → (∀ e ∈ oj.after, Region.binds md e = true → e.on ≠ i) → oi.apart ops oj = true) →
   qe md ops C i aw → i ∈ Region.ready md ops aw → YieldsIf P ops S oi v a → S w →
   de P md ops Q S k fuel (aw.setIfInBounds i true) (a.put oi.dst v) w → de P md ops Q S k (fuel + 1) aw a w := by
 intro fuel
 induction fuel with
 | zero =>
  intro aw a w _ _ hr hy hS H
  refine ⟨fun h => (by rw [h] at hr; cases hr), fun j hj => ?_⟩
  by_cases oT : j = i
  ·subst oT; exact hy.wpOp hi hS ⟨.inr hS, H⟩
  ·have := ready_mono hj oT
   rw [H.1] at this
   cases this
 | succ fuel ih =>
  intro aw a w Bc Ma hr hy hS H
  refine ⟨fun h => (by rw [h] at hr; cases hr), fun j hj => ?_⟩
  by_cases oT : j = i
  ·subst oT; exact hy.wpOp hi hS ⟨.inr hS, H⟩
  ·have h1 := H.2 j (ready_mono hj oT)
   have hjC : j ∉ C := fun hC => Ma.GW hC oT hj
   obtain ⟨LO, oj, PR, jd⟩ := mem_ready.1 hj
   have TM : ∀ e ∈ oj.after, Region.binds md e = true → e.on ≠ i := fun e he hb heq => by
    have h1 := jd e he hb
    have h0 := (mem_ready.1 hr).1
    rw [heq] at h1
    rcases bl i aw.size with h' | h'
    ·simp [h'] at h0 h1; rw [h0] at h1; cases h1
    ·simp [ff h'] at h1
   have h2 := wpOp_putIf PR (Bc j oj PR oT LO TM) (fun cs b => Li i oi cs b hi) (fun cs b => Li j oj cs b PR) hQ hy h1
   have Ed : ∀ x ox, ops[x]? = some ox → x ≠ i → (aw.setIfInBounds j true).getD x true = false →
     (∀ e ∈ ox.after, Region.binds md e = true → e.on ≠ i) → oi.apart ops ox = true := fun x ox hx hxi Xx xj => by
    refine Bc x ox hx hxi ?_ xj
    by_cases VZ : j = x
    ·subst VZ; exact LO
    ·rw [getD_set_ne true VZ] at Xx; exact Xx
   have YD := Ma.step hjC
   refine wpOp_mono (fun a' w' h3 => ?_) h2
   have Mm : S w' := by
    rcases h3.2.1 with h4 | h4
    ·have h5 := YD.Rp hkC
     rw [Array.setIfInBounds_comm _ _ (Ne.symm oT), getD_set_ne false (Ne.symm JE), h5] at h4
     cases h4
    ·exact h4
   refine ⟨.inr Mm, ih (aw.setIfInBounds j true) a' w' Ed YD (ready_mono hr (Ne.symm oT)) h3.1 Mm ?_⟩
   rw [Array.setIfInBounds_comm _ _ oT]
   exact h3.2.2
theorem qP {i : Nat} {oi : Oper} {v : Value} {fuel : Nat} {aw : Array Bool} {a : Act} {w : World} (C : List Nat) (hi : ops[i]? = some oi)
  (hs : Region.noSelect ops = true) (hf : Region.free md ops aw i = true) (hr : (Region.ready md ops aw).contains i = true) (hc : (chainB md ops C i k aw && k != i) = true)
  (hQ : ∀ c a w, Q (.panic c) (a.put oi.dst v) w → Q (.panic c) a w) (hy : YieldsIf P ops S oi v a) (hS : S w)
  (h : de P md ops Q S k fuel (aw.setIfInBounds i true) (a.put oi.dst v) w) : de P md ops Q S k (fuel + 1) aw a w := by
 rw [aD] at hc
 obtain ⟨hkC, Ma⟩ := BK hc.1
 exact xE hi (Region.noSelect_spec hs) (by simpa using hc.2) hkC hQ fuel aw a w (Region.free_spec hi hf) Ma (by simpa using hr) hy hS h
theorem jf.more {aw : Array Bool} {w : World} (i : Nat) (h : jf S k aw w) : jf S k (aw.setIfInBounds i true) w :=
 h.imp (fun h => getD_set_true h) id
theorem jf.less {aw : Array Bool} {w : World} {i j : Nat} (JE : k ≠ i) (h : jf S k ((aw.setIfInBounds i true).setIfInBounds j true) w) (oT : j ≠ i) : jf S k (aw.setIfInBounds j true) w := by
 rcases h with h | h
 ·rw [Array.setIfInBounds_comm _ _ (Ne.symm oT), getD_set_ne false (Ne.symm JE)] at h
  exact .inl h
 ·exact .inr h
theorem vD {i : Nat} {oi : Oper} {v : Value} (hi : ops[i]? = some oi) (Li : ∀ (j : Nat) (o : Oper) cs b, ops[j]? = some o → o.op ≠ .select cs b)
  (JE : k ≠ i) (hQ : ∀ c a w, Q (.panic c) (a.put oi.dst v) w → Q (.panic c) a w) :
  ∀ (fuel : Nat) (aw : Array Bool) (a : Act) (w : World),
   (∀ j oj, ops[j]? = some oj → j ≠ i → aw.getD j true = false → (∀ e ∈ oj.after, Region.binds md e = true → e.on ≠ i) → oi.apart ops oj = true) →
   i ∈ Region.ready md ops aw → YieldsIf P ops (fun _ => True) oi v a → jf S k aw w →
   de P md ops Q S k fuel (aw.setIfInBounds i true) (a.put oi.dst v) w → de P md ops Q S k (fuel + 1) aw a w := by
 intro fuel
 induction fuel with
 | zero =>
  intro aw a w _ hr hy hS H
  refine ⟨fun h => (by rw [h] at hr; cases hr), fun j hj => ?_⟩
  by_cases oT : j = i
  ·subst oT; exact hy.wpOp hi trivial ⟨hS.more j, H⟩
  ·have := ready_mono hj oT
   rw [H.1] at this
   cases this
 | succ fuel ih =>
  intro aw a w Bc hr hy hS H
  refine ⟨fun h => (by rw [h] at hr; cases hr), fun j hj => ?_⟩
  by_cases oT : j = i
  ·subst oT; exact hy.wpOp hi trivial ⟨hS.more j, H⟩
  ·have h1 := H.2 j (ready_mono hj oT)
   obtain ⟨LO, oj, PR, jd⟩ := mem_ready.1 hj
   have TM : ∀ e ∈ oj.after, Region.binds md e = true → e.on ≠ i := fun e he hb heq => by
    have h1 := jd e he hb
    have h0 := (mem_ready.1 hr).1
    rw [heq] at h1
    rcases bl i aw.size with h' | h'
    ·simp [h'] at h0 h1; rw [h0] at h1; cases h1
    ·simp [ff h'] at h1
   have h2 := wpOp_putIf PR (Bc j oj PR oT LO TM) (fun cs b => Li i oi cs b hi) (fun cs b => Li j oj cs b PR) hQ hy h1
   have Ed : ∀ x ox, ops[x]? = some ox → x ≠ i → (aw.setIfInBounds j true).getD x true = false →
     (∀ e ∈ ox.after, Region.binds md e = true → e.on ≠ i) → oi.apart ops ox = true := fun x ox hx hxi Xx xj => by
    refine Bc x ox hx hxi ?_ xj
    by_cases VZ : j = x
    ·subst VZ; exact LO
    ·rw [getD_set_ne true VZ] at Xx; exact Xx
   refine wpOp_mono (fun a' w' h3 => ?_) h2
   have hT := h3.2.1.less JE oT
   refine ⟨hT, ih (aw.setIfInBounds j true) a' w' Ed (ready_mono hr (Ne.symm oT)) h3.1 hT ?_⟩
   rw [Array.setIfInBounds_comm _ _ oT]
   exact h3.2.2
theorem o4 {i : Nat} {oi : Oper} {v : Value} {fuel : Nat} {aw : Array Bool} {a : Act} {w : World} (hi : ops[i]? = some oi)
  (hs : Region.noSelect ops = true) (hf : Region.free md ops aw i = true) (hr : (Region.ready md ops aw).contains i = true) (hc : (k != i) = true)
  (hQ : ∀ c a w, Q (.panic c) (a.put oi.dst v) w → Q (.panic c) a w) (hw : Region.wanted oi (yielded ops a.tmps) = true) (hy : ∀ w, (execOp a.eval oi).run P w = .ok (.value v) w) (hS : jf S k aw w)
  (h : de P md ops Q S k fuel (aw.setIfInBounds i true) (a.put oi.dst v) w) : de P md ops Q S k (fuel + 1) aw a w :=
 vD hi (Region.noSelect_spec hs) (by simpa using hc) hQ fuel aw a w (Region.free_spec hi hf) (by simpa using hr) (.inl ⟨hw, fun w _ => hy w⟩) hS h
def aU (P : Program) (md : Region.Mode) (ops : Array Oper) (Q : Exit → Act → World → Prop) (S : World → Prop) (k fuel : Nat) (aw : Array Bool) (a : Act) (w : World) (rs : List Nat) : Prop :=
 ∀ i ∈ rs, wpOp P ops Q i (fun a' w' => jf S k (aw.setIfInBounds i true) w' ∧ de P md ops Q S k fuel (aw.setIfInBounds i true) a' w') a w
theorem bp {rs : List Nat} {fuel : Nat} {aw : Array Bool} {a : Act} {w : World} (hr : Region.ready md ops aw = rs) (dN : rs ≠ [])
  (h : aU P md ops Q S k fuel aw a w rs) : de P md ops Q S k (fuel + 1) aw a w :=
 ⟨fun h0 => absurd (hr ▸ h0) dN, hr ▸ h⟩
theorem aU.nil {fuel : Nat} {aw : Array Bool} {a : Act} {w : World} : aU P md ops Q S k fuel aw a w [] := fun _ h => by cases h
theorem aU.cons {fuel : Nat} {aw : Array Bool} {a : Act} {w : World} {i : Nat} {o : Oper} {rs : List Nat} (ho : ops[i]? = some o)
  (h : ∀ K' : Act → World → Prop, Shut (∀ a w, jf S k (aw.setIfInBounds i true) w → (jf S k (aw.setIfInBounds i true) w → de P md ops Q S k fuel (aw.setIfInBounds i true) a w) → K' a w) →
   if Region.wanted o (yielded ops a.tmps) = true then Oper.wp P o a w K' Q else K' (a.put o.dst undef) w)
  (hs : aU P md ops Q S k fuel aw a w rs) : aU P md ops Q S k fuel aw a w (i :: rs) := by
 intro j hj
 rcases ay.1 hj with rfl | hj
 ·unfold wpOp
  simp only [ho]
  have := h (fun a' w' => jf S k (aw.setIfInBounds j true) w' ∧ de P md ops Q S k fuel (aw.setIfInBounds j true) a' w') (fun a w h1 h2 => ⟨h1, h2 h1⟩)
  split
  ·rename_i hw; rw [if_pos hw] at this; exact .inl this
  ·rename_i hw; rw [if_neg hw] at this; exact this
 ·exact hs j hj
theorem az {aw : Array Bool} {a : Act} {w : World} (hr : Region.ready md ops aw = []) (h : Q .normal a w) :
  ∀ fuel, de P md ops Q S k fuel aw a w
 | 0 => ⟨hr, h⟩
 | _ + 1 => ⟨fun _ => h, by rw [hr]; simp⟩
theorem bj {id : Nat} {a : Act} {w : World} (S : World → Prop) (k : Nat) (hm : P.follows .mixedOrders = true) (hS : S w.drew)
  (h : jf S k (Array.replicate ops.size false) w.drew → de P .any ops Q S k ops.size (Array.replicate ops.size false) a w.drew) : (Code.region id ops true).wp P Q a w :=
 wp_region_any hm (tk _ _ _ _ (h (.inr hS)))
end
theorem q2 {α : Type} {a : α} {l : List α} {n : Nat} : (a :: l)[n + 1]? = l[n]? := rfl
theorem q3 {α : Type} {a : α} {l : List α} : (a :: l)[0]? = some a := rfl
theorem q5 {α : Type} {l : List α} {n : Nat} {a : α} : l.toArray.setIfInBounds n a = (l.set n a).toArray := List.setIfInBounds_toArray _ _ _
theorem q6 {α : Type} {a b : α} {l : List α} : (a :: l).set 0 b = b :: l := rfl
theorem q7 {α : Type} {a b : α} {l : List α} {n : Nat} : (a :: l).set (n + 1) b = a :: l.set n b := rfl
variable {P : Program} {ops : Array Oper} {Q : Exit → Act → World → Prop} {md : Region.Mode} {S : World → Prop} {k : Nat}
theorem T0 {i : Nat} {oi : Oper} {v : Value} {fuel : Nat} {aw : Array Bool} {a : Act} {w : World} (hi : ops[i]? = some oi)
  (hb : (Region.noSelect ops && Region.free md ops aw i && (Region.ready md ops aw).contains i && k != i) = true) (hw : Region.wanted oi (yielded ops a.tmps) = true) (hy : ∀ w, (execOp a.eval oi).run P w = .ok (.value v) w) (hS : jf S k aw w)
  (h : de P md ops (NoPanic Q) S k fuel (aw.setIfInBounds i true) (a.put oi.dst v) w) : de P md ops (NoPanic Q) S k (fuel + 1) aw a w := by
 simp only [aD] at hb
 exact o4 hi hb.1.1.1 hb.1.1.2 hb.1.2 hb.2 (fun _ _ _ h => h) hw hy hS h
theorem T1 {i : Nat} {oi : Oper} {v : Value} {fuel : Nat} {aw : Array Bool} {a : Act} {w : World} (C : List Nat) (hi : ops[i]? = some oi)
  (hb : (Region.noSelect ops && Region.free md ops aw i && (Region.ready md ops aw).contains i && (chainB md ops C i k aw && k != i)) = true) (hw : Region.wanted oi (yielded ops a.tmps) = true) (hy : ∀ w, S w → (execOp a.eval oi).run P w = .ok (.value v) w) (hS : S w)
  (h : de P md ops (NoPanic Q) S k fuel (aw.setIfInBounds i true) (a.put oi.dst v) w) : de P md ops (NoPanic Q) S k (fuel + 1) aw a w := by
 simp only [aD] at hb
 exact qP C hi hb.1.1.1 hb.1.1.2 hb.1.2 (by simp only [aD]; exact hb.2) (fun _ _ _ h => h) (.inl ⟨hw, hy⟩) hS h
theorem R1 {i : Nat} {o : Oper} {fuel : Nat} {aw : Array Bool} {a : Act} {w : World} (hr : Region.ready md ops aw = [i]) (ho : ops[i]? = some o)
  (h : ∀ K' : Act → World → Prop, Shut (∀ a w, jf S k (aw.setIfInBounds i true) w → (jf S k (aw.setIfInBounds i true) w → de P md ops Q S k fuel (aw.setIfInBounds i true) a w) → K' a w) →
   if Region.wanted o (yielded ops a.tmps) = true then Oper.wp P o a w K' Q else K' (a.put o.dst undef) w) : de P md ops Q S k (fuel + 1) aw a w :=
 bp hr (by simp) (aU.cons ho h aU.nil)
theorem R2 (i : Nat) {o : Oper} {fuel : Nat} {aw : Array Bool} {a : Act} {w : World} (hb : (Region.ready md ops aw == [i] && !aw.getD k false) = true) (ho : ops[i]? = some o) (hT : jf S k aw w)
  (h : ∀ K' : Act → World → Prop, Shut (∀ a w, jf S k (aw.setIfInBounds i true) w → (jf S k (aw.setIfInBounds i true) w → de P md ops Q S k fuel (aw.setIfInBounds i true) a w) → K' a w) → S w →
   if Region.wanted o (yielded ops a.tmps) = true then Oper.wp P o a w K' Q else K' (a.put o.dst undef) w) : de P md ops Q S k (fuel + 1) aw a w := by
 rw [aD] at hb
 have hS : S w := hT.resolve_left (by simpa using hb.2)
 exact R1 (by simpa using hb.1) ho (fun K' hK => h K' hK hS)
def We (P : Program) (ops : Array Oper) (S : World → Prop) : List (Nat × List Nat) → Act → Act → Prop
 | [], a, a' => a = a'
 | (i, C) :: r, a, a' => ∃ o v, ops[i]? = some o ∧ Region.wanted o (yielded ops a.tmps) = true ∧ (∀ w, (C = [] ∨ S w) → (execOp a.eval o).run P w = .ok (.value v) w) ∧ We P ops S r (a.put o.dst v) a'
def zg (md : Region.Mode) (ops : Array Oper) (k : Nat) : List (Nat × List Nat) → Array Bool → Bool
 | [], _ => true
 | (i, C) :: r, l => Region.noSelect ops && Region.free md ops l i && (Region.ready md ops l).contains i && k != i && (C.isEmpty || chainB md ops C i k l) && zg md ops k r (l.setIfInBounds i true)
def W7 : List (Nat × List Nat) → Array Bool → Array Bool
 | [], l => l
 | (i, _) :: r, l => W7 r (l.setIfInBounds i true)
theorem ee {a : Act} : We P ops S [] a a := rfl
theorem ef {i : Nat} {C : List Nat} {r : List (Nat × List Nat)} {a a' : Act} {o : Oper} {v : Value} (ho : ops[i]? = some o) (hw : Region.wanted o (yielded ops a.tmps) = true) (hy : ∀ w, (C = [] ∨ S w) → (execOp a.eval o).run P w = .ok (.value v) w) (h : We P ops S r (a.put o.dst v) a') : We P ops S ((i, C) :: r) a a' := ⟨o, v, ho, hw, hy, h⟩
theorem TB_ {fuel : Nat} : ∀ {is : List (Nat × List Nat)} {aw : Array Bool} {a a' : Act} {w : World}, zg md ops k is aw = true → We P ops S is a a' → jf S k aw w →
  (jf S k (W7 is aw) w → de P md ops (NoPanic Q) S k fuel (W7 is aw) a' w) → de P md ops (NoPanic Q) S k (fuel + is.length) aw a w
 | [], aw, a, a', w, _, hr, hS, h => by
  have : a = a' := hr
  subst this
  exact h hS
 | (i, C) :: r, aw, a, a', w, hb, hr, hS, h => by
  obtain ⟨o, v, ho, hw, hy, lW⟩ := hr
  simp only [zg, aD] at hb
  obtain ⟨⟨⟨⟨⟨h1, h2⟩, h3⟩, h4⟩, h5⟩, h6⟩ := hb
  have hm := TB_ h6 lW (hS.more i) h
  cases C with
  | nil => exact o4 ho h1 h2 h3 h4 (fun _ _ _ h => h) hw (fun w => hy w (.inl rfl)) hS hm
  | cons c C =>
   have h5 : chainB md ops (c :: C) i k aw = true := by simpa using h5
   have hc := BK h5
   have aY : S w := by
    rcases hS with h7 | h7
    ·rw [hc.2.Rp hc.1] at h7
     cases h7
    ·exact h7
   exact qP (c :: C) ho h1 h2 h3 (by rw [h5, h4]; rfl) (fun _ _ _ h => h) (.inl ⟨hw, fun w hs => hy w (.inr hs)⟩) aY hm
theorem TB {fuel : Nat} (n : Nat) (is : List (Nat × List Nat)) {aw : Array Bool} {a a' : Act} {w : World} (hb : zg md ops k is aw = true) (hn : is.length = n) (hr : We P ops S is a a') (hS : jf S k aw w)
  (h : jf S k (W7 is aw) w → de P md ops (NoPanic Q) S k fuel (W7 is aw) a' w) : de P md ops (NoPanic Q) S k (fuel + n) aw a w := by
 subst hn
 exact TB_ hb hr hS h
end Go.Proofs.YtpjbaobgnhjgoaaGreat
namespace Go.Proofs.YtpjbaobgnhjgoaaGreat
open Go.RowKit
theorem b8.yl {w wA wB : World} {L : eW} {H : Hp} (h : b8 w L H) {gA cA gB cB : Nat} {xs ys : List Int} (hl : xs.length = ys.length)
  (hA : Ints wA (some ⟨gA, 0, none⟩) cA xs) (fA : Fr (ah L.A2) w wA) (qA : gA ∈ ah L.A2 ∨ w.heap.size ≤ gA)
  (hB : Ints wB (some ⟨gB, 0, none⟩) cB ys) (fB : Fr (ah L.A3) wA wB) (qB : gB ∈ ah L.A3 ∨ wA.heap.size ≤ gB) :
  b8 ((wB.setCell ⟨L.a, 1, none⟩ (.slice (some ⟨gA, 0, none⟩) xs.length cA)).setCell ⟨L.a, 2, none⟩ (.slice (some ⟨gB, 0, none⟩) ys.length cB))
   { L with A2 := some ⟨gA, 0, none⟩, c2 := cA, A3 := some ⟨gB, 0, none⟩, c3 := cB } { H with at_ := xs, score := ys } ∧
  Fr L.fp w ((wB.setCell ⟨L.a, 1, none⟩ (.slice (some ⟨gA, 0, none⟩) xs.length cA)).setCell ⟨L.a, 2, none⟩ (.slice (some ⟨gB, 0, none⟩) ys.length cB)) ∧
  L.ext { L with A2 := some ⟨gA, 0, none⟩, c2 := cA, A3 := some ⟨gB, 0, none⟩, c3 := cB } w := by
 obtain ⟨h1, h2, h3⟩ := gf h.nodup
 have lA : gA < wA.heap.size := hA.lt gA (by simp [ah])
 have hs := fA.size
 have nA : gA ≠ L.a ∧ gA ∉ ah L.A1 ∧ gA ∉ ah L.A3 := by
  rcases qA with q | q
  ·exact h2 gA q
  ·refine ⟨?_, fun k => ?_, fun k => ?_⟩
   ·have := h.obj.lt; omega
   ·have := h.items.lt _ k; omega
   ·have := h.score.lt _ k; omega
 have nB : gB ≠ L.a ∧ gB ∉ ah L.A1 ∧ gB ≠ gA := by
  rcases qB with q | q
  ·exact ⟨(h3 gB q).1, (h3 gB q).2.1, fun e => nA.2.2 (e ▸ q)⟩
  ·refine ⟨?_, fun k => ?_, ?_⟩
   ·have := h.obj.lt; omega
   ·have := h.items.lt _ k; omega
   ·omega
 have bA : ah (some ⟨gA, 0, none⟩) = [gA] := rfl
 have bB : ah (some ⟨gB, 0, none⟩) = [gB] := rfl
 have oB := fB.at_ (fA.at_ h.obj (fun k => (h2 _ k).1 rfl)) (fun k => (h3 _ k).1 rfl)
 have iB := (h.items.fr fA (fun k hk nV => (h1 k hk).2.1 nV)).fr fB (fun k hk nV => (h1 k hk).2.2 nV)
 have aB := hA.fr fB (fun k hk nV => nA.2.2 (by rw [bA, an] at hk; exact hk ▸ nV))
 refine ⟨⟨?_, ?_, ?_, ?_, ?_, hl⟩, ?_, rfl, ?_, fun _ => rfl⟩
 ·have := (oB.cV 1 (.slice (some ⟨gA, 0, none⟩) xs.length cA)).cV 2 (.slice (some ⟨gB, 0, none⟩) ys.length cB)
  simpa using this
 ·exact (iB.fy (fun k => (h1 _ k).1 rfl) _).fy (fun k => (h1 _ k).1 rfl) _
 ·exact (aB.fy (by rw [bA]; simpa using fun e => nA.1 e.symm) _).fy (by rw [bA]; simpa using fun e => nA.1 e.symm) _
 ·exact (hB.fy (by rw [bB]; simpa using fun e => nB.1 e.symm) _).fy (by rw [bB]; simpa using fun e => nB.1 e.symm) _
 ·have hn := h.nodup
  simp only [eW.fp, gW, aj, List.nodup_append, bA, bB, an, cG, not_false_eq_true, List.nodup_nil, true_and] at hn ⊢
  obtain ⟨n1, n2, n3, n4⟩ := hn
  refine ⟨?_, n2, ?_, ?_⟩
  ·rintro (hk | rfl | rfl)
   ·exact n1 (.inl hk)
   ·exact nA.1 rfl
   ·exact nB.1 rfl
  ·rintro _ rfl _ rfl e
   exact nB.2.2 e.symm
  ·rintro k hk _ (rfl | rfl) rfl
   ·exact nA.2.1 hk
   ·exact nB.2.1 hk
 ·exact ((((fA.mono (T := L.fp) fun k hk => .inl (by simp [eW.fp, hk])).trans fB fun k hk => .inl (by simp [eW.fp, hk]))).setCell (.inl (by simp [eW.fp])) _).setCell (.inl (by simp [eW.fp])) _
 ·intro k hk
  simp only [eW.fp, bA, bB, ay, aj, cG, or_false] at hk ⊢
  rcases hk with hk | hk | hk | hk
  ·exact .inl (.inl hk)
  ·exact .inl (.inr (.inl hk))
  ·subst hk
   exact qA.elim (fun q => .inl (.inr (.inr (.inl q)))) .inr
  ·subst hk
   exact qB.elim (fun q => .inl (.inr (.inr (.inr q)))) (fun q => .inr (by omega))
def Hp.growBy (H : Hp) (m : Nat) : Hp := { H with at_ := H.at_ ++ List.replicate m (-1), score := H.score ++ List.replicate m 0 }
def Hp.dZ (H : Hp) (n : Int) : Hp := H.growBy (jC H.at_.length n - H.at_.length).toNat
theorem eW.aM {L M N : eW} {w w' : World} {S : List Nat} (h : L.ext M w) (k : M.ext N w') (hf : Fr S w w') : L.ext N w :=
 ⟨k.1.trans h.1, fun x hx => (k.2.1 x hx).elim (fun hm => h.2.1 x hm) (fun hm => .inr (aE hf.size hm)), fun m => k.2.2 (h.2.2 m)⟩
theorem gQ {H : Hp} {j : Nat} : ((H.growBy j).at_ ++ [-1] = (H.growBy (j + 1)).at_) ∧ ((H.growBy j).score ++ [0] = (H.growBy (j + 1)).score) := by
 constructor <;> simp [Hp.growBy, List.replicate_succ']
theorem xl (w : World) (L : eW) (H : Hp) (h : b8 w L H) (gy : L.A2.isSome = true) (n : Int) (hm : H.at_.length ≤ 262144) :
  Calls Tryz.prog 132 #[.pointer (some ⟨L.a, 0, none⟩), .int .i64 n] w fun e w' => e = .returned (.tuple #[]) ∧ ∃ L', b8 w' L' (H.dZ n) ∧ L.ext L' w ∧ Fr L.fp w w' := by
 have o1 := h.obj.cell 1
 simp at o1
 obtain ⟨g2, eJ⟩ : ∃ a, L.A2 = some a := Option.isSome_iff_exists.1 gy
 rw [eJ] at o1
 have he : ∀ w : World, (binOp .eql 22 (.slice (some g2) H.at_.length L.c2) (.slice none 0 0)).run Tryz.prog w = .ok (.bool false) w := fun w => Lib.run_eql_slice_nil w _ _ _ _ _ _ _ Tryz.underlying22
 obtain ⟨m, PT⟩ : ∃ m : Nat, jC H.at_.length n = (H.at_.length + m : Nat) := ⟨(jC H.at_.length n - H.at_.length).toNat, by unfold jC; omega⟩
 have rr : H.at_.length + m ≤ 262144 := by have := PT; unfold jC at this; omega
 have hgf : H.dZ n = H.growBy m := by unfold Hp.dZ; rw [PT]; congr 1; omega
 rw [hgf]
 have HM := aa PT
 have HH := aa h
 have HS := aa h.same
 have hm3 : ((H.at_.length + m : Nat) : Int) ≤ 262144 := by omega
 clear PT h eJ hgf
 go_enter Tryz.func132, Tryz.ntmps132
 go_wp2_with fail
 refine (It _ _ n (by omega) (by omega)).mono ?_
 rintro e w1 ⟨rfl, rfl⟩
 rw [HM.out]
 clear o1 he
 go_wp2_with fail
 go_loopg [] m (fun gk wr => ∃ (j : Nat) (M : eW), j + gk = m ∧ b8 wr M (H.growBy j) ∧ L.ext M w ∧ Fr L.fp w wr)
 case atStart => exact ⟨0, L, cZ _, by simpa [Hp.growBy] using HH.out, ⟨rfl, fun k hk => .inl hk, id⟩, Fr.refl _ _⟩
 case round =>
  obtain ⟨j, M, hj, hK, hE, sg⟩ := hrel
  have ha : M.a = L.a := hE.1
  have c1 := hK.obj.cell 1
  have c2 := hK.obj.cell 2
  have l1 : (H.growBy j).at_.length = H.at_.length + j := by simp [Hp.growBy]
  have l2 : (H.growBy j).score.length = H.at_.length + j := by rw [← hK.same, l1]
  rw [ha] at c1 c2
  simp [l1] at c1
  simp [l2] at c2
  have HK := aa hK
  have HE := aa hE
  have HA := aa ha
  have oO := aa l1
  have lY := aa l2
  have HJ := aa hj
  clear hK hE ha l1 l2
  by_cases hjm : j < m
  ·have t1 : ((H.at_.length + j : Nat) : Int) < ((H.at_.length + m : Nat) : Int) := by omega
   have t2 : (H.at_.length : Int) + j < (H.at_.length : Int) + m := by omega
   have ho : At wr L.a 159 #[.slice M.A1 (H.growBy j).items.length M.c1, .slice M.A2 (H.at_.length + j) M.c2, .slice M.A3 (H.at_.length + j) M.c3] := by
    have := HK.out.obj
    rw [HA.out, oO.out, lY.out] at this
    exact this
   have HO := aa ho
   have jp : Hid (L.a ∉ ah M.A2) := fun hk => ((gf HK.out.nodup).2.1 _ hk).1 HA.out.symm
   have n8 : Hid (L.a ∉ ah M.A3) := fun hk => ((gf HK.out.nodup).2.2 _ hk).1 HA.out.symm
   have HD : Hid (∀ k, k ∈ ah M.A3 → k ∉ ah M.A2) := fun k hk nV => ((gf HK.out.nodup).2.2 k hk).2.2 nV
   have JR : Hid (∀ k, k ∈ ah M.A2 → k < wr.heap.size) := HK.out.at_.lt
   have ZB : Hid ((H.growBy (j + 1)).at_.length = H.at_.length + j + 1) := by show _ = _; simp [Hp.growBy]; omega
   have ZA : Hid ((H.growBy (j + 1)).score.length = H.at_.length + j + 1) := by show _ = _; have := HS.out; simp [Hp.growBy]; omega
   have mg : Hid (At ((wr.drew.alloc (.cells #[.int .i64 (-1)] 3)).alloc (.cells #[.int .i64 0] 3)) (wr.heap.size + 1) 3 #[.int .i64 0]) := by
    have := At.new (wr.drew.alloc (.cells #[.int .i64 (-1)] 3)) 3 #[.int .i64 0]
    rwa [show (wr.drew.alloc (.cells #[.int .i64 (-1)] 3)).heap.size = wr.heap.size + 1 from by simp] at this
   have kS : Hid (At ((wr.drew.alloc (.cells #[.int .i64 0] 3)).alloc (.cells #[.int .i64 (-1)] 3)) wr.heap.size 3 #[.int .i64 0]) := (At.new wr.drew _ _).alloc _
   clear hj ho
   go_wp2_with fail
   refine wp_region_noPanic ?_
   refine bj (fun w' : World => At w' L.a 159 #[.slice M.A1 (H.growBy j).items.length M.c1, .slice M.A2 (H.at_.length + j) M.c2, .slice M.A3 (H.at_.length + j) M.c3]) 16 (by kernel_rfl) (HO.out.drew) (fun dd => ?_)
   apply TB 10 [(0, []), (1, []), (2, []), (3, []), (4, []), (5, [5, 16]), (8, []), (9, []), (10, []), (11, [11, 16])]; kernel_rfl; rfl; · (repeat (apply ef; rfl; rfl; (· intro w aY; (try (have aY := aY.resolve_left (aF _ _); (have s1 := aY.cell 1; have s2 := aY.cell 2; simp at s1 s2))); go_simp <;> with_reducible rfl); try simp only [Act.put, q5, q6, q7])); exact ee
   exact dd; intro dd
   have ap := dd.resolve_left (by decide)
   refine bp (rs := [6, 12]) (by kernel_rfl) (by simp) ?_
   refine aU.cons (o := ?acF) ?Pw ?DK ?_
   case Pw => rfl
   case DK =>
    intro K hK
    go_simp
    refine hK.out _ _ (.inr ?_) (fun eP => ?_)
    ·first | exact ap.alloc _ | exact jc.at_ ap jp.out | exact yE.at_ ap n8.out
    clear hK K
    try simp only [Act.put, q5, q6, q7]
    have ap := eP.resolve_left (by decide)
    refine bp (rs := [7, 12]) (by kernel_rfl) (by simp) ?_
    refine aU.cons (o := ?acE) ?Pv ?DJ ?_
    case Pv => rfl
    case DJ =>
     intro K hK
     (refine bK rfl _ _ rfl M.A2 M.c2 (H.growBy j).at_ _ rfl oO.out.symm ?qF _ 1 (-1) rfl ?oF (by rw [oO.out]; omega) ?_; (case qF => first | exact HK.out.at_.drew.alloc _ | exact (HK.out.at_.drew.alloc _).alloc _); (case oF => simp); intro gA cA wA Iq jc Ir VV)
     refine hK.out _ _ (.inr ?_) (fun iw => ?_)
     ·first | exact ap.alloc _ | exact jc.at_ ap jp.out | exact yE.at_ ap n8.out
     clear hK K
     try simp only [Act.put, q5, q6, q7]
     refine R2 12 (by kernel_rfl) (by rfl) iw fun K hK ap => ?_
     go_simp
     refine hK.out _ _ (.inr ?_) (fun iu => ?_)
     ·first | exact ap.alloc _ | exact jc.at_ ap jp.out | exact yE.at_ ap n8.out
     clear hK K
     try simp only [Act.put, q5, q6, q7]
     refine R2 13 (by kernel_rfl) (by rfl) iu fun K hK ap => ?_
     (refine bK rfl _ _ rfl M.A3 M.c3 (H.growBy j).score _ rfl lY.out.symm ?Ij _ 1 0 rfl ?Eu (by rw [lY.out]; omega) ?_; (case Ij => first | exact ((HK.out.score.drew.alloc _).fr jc HD.out).alloc _ | exact ((HK.out.score.drew.alloc _).alloc _).fr jc HD.out); (case Eu => first | (simp; done) | exact (jc.at_ mg.out (fun hk => absurd (JR.out _ hk) (by omega))).cell 0 | exact (jc.at_ kS.out (fun hk => absurd (JR.out _ hk) (by omega))).cell 0); intro gB cB wB Yc yE Yk hsB)
     refine hK.out _ _ (.inr ?_) (fun kI => ?_)
     ·first | exact ap.alloc _ | exact jc.at_ ap jp.out | exact yE.at_ ap n8.out
     clear hK K
     try simp only [Act.put, q5, q6, q7]
     apply TB 2 [(14, []), (15, [])]; kernel_rfl; rfl; · (repeat (apply ef; rfl; rfl; (· intro w aY; go_simp <;> with_reducible rfl); try simp only [Act.put, q5, q6, q7])); exact ee
     exact kI; intro kI
     refine R2 16 (by kernel_rfl) (by rfl) kI fun K hK ap => ?_
     (have b1 := ap.cell 1; have b3 := ap.frozen 1; simp at b1; go_simp)
     refine hK.out _ _ (.inl rfl) (fun fK => ?_)
     clear hK K
     try simp only [Act.put, q5, q6, q7]
     apply TB 2 [(17, []), (18, [])]; kernel_rfl; rfl; · (repeat (apply ef; rfl; rfl; (· intro w aY; go_simp <;> with_reducible rfl); try simp only [Act.put, q5, q6, q7])); exact ee
     exact fK; intro fK
     refine R1 (i := 19) (o := ?acB) (by kernel_rfl) (by rfl) ?_
     intro K hK
     (have b2 := ap.cell 2; have b4 := ap.frozen 2; simp at b2; go_simp)
     refine hK.out _ _ (.inl rfl) (fun Bm => ?_)
     clear hK K
     try simp only [Act.put, q5, q6, q7]
     refine az (by kernel_rfl) ?_ _
     refine NoPanic.normal ?_
     have fA : Fr (ah M.A2) wr wA := by first | exact ((Fr.refl _ wr).drew.alloc _).ag jc | exact (((Fr.refl _ wr).drew.alloc _).alloc _).ag jc
     have fB : Fr (ah M.A3) wA wB := by first | exact yE | exact ((Fr.refl _ wA).alloc _).ag yE
     have qA : gA ∈ ah M.A2 ∨ wr.heap.size ≤ gA := Ir.imp id (fun e => by rw [e]; simp <;> omega)
     have qB : gB ∈ ah M.A3 ∨ wA.heap.size ≤ gB := Yk.imp id (fun e => by rw [e]; simp <;> omega)
     obtain ⟨r1, r2, r3⟩ := b8.yl HK.out (by simp [oO.out, lY.out]) Iq fA qA Yc fB qB
     rw [HA.out] at r1 r2 r3
     rw [gQ.1, gQ.2, ZB.out, ZA.out] at r1 r2
     have R1 := aa r1
     have R2 := aa r2
     have R3 := aa r3
     clear r1 r2 r3
     go_wp2_with fail
     go_roundg (gk - 1)
     case measure => have := HJ.out; omega
     case rel => exact ⟨j + 1, _, by have := HJ.out; omega, R1.out, eW.aM HE.out R3.out sg, sg.trans R2.out HE.out.2.1⟩
    refine aU.cons (o := ?acA) ?Ps ?DG ?_
    case Ps => rfl
    case DG =>
     intro K hK
     go_simp
     refine hK.out _ _ (.inr ?_) (fun iw => ?_)
     ·first | exact ap.alloc _ | exact jc.at_ ap jp.out | exact yE.at_ ap n8.out
     clear hK K
     try simp only [Act.put, q5, q6, q7]
     refine R2 7 (by kernel_rfl) (by rfl) iw fun K hK ap => ?_
     (refine bK rfl _ _ rfl M.A2 M.c2 (H.growBy j).at_ _ rfl oO.out.symm ?Ih _ 1 (-1) rfl ?Es (by rw [oO.out]; omega) ?_; (case Ih => first | exact HK.out.at_.drew.alloc _ | exact (HK.out.at_.drew.alloc _).alloc _); (case Es => simp); intro gA cA wA Iq jc Ir VV)
     refine hK.out _ _ (.inr ?_) (fun iu => ?_)
     ·first | exact ap.alloc _ | exact jc.at_ ap jp.out | exact yE.at_ ap n8.out
     clear hK K
     try simp only [Act.put, q5, q6, q7]
     refine R2 13 (by kernel_rfl) (by rfl) iu fun K hK ap => ?_
     (refine bK rfl _ _ rfl M.A3 M.c3 (H.growBy j).score _ rfl lY.out.symm ?Ig _ 1 0 rfl ?Er (by rw [lY.out]; omega) ?_; (case Ig => first | exact ((HK.out.score.drew.alloc _).fr jc HD.out).alloc _ | exact ((HK.out.score.drew.alloc _).alloc _).fr jc HD.out); (case Er => first | (simp; done) | exact (jc.at_ mg.out (fun hk => absurd (JR.out _ hk) (by omega))).cell 0 | exact (jc.at_ kS.out (fun hk => absurd (JR.out _ hk) (by omega))).cell 0); intro gB cB wB Yc yE Yk hsB)
     refine hK.out _ _ (.inr ?_) (fun kI => ?_)
     ·first | exact ap.alloc _ | exact jc.at_ ap jp.out | exact yE.at_ ap n8.out
     clear hK K
     try simp only [Act.put, q5, q6, q7]
     apply TB 2 [(14, []), (15, [])]; kernel_rfl; rfl; · (repeat (apply ef; rfl; rfl; (· intro w aY; go_simp <;> with_reducible rfl); try simp only [Act.put, q5, q6, q7])); exact ee
     exact kI; intro kI
     refine R2 16 (by kernel_rfl) (by rfl) kI fun K hK ap => ?_
     (have b1 := ap.cell 1; have b3 := ap.frozen 1; simp at b1; go_simp)
     refine hK.out _ _ (.inl rfl) (fun fK => ?_)
     clear hK K
     try simp only [Act.put, q5, q6, q7]
     apply TB 2 [(17, []), (18, [])]; kernel_rfl; rfl; · (repeat (apply ef; rfl; rfl; (· intro w aY; go_simp <;> with_reducible rfl); try simp only [Act.put, q5, q6, q7])); exact ee
     exact fK; intro fK
     refine R1 (i := 19) (o := ?acy) (by kernel_rfl) (by rfl) ?_
     intro K hK
     (have b2 := ap.cell 2; have b4 := ap.frozen 2; simp at b2; go_simp)
     refine hK.out _ _ (.inl rfl) (fun Bm => ?_)
     clear hK K
     try simp only [Act.put, q5, q6, q7]
     refine az (by kernel_rfl) ?_ _
     refine NoPanic.normal ?_
     have fA : Fr (ah M.A2) wr wA := by first | exact ((Fr.refl _ wr).drew.alloc _).ag jc | exact (((Fr.refl _ wr).drew.alloc _).alloc _).ag jc
     have fB : Fr (ah M.A3) wA wB := by first | exact yE | exact ((Fr.refl _ wA).alloc _).ag yE
     have qA : gA ∈ ah M.A2 ∨ wr.heap.size ≤ gA := Ir.imp id (fun e => by rw [e]; simp <;> omega)
     have qB : gB ∈ ah M.A3 ∨ wA.heap.size ≤ gB := Yk.imp id (fun e => by rw [e]; simp <;> omega)
     obtain ⟨r1, r2, r3⟩ := b8.yl HK.out (by simp [oO.out, lY.out]) Iq fA qA Yc fB qB
     rw [HA.out] at r1 r2 r3
     rw [gQ.1, gQ.2, ZB.out, ZA.out] at r1 r2
     have R1 := aa r1
     have R2 := aa r2
     have R3 := aa r3
     clear r1 r2 r3
     go_wp2_with fail
     go_roundg (gk - 1)
     case measure => have := HJ.out; omega
     case rel => exact ⟨j + 1, _, by have := HJ.out; omega, R1.out, eW.aM HE.out R3.out sg, sg.trans R2.out HE.out.2.1⟩
    exact aU.nil
   refine aU.cons (o := ?acx) ?Pq ?DF ?_
   case Pq => rfl
   case DF =>
    intro K hK
    go_simp
    refine hK.out _ _ (.inr ?_) (fun eP => ?_)
    ·first | exact ap.alloc _ | exact jc.at_ ap jp.out | exact yE.at_ ap n8.out
    clear hK K
    try simp only [Act.put, q5, q6, q7]
    refine R2 6 (by kernel_rfl) (by rfl) eP fun K hK ap => ?_
    go_simp
    refine hK.out _ _ (.inr ?_) (fun iw => ?_)
    ·first | exact ap.alloc _ | exact jc.at_ ap jp.out | exact yE.at_ ap n8.out
    clear hK K
    try simp only [Act.put, q5, q6, q7]
    refine R2 7 (by kernel_rfl) (by rfl) iw fun K hK ap => ?_
    (refine bK rfl _ _ rfl M.A2 M.c2 (H.growBy j).at_ _ rfl oO.out.symm ?Ie _ 1 (-1) rfl ?Eo (by rw [oO.out]; omega) ?_; (case Ie => first | exact HK.out.at_.drew.alloc _ | exact (HK.out.at_.drew.alloc _).alloc _); (case Eo => simp); intro gA cA wA Iq jc Ir VV)
    refine hK.out _ _ (.inr ?_) (fun iu => ?_)
    ·first | exact ap.alloc _ | exact jc.at_ ap jp.out | exact yE.at_ ap n8.out
    clear hK K
    try simp only [Act.put, q5, q6, q7]
    refine R2 13 (by kernel_rfl) (by rfl) iu fun K hK ap => ?_
    (refine bK rfl _ _ rfl M.A3 M.c3 (H.growBy j).score _ rfl lY.out.symm ?Id _ 1 0 rfl ?En (by rw [lY.out]; omega) ?_; (case Id => first | exact ((HK.out.score.drew.alloc _).fr jc HD.out).alloc _ | exact ((HK.out.score.drew.alloc _).alloc _).fr jc HD.out); (case En => first | (simp; done) | exact (jc.at_ mg.out (fun hk => absurd (JR.out _ hk) (by omega))).cell 0 | exact (jc.at_ kS.out (fun hk => absurd (JR.out _ hk) (by omega))).cell 0); intro gB cB wB Yc yE Yk hsB)
    refine hK.out _ _ (.inr ?_) (fun kI => ?_)
    ·first | exact ap.alloc _ | exact jc.at_ ap jp.out | exact yE.at_ ap n8.out
    clear hK K
    try simp only [Act.put, q5, q6, q7]
    apply TB 2 [(14, []), (15, [])]; kernel_rfl; rfl; · (repeat (apply ef; rfl; rfl; (· intro w aY; go_simp <;> with_reducible rfl); try simp only [Act.put, q5, q6, q7])); exact ee
    exact kI; intro kI
    refine R2 16 (by kernel_rfl) (by rfl) kI fun K hK ap => ?_
    (have b1 := ap.cell 1; have b3 := ap.frozen 1; simp at b1; go_simp)
    refine hK.out _ _ (.inl rfl) (fun fK => ?_)
    clear hK K
    try simp only [Act.put, q5, q6, q7]
    apply TB 2 [(17, []), (18, [])]; kernel_rfl; rfl; · (repeat (apply ef; rfl; rfl; (· intro w aY; go_simp <;> with_reducible rfl); try simp only [Act.put, q5, q6, q7])); exact ee
    exact fK; intro fK
    refine R1 (i := 19) (o := ?acv) (by kernel_rfl) (by rfl) ?_
    intro K hK
    (have b2 := ap.cell 2; have b4 := ap.frozen 2; simp at b2; go_simp)
    refine hK.out _ _ (.inl rfl) (fun Bm => ?_)
    clear hK K
    try simp only [Act.put, q5, q6, q7]
    refine az (by kernel_rfl) ?_ _
    refine NoPanic.normal ?_
    have fA : Fr (ah M.A2) wr wA := by first | exact ((Fr.refl _ wr).drew.alloc _).ag jc | exact (((Fr.refl _ wr).drew.alloc _).alloc _).ag jc
    have fB : Fr (ah M.A3) wA wB := by first | exact yE | exact ((Fr.refl _ wA).alloc _).ag yE
    have qA : gA ∈ ah M.A2 ∨ wr.heap.size ≤ gA := Ir.imp id (fun e => by rw [e]; simp <;> omega)
    have qB : gB ∈ ah M.A3 ∨ wA.heap.size ≤ gB := Yk.imp id (fun e => by rw [e]; simp <;> omega)
    obtain ⟨r1, r2, r3⟩ := b8.yl HK.out (by simp [oO.out, lY.out]) Iq fA qA Yc fB qB
    rw [HA.out] at r1 r2 r3
    rw [gQ.1, gQ.2, ZB.out, ZA.out] at r1 r2
    have R1 := aa r1
    have R2 := aa r2
    have R3 := aa r3
    clear r1 r2 r3
    go_wp2_with fail
    go_roundg (gk - 1)
    case measure => have := HJ.out; omega
    case rel => exact ⟨j + 1, _, by have := HJ.out; omega, R1.out, eW.aM HE.out R3.out sg, sg.trans R2.out HE.out.2.1⟩
   exact aU.nil
  ·have t2 : (H.at_.length : Int) + m ≤ (H.at_.length : Int) + j := by omega
   obtain rfl : j = m := by omega
   go_wp2_with fail
   go_end0
   exact ⟨rfl, M, HK.out, HE.out, sg⟩
theorem OD {a b : Nat} (h : a = b) : Ending.returned (.pointer (some ⟨a, 0, none⟩)) = .returned (.pointer (some ⟨b, 0, none⟩)) := by rw [h]
def Hp.none_ : Hp := { items := [], at_ := [], score := [] }
theorem b8.new (w : World) : b8 ((w.alloc (.cells #[] 3)).alloc (.cells #[.slice none 0 0, .slice (some ⟨w.heap.size, 0, none⟩) 0 0, .slice none 0 0] 159))
  { a := w.heap.size + 1, A1 := none, c1 := 0, A2 := some ⟨w.heap.size, 0, none⟩, c2 := 0, A3 := none, c3 := 0 } Hp.none_ := by
 refine ⟨?_, Ints.nil _, ?_, Ints.nil _, by simp [eW.fp, ah], rfl⟩
 ·have := At.new (w.alloc (.cells #[] 3)) 159 #[.slice none 0 0, .slice (some ⟨w.heap.size, 0, none⟩) 0 0, .slice none 0 0]
  rwa [show (w.alloc (.cells #[] 3)).heap.size = w.heap.size + 1 from by simp] at this
 ·have : Ints (w.alloc (.cells #[] 3)) (some ⟨w.heap.size, 0, none⟩) 0 [] := World.ownsRow_lit w #[] 0 (bV _) (by simp [maxLen]) (by simp)
  exact this.alloc _
theorem LV (w : World) (n : Int) :
  Calls Tryz.prog 98 #[.int .i64 n] w fun e w' => ∃ L : eW, e = .returned (.pointer (some ⟨L.a, 0, none⟩)) ∧ b8 w' L (Hp.none_.dZ n) ∧ L.A2.isSome = true ∧ (∀ k, k ∈ L.fp → w.heap.size ≤ k) ∧ Fr [] w w' := by
 have HN := aa (b8.new w)
 go_enter Tryz.func98, Tryz.ntmps98
 go_wp2_with fail
 refine (xl _ _ _ HN.out rfl n (by simp [Hp.none_])).mono ?_
 rintro e w1 ⟨rfl, L', hL, hE, hF⟩
 have HL := aa hL
 have HE := aa hE
 have HF := aa hF
 clear hL hE hF
 go_wp2_with fail
 go_ret
 have hk : ∀ k, k ∈ eW.fp { a := w.heap.size + 1, A1 := none, c1 := 0, A2 := some ⟨w.heap.size, 0, none⟩, c2 := 0, A3 := none, c3 := 0 } → w.heap.size ≤ k := by
  intro k hk
  simp only [eW.fp, ah, Option.map_none, dc, Option.toList_none, eI, List.nil_append, dJ, ay, cG, or_false] at hk
  omega
 refine ⟨L', OD HE.out.1.symm, HL.out, HE.out.2.2 rfl, fun k h => ?_, ?_⟩
 ·rcases HE.out.2.1 k h with h | h
  ·exact hk k h
  ·exact aE (by simp; omega) h
 ·exact (((Fr.refl [] w).alloc _).alloc _).trans HF.out (fun k h => .inr (hk k h))
-- a nil heap
end Go.Proofs.YtpjbaobgnhjgoaaGreat
