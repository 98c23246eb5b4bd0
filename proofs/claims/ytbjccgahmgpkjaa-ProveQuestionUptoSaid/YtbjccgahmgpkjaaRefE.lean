/- What a circuit that may be is, plainly; the reference's Check walked. -/
import Derived.Test.YtbjccgahmgpkjaaSl
import Derived.Test.YtbjccgahmgpkjaaRefD
namespace Go.Proofs.Ytbjccgahmgpkjaa
open Go.RowKit
set_option linter.unusedVariables false

def rstB (x : T3) : Bool := decide (x.c = 0) || decide (x.c = 1) || decide (x.c = x.a)
def latB (C : Pc) (x : T3) : Bool := rstB x && litB C x.b
/-- An and, behind the one ahead of it. -/
def andB (C : Pc) (p : Option Int) (x : T3) : Bool := (match p with | none => true | some q => decide (q < x.a)) && decide (x.b < x.a) && decide (x.c < x.a) && litB C x.b && litB C x.c
def prv (l : List T3) (j : Nat) : Option Int := if j = 0 then none else some (l[j - 1]!).a
def ownL (C : Pc) : List Int := C.ins ++ C.lat.map (fun x => x.a) ++ C.ands.map (fun x => x.a)
def ownB (C : Pc) (l : List Int) (i : Nat) : Bool := decide (2 ≤ l[i]!) && decide (l[i]! % 2 = 0) && decide (l[i]! ≤ 2 * C.mx) && !decide (l[i]! ∈ l.take i)

/-- A circuit that may be. -/
structure Valid (C : Pc) : Prop where
  m0 : 0 ≤ C.mx
  m1 : C.mx ≤ 2048
  i : C.ins.length ≤ 64
  l : C.lat.length ≤ 64
  n : namesB C = true
  lat : ∀ j : Nat, j < C.lat.length → latB C C.lat[j]! = true
  ands : ∀ j : Nat, j < C.ands.length → andB C (prv C.ands j) C.ands[j]! = true
  own : ∀ j : Nat, j < (ownL C).length → ownB C (ownL C) j = true
  o : allB C C.outs = true
  b : allB C C.bads = true
  v : allB C C.invs = true

/-- What Check answers. -/
def ChkP (C : Pc) (w : World) (e : Ending) (w' : World) : Prop := ((e = .returned (.int .i64 0) ∧ Valid C) ∨ (e = .returned (.int .i64 9) ∧ ¬ Valid C)) ∧ Fr [] w w'
theorem chk_no {C : Pc} {w w' : World} (h : ¬ Valid C) (hf : Fr [] w w') : ChkP C w (.returned (.int .i64 9)) w' := ⟨.inr ⟨rfl, h⟩, hf⟩
theorem chk_yes {C : Pc} {w w' : World} (h : Valid C) (hf : Fr [] w w') : ChkP C w (.returned (.int .i64 0)) w' := ⟨.inl ⟨rfl, h⟩, hf⟩

theorem take_snoc {α : Type} [Inhabited α] (l : List α) (k : Nat) (h : k < l.length) : l.take (k + 1) = l.take k ++ [l[k]!] := by
  rw [List.take_succ_eq_append_getElem h]
  simp [h]
theorem ints_take {w : World} {A : Option Addr} {c : Nat} {xs ys : List Int} (h : Ints w A c xs) (e : xs = ys) : Ints w A c ys := e ▸ h
theorem in_bounds_mul (x : Int) (h0 : 0 ≤ x) (h1 : x ≤ 2048) : True := trivial
theorem tmod2 (x : Int) (h : 2 ≤ x) : x.tmod 2 = x % 2 := Int.tmod_eq_emod_of_nonneg (by omega)

/-- The state of the checker's loops: the world, and the row of what is defined so far. -/
structure Ck (w wr : World) (H : Hd) (C : Pc) (A : Option Addr) (c : Nat) (l : List Int) : Prop where
  cx : Cx w wr H C
  own : Ints wr A c l
  new : ∀ k, k ∈ blks A → w.heap.size < k
theorem Ck.keep {w wr w' : World} {H : Hd} {C : Pc} {A : Option Addr} {c : Nat} {l : List Int} (h : Ck w wr H C A c l) (hf : Fr [] wr w') : Ck w w' H C A c l :=
  ⟨h.cx.keep hf, h.own.fr hf (fun _ _ => by simp), h.new⟩
theorem Ck.grow {w wr w' : World} {H : Hd} {C : Pc} {A A' : Option Addr} {c c' : Nat} {l l' : List Int} (h : Ck w wr H C A c l) (hi : Ints w' A' c' l') (hf : Fr (blks A) wr w') (hg : ∀ k, k ∈ blks A' → k ∈ blks A ∨ k = wr.heap.size) (hlt : w.heap.size < wr.heap.size) : Ck w w' H C A' c' l' :=
  ⟨⟨h.cx.fr.trans hf (fun x hx => .inr (Nat.le_of_lt (h.new x hx))), hf.at_ h.cx.bx (fun hm => Nat.lt_irrefl _ (h.new _ hm))⟩, hi, fun k hk => by
    rcases hg k hk with h1 | h1
    · exact h.new k h1
    · omega⟩
theorem Cx.lt {w wr : World} {H : Hd} {C : Pc} (h : Cx w wr H C) : w.heap.size < wr.heap.size := h.bx.lt

def LatTo (C : Pc) (k : Nat) : Prop := ∀ j : Nat, j < k → latB C C.lat[j]! = true
def AndTo (C : Pc) (k : Nat) : Prop := ∀ j : Nat, j < k → andB C (prv C.ands j) C.ands[j]! = true
def OwnTo (C : Pc) (l : List Int) (k : Nat) : Prop := ∀ j : Nat, j < k → ownB C l j = true
theorem LatTo.zero (C : Pc) : LatTo C 0 := fun j hj => absurd hj (Nat.not_lt_zero _)
theorem AndTo.zero (C : Pc) : AndTo C 0 := fun j hj => absurd hj (Nat.not_lt_zero _)
theorem OwnTo.zero (C : Pc) (l : List Int) : OwnTo C l 0 := fun j hj => absurd hj (Nat.not_lt_zero _)
theorem LatTo.step {C : Pc} {k : Nat} (h : LatTo C k) (h1 : latB C C.lat[k]! = true) : LatTo C (k + 1) := fun j hj => by
  by_cases e : j = k
  · subst e; exact h1
  · exact h j (by omega)
theorem AndTo.step {C : Pc} {k : Nat} (h : AndTo C k) (h1 : andB C (prv C.ands k) C.ands[k]! = true) : AndTo C (k + 1) := fun j hj => by
  by_cases e : j = k
  · subst e; exact h1
  · exact h j (by omega)
theorem OwnTo.step {C : Pc} {l : List Int} {k : Nat} (h : OwnTo C l k) (h1 : ownB C l k = true) : OwnTo C l (k + 1) := fun j hj => by
  by_cases e : j = k
  · subst e; exact h1
  · exact h j (by omega)
theorem no_lat {C : Pc} {k : Nat} (hk : k < C.lat.length) (h : latB C C.lat[k]! = false) : ¬ Valid C := fun hv => by
  have := hv.lat k hk
  rw [h] at this; cases this
theorem no_and {C : Pc} {k : Nat} (hk : k < C.ands.length) (h : andB C (prv C.ands k) C.ands[k]! = false) : ¬ Valid C := fun hv => by
  have := hv.ands k hk
  rw [h] at this; cases this
theorem no_own {C : Pc} {k : Nat} (hk : k < (ownL C).length) (h : ownB C (ownL C) k = false) : ¬ Valid C := fun hv => by
  have := hv.own k hk
  rw [h] at this; cases this

end Go.Proofs.Ytbjccgahmgpkjaa
