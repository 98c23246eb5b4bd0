/- Regions that draw their order, whose callees read and make new memory only: one walk serves every order. Plain lemmas on worlds that have grown. -/
import Derived.Test.YtbjccgahmgpkjaaRead
import Derived.BigQuiet
import Derived.Deep.LoopGhost
import Derived.Deep.DeepCutAuto
import Derived.WalkLawsBesides
namespace Go.Proofs.Ytbjccgahmgpkjaa
open Go.RowKit
set_option linter.unusedVariables false

/-- A world that has grown out of w: what was there is as it was. -/
structure Ext (w : World) where
  v : World
  fr : Fr [] w v

instance (w : World) : Nonempty (Ext w) := ⟨⟨w, Fr.refl [] w⟩⟩
instance (w : World) : Inhabited (Ext w) := ⟨⟨w, Fr.refl [] w⟩⟩

theorem lt_of_cell {w : World} {p : Addr} {v : Value} (h : w.cell? p = some v) : p.block < w.heap.size := by
  rcases Nat.lt_or_ge p.block w.heap.size with hl | hl
  · exact hl
  · unfold World.cell? at h
    rw [Array.getElem?_eq_none hl] at h
    cases h
theorem Fr.cell {w w' : World} (h : Fr [] w w') {p : Addr} (hp : p.block < w.heap.size) : w'.cell? p = w.cell? p := World.cell?_of_block (h.block p.block hp (by simp))
theorem Fr.cellS {w w' : World} {p : Addr} {v : Value} (h : Fr [] w w') (hc : w.cell? p = some v) : w'.cell? p = some v := by rw [h.cell (lt_of_cell hc)]; exact hc
theorem Ext.cell {w : World} {p : Addr} {v : Value} (hc : w.cell? p = some v) (u : Ext w) : u.v.cell? p = some v := u.fr.cellS hc
theorem At.keep {w w' : World} {g : Nat} {t : TypeId} {cs : Array Value} (h : At w g t cs) (hf : Fr [] w w') : At w' g t cs := hf.at_ h (by simp)
theorem Rd.keep {w w' : World} {A : Option Addr} {xs : List Int} (h : Rd w A xs) (hf : Fr [] w w') : Rd w' A xs := by
  intro h0
  obtain ⟨b, o, hA, hx⟩ := h h0
  exact ⟨b, o, hA, fun j hj => hf.cellS (hx j hj)⟩

theorem wp_region_ext {P : Program} {id : Nat} {Q : Exit → Act → World → Prop} {a : Act} {w : World} {l : List Oper} (hm : P.follows .mixedOrders = true) (hB : Region.lexB .any l.toArray = true)
    (h : wpQuiet P l.toArray (fun w' => ∃ u : Ext w, w' = u.v) (fun a' => ∀ w', (∃ u : Ext w, w' = u.v) → Q .normal a' w') l a) : (Code.region id l.toArray true).wp P Q a w :=
  wp_region_quiet (C := fun w' => ∃ u : Ext w, w' = u.v) hm hB ⟨⟨_, (Fr.refl [] w).drew⟩, rfl⟩ (by simpa using h)

theorem call_ext {P : Program} {f : FuncId} {args : Array Value} {w : World} {u : Ext w} {v : Value}
    (h : Calls P f args u.v fun e w' => e = .returned v ∧ Fr [] u.v w') : Calls P f args u.v fun e w'' => e = .returned v ∧ ∃ x : Ext w, w'' = x.v :=
  h.mono fun _ w' ⟨he, hf⟩ => ⟨he, ⟨w', u.fr.then_ hf⟩, rfl⟩
theorem call_same {P : Program} {f : FuncId} {args : Array Value} {w : World} {u : Ext w} {v : Value}
    (h : Calls P f args u.v fun e w' => e = .returned v ∧ u.v = w') : Calls P f args u.v fun e w'' => e = .returned v ∧ ∃ x : Ext w, w'' = x.v :=
  h.mono fun _ w' ⟨he, hf⟩ => ⟨he, u, hf.symm⟩

theorem Fr.same {w w' : World} (h : w = w') : Fr [] w w' := h ▸ Fr.refl [] w
theorem Fr.of_drewN {w w' : World} (h : ∃ n, w.drewN n = w') : Fr [] w w' := by
  obtain ⟨n, rfl⟩ := h
  exact (Fr.refl [] w).drewN n
theorem Fr.made {w w' : World} {S : List Nat} (h : Fr S w w') (hs : ∀ k, k ∈ S → w.heap.size ≤ k) : Fr [] w w' := h.mono fun k hk => .inr (hs k hk)

end Go.Proofs.Ytbjccgahmgpkjaa
