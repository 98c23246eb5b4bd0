/- The checker's map of what is defined; need, define, known and all walked. -/
import Derived.Test.YtbjccgahmgpkjaaCirB
import Derived.Maps.OwnOps
import Derived.Maps.OwnSet
import Derived.Shelf.Abstract
namespace Go.Proofs.Ytbjccgahmgpkjaa
open Go.RowKit
set_option linter.unusedVariables false

theorem wf64 {v : Int} (h : R64 v) : (Lit.int IntKind.i64 v).wf = true := by
  unfold R64 at h
  simp [Lit.wf, IntKind.min, IntKind.max, IntKind.signed, IntKind.bits]
  omega
theorem keyI {v : Int} (h : R64 v) : keyOf Try.prog 3 (.int .i64 v) = some (.int .i64 v) := Maps.keyOf_int_mk Try.underlying3 (wf64 h)
theorem zeroS (w : World) : (zeroValue 9).run Try.prog w = .ok (.string ⟨#[]⟩) w := by kernel_rfl
theorem elemS_inv {P : Program} {e : TypeId} (he : P.underlying e = some .string) {v : Value} {z : DataW Unit × List MemPlace} (h : plainElem P e v = some z) : ∃ s : ByteArray, v = .string s ∧ z = (.lit (.string s.data.toList), []) := by
  unfold plainElem at h
  rw [he] at h
  cases v <;> simp at h
  obtain ⟨_, rfl⟩ := h
  exact ⟨_, rfl, rfl⟩

/-- Block b is a map of at most n entries that tells f. -/
def Met (w : World) (b n : Nat) (f : Int → List UInt8) : Prop := ∃ D : DataW Unit, w.ownsMap Try.prog 3 (plainElem Try.prog 9) b n D ∧ ∀ v, R64 v → D.atKey (.int .i64 v) (.lit (.string [])) = .lit (.string (f v))
theorem Met.lt {w : World} {b n : Nat} {f : Int → List UInt8} (h : Met w b n f) : b < w.heap.size := by
  obtain ⟨D, h1, _⟩ := h
  exact h1.lt
theorem Met.fr {w w' : World} {S : List Nat} {b n : Nat} {f : Int → List UInt8} (h : Met w b n f) (hf : Fr S w w') (hn : b ∉ S) : Met w' b n f := by
  have hlt := h.lt
  obtain ⟨D, ⟨es, clock, hb, F, hs, hD⟩, h2⟩ := h
  exact ⟨D, ⟨es, clock, (hf.block b hlt hn).trans hb, F, hs, hD⟩, h2⟩
theorem Met.keep {w w' : World} {b n : Nat} {f : Int → List UInt8} (h : Met w b n f) (hf : Fr [] w w') : Met w' b n f := h.fr hf (by simp)
theorem Met.new (w : World) : Met (w.alloc (.map #[] 0)) w.heap.size 0 (fun _ => []) :=
  ⟨.map [], World.ownsMap_made w _ _ _, fun v _ => rfl⟩
theorem look_gen {P : Program} {k e t : TypeId} (K : Maps.Keyed P k) (ht : P.underlying t = some (.map k e)) (he : P.underlying e = some .string) {w : World} (hz : (zeroValue e).run P w = .ok (.string ⟨#[]⟩) w) {b n : Nat} {D : DataW Unit}
    (h1 : w.ownsMap P k (plainElem P e) b n D) {key : Value} {kl : Lit} (hkey : keyOf P k key = some kl) {s : List UInt8} (h2 : D.atKey kl (.lit (.string [])) = .lit (.string s)) :
    (Instr.lookup t (.map (some b)) key false).run P w = .ok (.string ⟨s.toArray⟩) w := by
  obtain ⟨x, ps, hr, hx⟩ := h1.lookup K ht hz (plainElem_string he (by simp [maxLen, ByteArray.size])) hkey
  obtain ⟨y, rfl, hz⟩ := elemS_inv he hx
  have h4 := (Prod.mk.inj hz).1
  refine hr.trans ?_
  have h5 : (DataW.lit (H := Unit) (.string y.data.toList)) = .lit (.string s) := by rw [← h4]; exact h2
  injection h5 with h5
  injection h5 with h5
  rw [← h5]
theorem Met.look {w : World} {b n : Nat} {f : Int → List UInt8} (h : Met w b n f) {v : Int} (hv : R64 v) :
    (Instr.lookup 96 (.map (some b)) (.int .i64 v) false).run Try.prog w = .ok (.string ⟨(f v).toArray⟩) w := by
  obtain ⟨D, h1, h2⟩ := h
  exact look_gen (Maps.int_keyed Try.underlying3) Try.underlying96 Try.underlying9 (zeroS w) h1 (keyI hv) (h2 v hv)
theorem put_at {D : DataW Unit} (hD : Maps.IsMap D) {v x : Int} {d : DataW Unit} {f : Int → List UInt8} {s : List UInt8} (hd : d = .lit (.string s)) (h : R64 x → D.atKey (.int .i64 x) (.lit (.string [])) = .lit (.string (f x))) (hx : R64 x) :
    (D.put (.int .i64 v) d).atKey (.int .i64 x) (.lit (.string [])) = .lit (.string (if x = v then s else f x)) := by
  by_cases e : x = v
  · subst e
    rw [if_pos rfl, Maps.atKey_put_same hD (by simp [WideAt.IsKeyLit]), hd]
  · rw [if_neg e, Maps.atKey_put_other (by simpa using e), h hx]

/-- m[v] = s. -/
theorem wpList_met (w : World) {ops : Array Oper} {rest : List Oper} {o : Oper} {a : Act} {Q : Exit → Act → World → Prop} (hg : o.guard = none) (m x y : Operand) (hop : o.op = Op.mapUpdate 96 m x y)
    (b n : Nat) (f : Int → List UInt8) (hm : a.eval m = .map (some b)) (h : Met w b n f) (hn : n < maxLen) (v : Int) (hx : a.eval x = .int .i64 v) (hv : R64 v) (s : ByteArray) (hy : a.eval y = .string s) (hs : s.size ≤ maxLen)
    (hK : ∀ w', Met w' b (n + 1) (fun x => if x = v then s.data.toList else f x) → Fr [b] w w' → wpList Try.prog ops Q rest (a.put o.dst undef) w') :
    wpList Try.prog ops Q (o :: rest) a w := by
  obtain ⟨D, h1, h2⟩ := h
  refine wpList_mapUpdate_own w hg m x y 96 hop 3 9 (Maps.int_keyed Try.underlying3) Try.underlying96 _ b n D hm h1 hn _ _ (.int .i64 v) hx hy (keyI hv) (.lit (.string s.data.toList)) []
    (plainElem_string Try.underlying9 hs) ?_
  intro w' g1 g2
  exact hK w' ⟨_, g1, fun x hx => put_at h1.isMap rfl (fun hr => h2 x hr) hx⟩ ((Fr.refl _ w).grown g2 (fun k hk => by cases hk; exact .inl (by simp)))

end Go.Proofs.Ytbjccgahmgpkjaa
