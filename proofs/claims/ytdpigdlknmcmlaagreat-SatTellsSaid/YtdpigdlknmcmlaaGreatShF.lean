/-  -/
import Derived.Test.YtdpigdlknmcmlaaGreatRows
import Derived.Test.YtdpigdlknmcmlaaGreatShE
import Derived.Test.YtdpigdlknmcmlaaGreatSgR
import Derived.Carry
import Derived.Deep.Slices
import Derived.SizedLaws
import Derived.Lib.SmallJoins
import Derived.ChangeSame
import Derived.JoinedCond
/-
 FOR A PROOF OF AN '..UptoSaid': WHAT THE BOUND GIVES. Copy it as <Name>Bulk.lean (put your seat's Name for YtdpigdlknmcmlaaGreat, the bound of 'uptoSmall' for 1048576), name it in GOCLAIM.json's 'order' behind <Name>Rows. By an AI agent, Sun Nov 15 2026. No person has read it. No macro, syntax, notation, axiom, sorry.
-/
namespace Go.Proofs.YtdpigdlknmcmlaaGreat.bulks

end Go.Proofs.YtdpigdlknmcmlaaGreat.bulks
/- A formula among the arguments, opened to its cells where what is read is of small bulk. -/
namespace Go.Proofs.YtdpigdlknmcmlaaGreat
open Go.ChangeShapes Go.WideShapes Go.ChangeAt Go.RowKit Go.Deep Go.Joins
set_option linter.unusedVariables false

theorem laid : laidOutB Tryz.prog = true := by kernel_rfl
theorem kept_arg {H : Type} {enc : TypeId × Value → H} {t : TypeId} (hr : Tryz.prog.readableRec t = true) (hrow : t < Tryz.prog.types.size) {W W' : World} {v : Value} {d : DataW H} {ps : List MemPlace} {sp : Nat → Bool}
  (h : DataW.Trod enc Tryz.prog W 0 (fun _ => true) true t v d ps) (hb : Below W.heap.size W W') (hlt : ∀ x ∈ ps, x.block < W.heap.size) (hs : ∀ p ∈ ps, sp p.block = true) :
  DataW.Trod enc Tryz.prog W' 0 sp true t v d ps :=
 WideElems.Trod_stays laid hr hrow h (fun x hx => hb.same (hlt x hx)) hs

section
variable {H : Type} {enc : TypeId × Value → H} {P : Program} {w : World} {base : Nat} {spare : Nat → Bool} {held : Bool}

theorem open_ints_arg {t e : TypeId} {v : Value} {d : DataW H} {ps : List MemPlace} (ht : P.underlying t = some (.slice e)) (he : P.underlying e = some (.int .i64)) (hc : P.cellsOf e = 1)
  (hv : Value.okWide P w .any 0 t v) (h : DataW.Trod enc P w base spare held t v d ps) :
  ∃ (A : Option Addr) (c : Nat) (xs : List Int), v = .slice A xs.length c ∧ Rd w A xs ∧ xs.length ≤ maxLen ∧ Ra xs ∧ (A = none → c = 0) ∧ xs.length ≤ c ∧ (xs.length = 0 ∨ ∃ elems sp, d = .slice elems sp ∧ elems.length = xs.length) := by
 obtain ⟨a0, len0, cap0, rfl⟩ := okWide_slice ht hv
 obtain ⟨n, hn⟩ := h
 rcases open_ints ht he hc hn with ⟨h0, _⟩ | ⟨a, len, cap, zs, h0, hb, hl, hm, hz, hx, hcell, hwf⟩
 ·have e1 : Value.slice a0 len0 cap0 = Value.slice none 0 0 := by simpa [Value.cells] using h0
  obtain ⟨rfl, rfl, rfl⟩ := Value.slice.inj e1
  exact ⟨none, 0, [], rfl, fun h => absurd h (Nat.lt_irrefl _), Nat.zero_le _, fun j hj => absurd hj (Nat.not_lt_zero _), fun _ => rfl, Nat.le_refl _, .inl rfl⟩
 ·have e1 : Value.slice a0 len0 cap0 = Value.slice (some a) len cap := by simpa [Value.cells] using h0
  obtain ⟨rfl, rfl, rfl⟩ := Value.slice.inj e1
  have hle : len0 ≤ zs.length := by rw [hz]; split <;> omega
  have hxl : (zs.take len0).length = len0 := by rw [List.length_take]; omega
  have hget : ∀ j, j < len0 → (zs.take len0)[j]! = zs.getD j 0 := by
   intro j hj
   have : j < zs.length := by omega
   simp [List.getElem!_eq_getElem?_getD, hj]
  refine ⟨some a, cap0, zs.take len0, by rw [hxl], fun hp => ?_, by rw [hxl]; omega, fun j hj => ?_, fun h => (by cases h), by rw [hxl]; omega, .inr ⟨lits .i64 (zs.take len0), lits .i64 (zs.drop len0), ?_, by simp [lits]⟩⟩
  ·rw [hxl] at hp
   obtain ⟨b, o, s⟩ := a
   have h00 := hcell 0 (by omega)
   have hs : s = none ∧ b < w.heap.size := by
    change w.cell? ⟨b, o, s⟩ = _ at h00
    unfold World.cell? at h00
    split at h00
    ·rename_i hh
     split at h00
     ·cases h00
     ·rename_i hsp
      exact ⟨by cases s <;> simp_all, (Array.getElem?_eq_some_iff.1 hh).1⟩
    ·cases h00
   obtain ⟨rfl, hbl⟩ := hs
   refine ⟨b, o, rfl, fun j hj => ?_⟩
   rw [hxl] at hj
   have := hcell j (by omega)
   rw [addr_add] at this
   rw [this, hget j hj]
  ·rw [hxl] at hj
   rw [hget j hj]
   have hm : zs.getD j 0 ∈ zs := by
    rw [List.getD_eq_getElem?_getD, List.getElem?_eq_getElem (by omega : j < zs.length)]
    exact List.getElem_mem _
   obtain ⟨r1, r2⟩ := Go.Joins.in64_of_wf (hwf _ hm)
   exact ⟨r1, r2⟩
  ·exact (Prod.mk.inj hx).1
end

section
variable {H : Type} {enc : TypeId × Value → H} {w : World} {base : Nat} {spare : Nat → Bool} {held : Bool}
theorem cellsOf_formula : Tryz.prog.cellsOf 24 = 2 := by kernel_rfl
theorem cellsOf_int : Tryz.prog.cellsOf 3 = 1 := by kernel_rfl
theorem cellsOf_ints : Tryz.prog.cellsOf 25 = 1 := by kernel_rfl
theorem cellsOf_lists : Tryz.prog.cellsOf 22 = 1 := by kernel_rfl
theorem plain_of {a : Addr} {v : Value} (h : w.cell? a = some v) : ∃ b o, a = ⟨b, o, none⟩ := by
 obtain ⟨b, o, s⟩ := a
 unfold World.cell? at h
 split at h
 ·split at h
  ·cases h
  ·rename_i hsp
   exact ⟨b, o, by cases s <;> simp_all⟩
 ·cases h
theorem add_pl (b o n : Nat) : (Addr.mk b o none).add n = ⟨b, o + n, none⟩ := by unfold Addr.add; split <;> simp_all
theorem get_rng {α : Type} [Inhabited α] {len j : Nat} {F : Nat → α} (hj : j < len) : ((List.range len).map F)[j]! = F j := by
 simp only [List.getElem!_eq_getElem?_getD, List.getElem?_map, List.getElem?_range hj, Option.map_some, Option.getD_some]

end

end Go.Proofs.YtdpigdlknmcmlaaGreat
/- A formula among the arguments, of any size, opened to its cells. -/
namespace Go.Proofs.YtdpigdlknmcmlaaGreat
open Go.ChangeShapes Go.WideShapes Go.ChangeAt Go.RowKit Go.Deep Go.Joins
set_option linter.unusedVariables false

section
variable {H : Type} {enc : TypeId × Value → H} {w : World} {base : Nat} {spare : Nat → Bool} {held : Bool}
theorem bytesOf_int : Tryz.prog.bytesOf 3 = 8 := by kernel_rfl
theorem mem_weightsAll {P : Program} {e : TypeId} {d : DataW H} {n : Nat} (hn : n ∈ d.weights P e) : ∀ {ds : List (DataW H)}, d ∈ ds → n ∈ DataW.weightsAll P e ds
 | [], h => by cases h
 | a :: r, h => by
  rw [DataW.weightsAll]
  rcases List.mem_cons.1 h with h1 | h1
  ·rw [← h1]
   exact List.mem_append_left _ hn
  ·exact List.mem_append_right _ (mem_weightsAll hn h1)
theorem ints_wide {n : Nat} {cs : List Value} {x : DataW H × List MemPlace} (h : DataW.trod enc Tryz.prog w base spare held n 25 cs = some x) (hb : ∀ n ∈ x.1.weights Tryz.prog 25, n ≤ reachBytes) :
  ∃ L : Ls, cs = [L.val] ∧ OkL w L := by
 rcases open_ints Tryz.underlying25 Tryz.underlying3 cellsOf_int h with ⟨e1, hx1⟩ | ⟨a, len, cap, zs, e1, hbb, hlc, hm, hz, hx1, hcell, hwf⟩
 ·exact ⟨⟨none, 0, []⟩, e1, fun h => absurd h (Nat.not_lt_zero _), fun j hj => absurd hj (Nat.not_lt_zero _), by simp, fun _ => ⟨rfl, rfl⟩⟩
 ·have hle : len ≤ zs.length := by rw [hz]; split <;> omega
  have hxl : (zs.take len).length = len := by rw [List.length_take]; omega
  refine ⟨⟨some a, cap, zs.take len⟩, by rw [e1]; simp only [Ls.val, hxl], fun hp => ?_, fun j hj => ?_, ?_, fun h => by cases h⟩
  ·rw [hxl] at hp
   obtain ⟨b, o, rfl⟩ := plain_of (hcell 0 (by omega))
   refine ⟨b, o, rfl, fun j hj => ?_⟩
   rw [hxl] at hj
   have := hcell j (by omega)
   rw [add_pl] at this
   rw [this]
   have hj2 : j < zs.length := by omega
   simp [List.getElem!_eq_getElem?_getD, hj]
  ·simp only at hj
   rw [hxl] at hj
   have hj2 : j < zs.length := by omega
   have := Go.Joins.in64_of_wf (hwf zs[j] (List.getElem_mem hj2))
   have e : (zs.take len)[j]! = zs[j] := by simp [List.getElem!_eq_getElem?_getD, hj, hj2]
   simp only
   rw [e]
   exact this
  ·have h1 := hb ((len + (zs.length - len)) * 8) (by
    rw [hx1]
    simp [DataW.weights, Tryz.underlying25, bytesOf_int, lits]
    omega)
   simp only
   rw [hxl]
   simp only [reachBytes] at h1
   omega
theorem lists_wide {n : Nat} {cs : List Value} {x : DataW H × List MemPlace} (h : DataW.trod enc Tryz.prog w base spare held n 22 cs = some x) (hb : ∀ n ∈ x.1.weights Tryz.prog 22, n ≤ reachBytes) :
  ∃ (A : Option Addr) (c : Nat) (hs : List Ls), cs = [.slice A hs.length c] ∧ RdL w A hs ∧ hs.length ≤ maxLen := by
 rcases open_slice1 Tryz.underlying22 cellsOf_ints h with ⟨h0, _⟩ | ⟨a, len, cap, m, n', V, D, Pl, h0, hbb, hl, hm, hmm, hxe, hx⟩
 ·exact ⟨none, 0, [], h0, ⟨fun h => absurd h (Nat.not_lt_zero _), fun j hj => absurd hj (Nat.not_lt_zero _)⟩, by simp [maxLen]⟩
 ·have hlm : len ≤ m := by rw [hmm]; split <;> omega
  have hcells : ∀ i, i < len → ∃ L : Ls, w.cell? (a.add i) = some L.val ∧ OkL w L := by
   intro i hi
   obtain ⟨hc, htr⟩ := hx i (by omega)
   obtain ⟨L, h1, h2⟩ := ints_wide htr (fun n hn => hb n (by
    rw [hxe]
    simp only [DataW.weights, Tryz.underlying22]
    exact List.mem_cons_of_mem _ (List.mem_append_left _ (mem_weightsAll hn (List.mem_map.2 ⟨i, List.mem_range.2 hi, rfl⟩)))))
   simp only [List.cons.injEq, and_true] at h1
   exact ⟨L, by rw [hc, h1], h2⟩
  obtain ⟨F, hF⟩ := choose_lt hcells
  refine ⟨some a, cap, (List.range len).map F, by simp [h0], ⟨fun hpos => ?_, fun j hj => ?_⟩, by simp; omega⟩
  ·simp only [List.length_map, List.length_range] at hpos
   have h00 := (hF 0 hpos).1
   obtain ⟨b, o, rfl⟩ := plain_of h00
   refine ⟨b, o, rfl, fun j hj => ?_⟩
   simp only [List.length_map, List.length_range] at hj
   rw [get_rng hj]
   have := (hF j hj).1
   rwa [add_pl] at this
  ·simp only [List.length_map, List.length_range] at hj
   rw [get_rng hj]
   exact (hF j hj).2
theorem formula_wide {n : Nat} {cs : List Value} {x : DataW H × List MemPlace} (h : DataW.trod enc Tryz.prog w base spare held n 24 cs = some x) (hb : ∀ n ∈ x.1.weights Tryz.prog 24, n ≤ reachBytes) :
  ∃ (v : Int) (A : Option Addr) (c : Nat) (hs : List Ls), cs = [.int .i64 v, .slice A hs.length c] ∧ R64 v ∧ RdL w A hs ∧ hs.length ≤ maxLen := by
 obtain ⟨y0, y1, n2, hxd, hlen, g0, g1⟩ := trod_struct2 Tryz.underlying24 h
 rw [cellsOf_formula] at hlen
 rw [hxd] at hb
 simp only [cellsOf_int, cellsOf_lists] at g0 g1
 match cs, hlen with
 | [v0, v1], _ =>
  simp only [List.drop_zero, List.drop_succ_cons, List.take_succ_cons, List.take_zero] at g0 g1
  obtain ⟨z0, e0, _, w0⟩ := DataW.trod_int Tryz.underlying3 g0
  obtain ⟨A, c, hs, e1, h1, h2⟩ := lists_wide g1 (fun n hn => hb n (by
   simp only [DataW.weights, Tryz.underlying24]
   simp only [List.map_cons, List.map_nil, DataW.weightsEach, List.append_nil]
   exact List.mem_append_right _ hn))
  simp only [List.cons.injEq, and_true] at e0 e1
  subst e0 e1
  obtain ⟨r1, r2⟩ := Go.Joins.in64_of_wf w0
  exact ⟨z0, A, c, hs, rfl, ⟨r1, r2⟩, h1, h2⟩
end
end Go.Proofs.YtdpigdlknmcmlaaGreat
