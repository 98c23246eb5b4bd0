/-  -/
import Derived.Test.YtjchilcpflfcnaaRows
import Derived.Test.YtjchilcpflfcnaaShE
import Derived.Test.YtjchilcpflfcnaaSgR
import Derived.Carry
import Derived.Deep.Slices
import Derived.SizedLaws
import Derived.Lib.SmallJoins
import Derived.ChangeSame
import Derived.JoinedCond
set_option linter.unusedVariables false
namespace Go.Proofs.Ytjchilcpflfcnaa.bulks
theorem one_le {H : Type} (d : DataW H) : 1 ≤ Rows.uptoBulk d := by
 cases d with
 | lit l => cases l <;> simp [Rows.uptoBulk]
 | nil => simp [Rows.uptoBulk]
 | ptr d => simp [Rows.uptoBulk]
 | slice elems spare => simp [Rows.uptoBulk]
 | agg parts => simp [Rows.uptoBulk]
 | iface t d => simp [Rows.uptoBulk]
 | map entries => simp [Rows.uptoBulk]
 | held h => simp [Rows.uptoBulk]
theorem part_le {H : Type} {d : DataW H} {l : List (DataW H)} (h : d ∈ l) : Rows.uptoBulk d ≤ Rows.uptoBulkAll l := by
 induction l with
 | nil => cases h
 | cons x r ih =>
  simp only [Rows.uptoBulkAll]
  cases List.mem_cons.1 h with
  | inl e => subst e; omega
  | inr e => have := ih e; omega
theorem length_le {H : Type} (l : List (DataW H)) : l.length ≤ Rows.uptoBulkAll l := by
 induction l with
 | nil => simp [Rows.uptoBulkAll]
 | cons x r ih => have := one_le x; simp only [Rows.uptoBulkAll, List.length_cons]; omega
theorem slice_le {H : Type} (elems spare : List (DataW H)) : elems.length + spare.length + 1 ≤ Rows.uptoBulk (.slice elems spare) := by
 have h1 := length_le elems
 have h2 := length_le spare
 simp only [Rows.uptoBulk]
 omega
theorem slice_elems {H : Type} (elems spare : List (DataW H)) : Rows.uptoBulkAll elems + 1 ≤ Rows.uptoBulk (.slice elems spare) := by
 simp only [Rows.uptoBulk]
 omega
theorem bound {H : Type} {l : List (DataW H)} (hk : Rows.uptoSmall H l = true) : Rows.uptoBulkAll l ≤ 1048576 := by
 simpa [Rows.uptoSmall] using hk
end Go.Proofs.Ytjchilcpflfcnaa.bulks
namespace Go.Proofs.Ytjchilcpflfcnaa
open Go.ChangeShapes Go.WideShapes Go.ChangeAt Go.RowKit Go.Deep Go.Joins
theorem laid : laidOutB Try.prog = true := by kernel_rfl
theorem kept_arg {H : Type} {enc : TypeId × Value → H} {t : TypeId} (hr : Try.prog.readableRec t = true) (hrow : t < Try.prog.types.size) {W W' : World} {v : Value} {d : DataW H} {ps : List MemPlace} {sp : Nat → Bool}
  (h : DataW.Trod enc Try.prog W 0 (fun _ => true) true t v d ps) (hb : Below W.heap.size W W') (hlt : ∀ x ∈ ps, x.block < W.heap.size) (hs : ∀ p ∈ ps, sp p.block = true) :
  DataW.Trod enc Try.prog W' 0 sp true t v d ps :=
 WideElems.Trod_stays laid hr hrow h (fun x hx => hb.same (hlt x hx)) hs
section
variable {H : Type} {enc : TypeId × Value → H} {P : Program} {w : World} {base : Nat} {spare : Nat → Bool} {held : Bool}
theorem open_ints_arg {t e : TypeId} {v : Value} {d : DataW H} {ps : List MemPlace} (ht : P.underlying t = some (.slice e)) (he : P.underlying e = some (.int .i64)) (hc : P.cellsOf e = 1)
  (hv : Value.okWide P w .any 0 t v) (h : DataW.Trod enc P w base spare held t v d ps) :
  ∃ (A : Option Addr) (c : Nat) (xs : List Int), v = .slice A xs.length c ∧ Rd w A xs ∧ xs.length ≤ maxLen ∧ Ra xs ∧ (A = none → c = 0) ∧ xs.length ≤ c ∧ (xs.length = 0 ∨ ∃ elems sp, d = .slice elems sp ∧ elems.length = xs.length) := by
 obtain ⟨a0, len0, cap0, rfl⟩ := okWide_slice ht hv
 obtain ⟨n, hn⟩ := h
 rcases open_ints ht he hc hn with ⟨h0, _⟩ | ⟨a, len, cap, zs, h0, hb, hl, hm, hz, hx, hcell, hwf⟩
 ·have e1 : Value.slice a0 len0 cap0 = Value.slice none 0 0 := by simpa [Value.cells] using h0
  obtain ⟨rfl, rfl, rfl⟩ := Value.slice.inj e1
  exact ⟨none, 0, [], rfl, fun h => absurd h (Nat.lt_irrefl _), Nat.zero_le _, fun j hj => absurd hj (Nat.not_lt_zero _), fun _ => rfl, Nat.le_refl _, .inl rfl⟩
 ·have e1 : Value.slice a0 len0 cap0 = Value.slice (some a) len cap := by simpa [Value.cells] using h0
  obtain ⟨rfl, rfl, rfl⟩ := Value.slice.inj e1
  have hle : len0 ≤ zs.length := by rw [hz]; split <;> omega
  have hxl : (zs.take len0).length = len0 := by rw [List.length_take]; omega
  have hget : ∀ j, j < len0 → (zs.take len0)[j]! = zs.getD j 0 := by
   intro j hj
   have : j < zs.length := by omega
   simp [List.getElem!_eq_getElem?_getD, hj]
  refine ⟨some a, cap0, zs.take len0, by rw [hxl], fun hp => ?_, by rw [hxl]; omega, fun j hj => ?_, fun h => (by cases h), by rw [hxl]; omega, .inr ⟨lits .i64 (zs.take len0), lits .i64 (zs.drop len0), ?_, by simp [lits]⟩⟩
  ·rw [hxl] at hp
   obtain ⟨b, o, s⟩ := a
   have h00 := hcell 0 (by omega)
   have hs : s = none ∧ b < w.heap.size := by
    change w.cell? ⟨b, o, s⟩ = _ at h00
    unfold World.cell? at h00
    split at h00
    ·rename_i hh
     split at h00
     ·cases h00
     ·rename_i hsp
      exact ⟨by cases s <;> simp_all, (Array.getElem?_eq_some_iff.1 hh).1⟩
    ·cases h00
   obtain ⟨rfl, hbl⟩ := hs
   refine ⟨b, o, rfl, fun j hj => ?_⟩
   rw [hxl] at hj
   have := hcell j (by omega)
   rw [addr_add] at this
   rw [this, hget j hj]
  ·rw [hxl] at hj
   rw [hget j hj]
   have hm : zs.getD j 0 ∈ zs := by
    rw [List.getD_eq_getElem?_getD, List.getElem?_eq_getElem (by omega : j < zs.length)]
    exact List.getElem_mem _
   obtain ⟨r1, r2⟩ := Go.Joins.in64_of_wf (hwf _ hm)
   exact ⟨r1, r2⟩
  ·exact (Prod.mk.inj hx).1
end
section
variable {H : Type} {enc : TypeId × Value → H} {w : World} {base : Nat} {spare : Nat → Bool} {held : Bool}
theorem cellsOf_int : Try.prog.cellsOf 3 = 1 := by kernel_rfl
theorem cellsOf_ints : Try.prog.cellsOf 24 = 1 := by kernel_rfl
theorem plain_of {a : Addr} {v : Value} (h : w.cell? a = some v) : ∃ b o, a = ⟨b, o, none⟩ := by
 obtain ⟨b, o, s⟩ := a
 unfold World.cell? at h
 split at h
 ·split at h
  ·cases h
  ·rename_i hsp
   exact ⟨b, o, by cases s <;> simp_all⟩
 ·cases h
theorem add_0 (a : Addr) : a.add 0 = a := by unfold Addr.add; exact if_pos rfl
theorem add_pl (b o n : Nat) : (Addr.mk b o none).add n = ⟨b, o + n, none⟩ := by unfold Addr.add; split <;> simp_all
theorem ints_small {n : Nat} {cs : List Value} {x : DataW H × List MemPlace} (h : DataW.trod enc Try.prog w base spare held n 24 cs = some x) (hb : Rows.uptoBulk x.1 ≤ 1048576) :
  ∃ L : Ls, cs = [L.val] ∧ OkL w L ∧ L.l.length ≤ 1048576 := by
 rcases open_ints Try.underlying24 Try.underlying3 cellsOf_int h with ⟨e1, hx1⟩ | ⟨a, len, cap, zs, e1, hbb, hlc, hm, hz, hx1, hcell, hwf⟩
 ·exact ⟨⟨none, 0, []⟩, e1, ⟨fun h => absurd h (Nat.not_lt_zero _), fun j hj => absurd hj (Nat.not_lt_zero _), by simp, fun _ => ⟨rfl, rfl⟩⟩, by simp⟩
 ·have hle : len ≤ zs.length := by rw [hz]; split <;> omega
  have hxl : (zs.take len).length = len := by rw [List.length_take]; omega
  have hb1 : len ≤ 1048576 := by
   rw [hx1] at hb
   have := bulks.slice_le (H := H) (lits .i64 (zs.take len)) (lits .i64 (zs.drop len))
   simp only [lits, List.length_map, List.length_take, List.length_drop] at this hb
   omega
  refine ⟨⟨some a, cap, zs.take len⟩, by rw [e1]; simp only [Ls.val, hxl], ⟨fun hp => ?_, fun j hj => ?_, ?_, fun h => by cases h⟩, by rw [hxl]; exact hb1⟩
  ·rw [hxl] at hp
   obtain ⟨b, o, rfl⟩ := plain_of (hcell 0 (by omega))
   refine ⟨b, o, rfl, fun j hj => ?_⟩
   rw [hxl] at hj
   have := hcell j (by omega)
   rw [add_pl] at this
   rw [this]
   have hj2 : j < zs.length := by omega
   simp [List.getElem!_eq_getElem?_getD, hj]
  ·simp only at hj
   rw [hxl] at hj
   have hj2 : j < zs.length := by omega
   have := Go.Joins.in64_of_wf (hwf zs[j] (List.getElem_mem hj2))
   have e : (zs.take len)[j]! = zs[j] := by simp [List.getElem!_eq_getElem?_getD, hj, hj2]
   simp only
   rw [e]
   exact this
  ·simp only
   rw [hxl]
   omega
theorem range_part {len : Nat} {D : Nat → DataW H} {i : Nat} (hi : i < len) : Rows.uptoBulk (D i) ≤ Rows.uptoBulkAll ((List.range len).map D) :=
 bulks.part_le (List.mem_map.2 ⟨i, List.mem_range.2 hi, rfl⟩)
theorem get_rng {α : Type} [Inhabited α] {len j : Nat} {F : Nat → α} (hj : j < len) : ((List.range len).map F)[j]! = F j := by
 simp only [List.getElem!_eq_getElem?_getD, List.getElem?_map, List.getElem?_range hj, Option.map_some, Option.getD_some]
end
theorem returns_cond_sized {H : Type} {enc : TypeId × Value → H} {a : Assume} {C : Checked} {os : Os} {f : FuncId} {fn : Func} {s : OpenSpec} {k : (H : Type) → List (DataW H) → Bool} (hk : s.cond = some k) {F : Stop.Interp} {conds : List PathCond} {apart fresh handsOn again : Bool}
  (own : ownKnob C.prog.godebug = none) (started : os.Started) (noInit : C.prog.inits.idxOf? f = none) (hfn : C.prog.funcs[f]? = some fn)
  (witness : ∃ (w : World) (tape : Tape) (i : Input), w.os = os ∧ (w.forCall tape i).Shaped C.prog ∧ i.vars = [] ∧ Input.okWide C.prog (w.forCall tape i) .any w.heap.size f i ∧
   s.pre6 enc C.prog fn conds apart (w.forCall tape i).memory i.args ∧ a.holds C.prog (lone (Frame.enter C.prog f i.args .normal) [] (w.forCall tape i)))
  (contract : ∀ (W : World) (base : Nat) (args : Array Value) (ds gs : List (DataW H)) (before : List MemPlace),
   (∀ (j : Nat) t v, fn.params[j]? = some t → args[j]? = some v → Value.okWide C.prog W .any base t v) →
   DataW.Whole enc C.prog fn.params.toList s.vars apart W args.toList ds gs before →
   k H (ds ++ gs) = true →
   (DataW.weightsEach C.prog (fn.params.toList ++ s.bare.plain.varTypes C.prog) (ds ++ gs)).all (· ≤ reachBytes) = true →
   Calls C.prog f args W fun e W' => ∃ v, e = .returned v ∧ (s.at F).post enc C.prog fn apart fresh handsOn again W args v W') :
  ReturnsInHanded a C os f .any (s.pre6 enc C.prog fn conds apart) ((s.at F).post enc C.prog fn apart fresh handsOn again) := by
 refine returnsInHanded_of_calls own started noInit witness ?_
 intro w tape i _ _ _ hok hpre hholds
 obtain ⟨_, _, _, fn', hfn', _, _, _, _, hval⟩ := hok
 have e : fn' = fn := Option.some.inj (hfn'.symm.trans hfn)
 subst e
 obtain ⟨ds, gs, before, hw, hc, hkk⟩ := (OpenSpec.pre_some hk conds apart _ _).1 hpre.1
 have hz := hpre.2
 have hw' := DataW.Whole.of_heap (w' := w.forCall tape i) (by rfl) hw
 refine (contract (w.forCall tape i) w.heap.size i.args ds gs before hval hw' hkk (hz.weights hw)).mono fun e W' ⟨v, he, hp⟩ => ?_
 subst he
 exact ChangeSpec.post_blind hp
end Go.Proofs.Ytjchilcpflfcnaa
