/- Two solvers to which the same is said tell the same: 'SatSame' answers true at every formula and list of assumptions of bulk at most 1048576, and leaves all memory that was there as it was. Its condition: that bulk. -/
import Derived.Test.YtdpigdlknmcmlaaSgX
namespace Go.Proofs.Ytdpigdlknmcmlaa.satSame
open Go.ChangeShapes Go.WideShapes Go.ChangeAt Go.RowKit Go.Deep
set_option linter.unusedVariables false

theorem own : ownKnob Try.prog.godebug = none := by kernel_rfl

set_option maxRecDepth 100000 in
theorem contract (H : Type) (enc : TypeId × Value → H) (W : World) (base : Nat) (args : Array Value) (ds gs : List (DataW H)) (before : List MemPlace)
    (hval0 : ∀ (j : Nat) t v, Try.f4.params[j]? = some t → args[j]? = some v → Value.okWide Try.prog W .any base t v)
    (hW : DataW.Whole enc Try.prog Try.f4.params.toList Rows.satSameSpec.vars false W args.toList ds gs before) (hk : Rows.uptoSmall H (ds ++ gs) = true) :
    Calls Try.prog 4 args W fun e W' => ∃ v, e = .returned v ∧ Rows.satSameSpec.post enc Try.prog Try.f4 false true false false W args v W' := by
  have hval : ∀ (j : Nat) t v, Try.f4.params[j]? = some t → args[j]? = some v → Value.okWide Try.prog W .any base t v := hval0
  have hW' := hW
  obtain ⟨p, q, hA0, hV, rfl, hfz, hnd⟩ := hW
  have hA : DataW.TrodAll enc Try.prog W 0 (fun _ => true) true Try.f4.params.toList args.toList ds p := hA0
  rw [Try.params4] at hA hval
  obtain ⟨v0, vs0, d0, ds0, p0, q0, hargs, rfl, rfl, h0, r0⟩ := trodAll_cons hA
  obtain ⟨v1, vs1, d1, ds1, p1, q1, rfl, rfl, rfl, h1, r1⟩ := trodAll_cons r0
  obtain ⟨rfl, rfl, rfl⟩ := trodAll_nil r1
  obtain rfl : args = #[v0, v1] := by cases args; simp_all
  obtain ⟨rfl, rfl⟩ := trodVars_none hV
  obtain ⟨cs, rfl, hcs⟩ := okWide_struct Try.underlying33 (hval 0 33 v0 rfl rfl)
  obtain ⟨A1, c1, us, rfl, hb1, hb2, hb3, hb4, hb5, hb6⟩ := open_ints_arg (e := 3) Try.underlying25 Try.underlying3 (by kernel_rfl) (hval 1 25 v1 rfl rfl) h1
  have hbk := bulks.bound hk
  simp only [List.append_nil, Rows.uptoBulkAll] at hbk
  have hus : us.length ≤ 1099511627776 := by
    rcases hb6 with h | ⟨elems, sp, hd, hl⟩
    · omega
    · subst hd
      have := bulks.slice_le (H := H) elems sp
      omega
  have h0' := h0
  have h1' := h1
  obtain ⟨fuel0, hf0⟩ := h0
  obtain ⟨x, A, c, hs, hcv, hx, hrd, hhl⟩ := formula_small hf0 (by simp only; omega)
  have hcv2 : cs = #[.int .i64 x, .slice A hs.length c] := by
    have : cs.toList = [.int .i64 x, .slice A hs.length c] := by simpa [Value.cells] using hcv
    exact Array.ext' this
  subst hcv2
  clear hA0 hval0 hf0 hval
  have hlt : ∀ x ∈ p0 ++ (p1 ++ []) ++ [], x.block < W.heap.size := fun x hx => by simpa using hW'.lt x (by simpa using hx)
  refine (same_calls W x hx A c hs hrd (by omega) A1 c1 us hb1 hb3 hb5 hus (fun l hl => by
    rw [List.mem_map] at hl
    obtain ⟨z, hz, rfl⟩ := hl
    obtain ⟨i, hi, hg⟩ := List.getElem_of_mem hz
    have := (hrd.2 i hi).2.1
    rw [List.getElem!_eq_getElem?_getD, List.getElem?_eq_getElem hi, Option.getD_some, hg] at this
    exact this)).mono fun e W' ⟨he, hg⟩ => ?_
  subst he
  exact ⟨_, rfl, post_below (pa := p0 ++ (p1 ++ [])) (pv := []) hW' (fun _ _ _ => (trodAll_cons_mk (shut_bool Try.underlying4 _) trodAll_mk0))
    (fun sp hsp => trodAll_cons_mk (kept_arg (by kernel_rfl) (of_decide_eq_true (by kernel_rfl)) h0' hg.below (fun x hx => hlt x (by simp [hx])) (fun p hp => hsp p (by simp [hp])))
      (trodAll_cons_mk (kept_arg (by kernel_rfl) (of_decide_eq_true (by kernel_rfl)) h1' hg.below (fun x hx => hlt x (by simp [hx])) (fun p hp => hsp p (by simp [hp]))) trodAll_mk0)) (fun _ _ => rfl) (by simp)
    hg.below (ok_one (by kernel_rfl) rfl (okWide_bool_mk Try.underlying4 _))⟩

set_option maxRecDepth 100000 in
theorem lifted (os : Os) (started : os.Started) (H : Type) (enc : TypeId × Value → H) (F : Stop.Interp) :
    ReturnsInHanded {} Try.checked os 4 .any ((Rows.OpenSpec.upto Rows.satSameSpec).pre6 enc Try.prog Try.f4 Rows.satSameUptoRow.domain false) (((Rows.OpenSpec.upto Rows.satSameSpec).at F).post enc Try.prog Try.f4 false true false false) := by
  refine returns_cond_sized (C := Try.checked) (s := Rows.OpenSpec.upto Rows.satSameSpec) (k := Rows.uptoSmall) rfl own started (by kernel_rfl) Try.func4
    (OpenSpec.witness (enc := enc) (C := Try.checked) (s := Rows.OpenSpec.upto Rows.satSameSpec) (k := Rows.uptoSmall) rfl false ⟨#[], #[.agg #[.int .i64 0, .slice none 0 0], .slice none 0 0], []⟩ 8 (by kernel_rfl) (by kernel_rfl) (by kernel_rfl)
      (x := ([.agg [.lit (.int .i64 0), .nil], .nil], [], [])) (by kernel_rfl) rfl (by kernel_rfl)) ?_
  intro W base args ds gs before hval hW hk hsz
  exact contract H enc W base args ds gs before hval hW hk

theorem proved : Rows.SatSameUptoSaid :=
  OpenClaim.holds_of_cond 4 Try.f4 rfl rfl rfl rfl rfl rfl rfl ⟨rfl, rfl, rfl, rfl, rfl⟩ rfl rfl rfl rfl rfl (by kernel_rfl) Try.func4 (by kernel_rfl)
    (of_decide_eq_true (by kernel_rfl)) (by unfold Func.isWrapper; first | (rw [if_pos (by decide +kernel)]; kernel_rfl) | (rw [if_neg (by decide +kernel)]; exact ⟨rfl, rfl⟩))
    (fun os started H enc _ F => lifted os started H enc F)
end Go.Proofs.Ytdpigdlknmcmlaa.satSame
