/-  -/
import Derived.Test.YtdpigdlknmcmlaaGreatShG
set_option linter.unusedVariables false
namespace Go.Proofs.YtdpigdlknmcmlaaGreat.satGrows
open Go.ChangeShapes Go.WideShapes Go.ChangeAt Go.RowKit Go.Deep
theorem own : ownKnob Tryz.prog.godebug = none := by kernel_rfl
set_option maxRecDepth 100000 in
theorem contract (H : Type) (enc : TypeId × Value → H) (W : World) (base : Nat) (args : Array Value) (ds gs : List (DataW H)) (before : List MemPlace)
  (hval0 : ∀ (j : Nat) t v, Tryz.f5.params[j]? = some t → args[j]? = some v → Value.okWide Tryz.prog W .any base t v)
  (hW : DataW.Whole enc Tryz.prog Tryz.f5.params.toList Rows.satGrowsSpec.vars false W args.toList ds gs before) (hk : Rows.uptoSmall H (ds ++ gs) = true) :
  Calls Tryz.prog 5 args W fun e W' => ∃ v, e = .returned v ∧ Rows.satGrowsSpec.post enc Tryz.prog Tryz.f5 false true false false W args v W' := by
 have hval : ∀ (j : Nat) t v, Tryz.f5.params[j]? = some t → args[j]? = some v → Value.okWide Tryz.prog W .any base t v := hval0
 have hW' := hW
 obtain ⟨p, q, hA0, hV, rfl, hfz, hnd⟩ := hW
 have hA : DataW.TrodAll enc Tryz.prog W 0 (fun _ => true) true Tryz.f5.params.toList args.toList ds p := hA0
 rw [Tryz.params5] at hA hval
 obtain ⟨v0, vs0, d0, ds0, p0, q0, hargs, rfl, rfl, h0, r0⟩ := trodAll_cons hA
 obtain ⟨v1, vs1, d1, ds1, p1, q1, rfl, rfl, rfl, h1, r1⟩ := trodAll_cons r0
 obtain ⟨v2, vs2, d2, ds2, p2, q2, rfl, rfl, rfl, h2, r2⟩ := trodAll_cons r1
 obtain ⟨rfl, rfl, rfl⟩ := trodAll_nil r2
 obtain rfl : args = #[v0, v1, v2] := by cases args; simp_all
 obtain ⟨rfl, rfl⟩ := trodVars_none hV
 obtain ⟨cs, rfl, hcs⟩ := okWide_struct Tryz.underlying24 (hval 0 24 v0 rfl rfl)
 obtain ⟨a0, rfl, rfl, rfl, w0⟩ := open_int Tryz.underlying3 (hval 1 3 v1 rfl rfl) h1
 obtain ⟨A1, c1, us, rfl, hb1, hb2, hb3, hb4, hb5, hb6⟩ := open_ints_arg (e := 3) Tryz.underlying25 Tryz.underlying3 (by kernel_rfl) (hval 2 25 v2 rfl rfl) h2
 have hbk := bulks.bound hk
 simp only [List.append_nil, Rows.uptoBulkAll] at hbk
 have hus : us.length ≤ 17592186044416 := by
  rcases hb6 with h | ⟨elems, sp, hd, hl⟩
  ·omega
  ·subst hd
   have := bulks.slice_le (H := H) elems sp
   omega
 have h0' := h0
 have h1' := h1
 have h2' := h2
 obtain ⟨fuel0, hf0⟩ := h0
 obtain ⟨x, A, c, hs, hcv, hx, hrd, hhl, hAn⟩ := formula_small2 hf0 (by simp only; omega)
 have hcv2 : cs = #[.int .i64 x, .slice A hs.length c] := by
  have : cs.toList = [.int .i64 x, .slice A hs.length c] := by simpa [Value.cells] using hcv
  exact Array.ext' this
 subst hcv2
 clear hA0 hval0 hf0 hval
 have hlt : ∀ x ∈ p0 ++ ([] ++ (p2 ++ [])) ++ [], x.block < W.heap.size := fun x hx => by simpa using hW'.lt x (by simpa using hx)
 obtain ⟨r0, r1⟩ := Go.Joins.in64_of_wf w0
 refine (grows_calls W x hx A c hs hrd hAn (by omega) (fun l hl => by
  rw [List.mem_map] at hl
  obtain ⟨z, hz, rfl⟩ := hl
  obtain ⟨i, hi, hg⟩ := List.getElem_of_mem hz
  have := (hrd.2 i hi).2.1
  rw [List.getElem!_eq_getElem?_getD, List.getElem?_eq_getElem hi, Option.getD_some, hg] at this
  exact this) a0 ⟨r0, r1⟩ A1 c1 us ⟨hb1, hb3, hus, fun h => by
   have h1 := hb4 h
   exact ⟨by show us.length = 0; omega, h1⟩⟩).mono fun e W' ⟨he, hg⟩ => ?_
 subst he
 exact ⟨_, rfl, post_below (pa := p0 ++ ([] ++ (p2 ++ []))) (pv := []) hW' (fun _ _ _ => (trodAll_cons_mk (shut_bool Tryz.underlying4 _) trodAll_mk0))
  (fun sp hsp => trodAll_cons_mk (kept_arg (by kernel_rfl) (of_decide_eq_true (by kernel_rfl)) h0' hg.below (fun x hx => hlt x (by simp [hx])) (fun p hp => hsp p (by simp [hp])))
   (trodAll_cons_mk (kept_arg (by kernel_rfl) (of_decide_eq_true (by kernel_rfl)) h1' hg.below (fun x hx => by cases hx) (fun p hp => by cases hp))
   (trodAll_cons_mk (kept_arg (by kernel_rfl) (of_decide_eq_true (by kernel_rfl)) h2' hg.below (fun x hx => hlt x (by simp [hx])) (fun p hp => hsp p (by simp [hp]))) trodAll_mk0))) (fun _ _ => rfl) (by simp)
  hg.below (ok_one (by kernel_rfl) rfl (okWide_bool_mk Tryz.underlying4 _))⟩
set_option maxRecDepth 100000 in
theorem lifted (os : Os) (started : os.Started) (H : Type) (enc : TypeId × Value → H) (F : Stop.Interp) :
  ReturnsInHanded {} Tryz.checked os 5 .any ((Rows.OpenSpec.upto Rows.satGrowsSpec).pre6 enc Tryz.prog Tryz.f5 Rows.satGrowsUptoRow.domain false) (((Rows.OpenSpec.upto Rows.satGrowsSpec).at F).post enc Tryz.prog Tryz.f5 false true false false) := by
 refine returns_cond_sized (C := Tryz.checked) (s := Rows.OpenSpec.upto Rows.satGrowsSpec) (k := Rows.uptoSmall) rfl own started (by kernel_rfl) Tryz.func5
  (OpenSpec.witness (enc := enc) (C := Tryz.checked) (s := Rows.OpenSpec.upto Rows.satGrowsSpec) (k := Rows.uptoSmall) rfl false ⟨#[], #[.agg #[.int .i64 0, .slice none 0 0], .int .i64 0, .slice none 0 0], []⟩ 8 (by kernel_rfl) (by kernel_rfl) (by kernel_rfl)
   (x := ([.agg [.lit (.int .i64 0), .nil], .lit (.int .i64 0), .nil], [], [])) (by kernel_rfl) rfl (by kernel_rfl)) ?_
 intro W base args ds gs before hval hW hk hsz
 exact contract H enc W base args ds gs before hval hW hk
theorem proved : Rows.SatGrowsUptoSaid :=
 OpenClaim.holds_of_cond 5 Tryz.f5 rfl rfl rfl rfl rfl rfl rfl ⟨rfl, rfl, rfl, rfl, rfl⟩ rfl rfl rfl rfl rfl (by kernel_rfl) Tryz.func5 (by kernel_rfl)
  (of_decide_eq_true (by kernel_rfl)) (by unfold Func.isWrapper; first | (rw [if_pos (by decide +kernel)]; kernel_rfl) | (rw [if_neg (by decide +kernel)]; exact ⟨rfl, rfl⟩))
  (fun os started H enc _ F => lifted os started H enc F)
end Go.Proofs.YtdpigdlknmcmlaaGreat.satGrows
