/-  -/
import Derived.Test.YtdpigdlknmcmlaaGreatShF
/- Of any formula of few variables, and any assumptions, what is told is so: 'SatTells' answers true at every formula and all lists of assumptions, and leaves all memory that was there as it was. No condition. -/
namespace Go.Proofs.YtdpigdlknmcmlaaGreat.satTells
open Go.ChangeShapes Go.WideShapes Go.ChangeAt Go.RowKit
set_option linter.unusedVariables false

theorem own : ownKnob Tryz.prog.godebug = none := by kernel_rfl

set_option maxRecDepth 100000 in
theorem lifted (os : Os) (started : os.Started) (H : Type) (enc : TypeId × Value → H) :
  ReturnsInHanded {} Tryz.checked os 4 .any (Rows.satTellsSpec.pre6 enc Tryz.prog Tryz.f4 Rows.satTellsRow.domain false) (Rows.satTellsSpec.post enc Tryz.prog Tryz.f4 false true false false) := by
 refine returnsInHanded_of_change_sized (C := Tryz.checked) own started (by kernel_rfl) Tryz.func4
  (ChangeSpec.witness6 (enc := enc) (C := Tryz.checked) false ⟨#[], #[.agg #[.int .i64 0, .slice none 0 0], .slice none 0 0, .slice none 0 0], []⟩ 8 (by kernel_rfl) (by kernel_rfl) (by kernel_rfl) (by kernel_rfl)) ?_
 intro W base args ds gs before hval0 hW hcnd hsz0 _
 have hsz : (DataW.weightsEach Tryz.prog (Tryz.f4.params.toList ++ Rows.satTellsSpec.plain.varTypes Tryz.prog) (ds ++ gs)).all (· ≤ reachBytes) = true := hsz0
 clear hsz0
 have hval : ∀ (j : Nat) t v, Tryz.f4.params[j]? = some t → args[j]? = some v → Value.okWide Tryz.prog W .any base t v := hval0
 have hW' := hW
 obtain ⟨p, q, hA0, hV, rfl, hfz, hnd⟩ := hW
 have hA : DataW.TrodAll enc Tryz.prog W 0 (fun _ => true) true Tryz.f4.params.toList args.toList ds p := hA0
 rw [Tryz.params4] at hA hval hsz
 obtain ⟨v0, vs0, d0, ds0, p0, q0, hargs, rfl, rfl, h0, r0⟩ := trodAll_cons hA
 obtain ⟨v1, vs1, d1, ds1, p1, q1, rfl, rfl, rfl, h1, r1⟩ := trodAll_cons r0
 obtain ⟨v2, vs2, d2, ds2, p2, q2, rfl, rfl, rfl, h2, r2⟩ := trodAll_cons r1
 obtain ⟨rfl, rfl, rfl⟩ := trodAll_nil r2
 obtain rfl : args = #[v0, v1, v2] := by cases args; simp_all
 obtain ⟨rfl, rfl⟩ := trodVars_none hV
 obtain ⟨cs, rfl, hcs⟩ := okWide_struct Tryz.underlying24 (hval 0 24 v0 rfl rfl)
 obtain ⟨A1, c1, us, rfl, hb1, hb2, hb3, hb4, hb5, hb6⟩ := open_ints_arg (e := 3) Tryz.underlying25 Tryz.underlying3 (by kernel_rfl) (hval 1 25 v1 rfl rfl) h1
 obtain ⟨A2, c2, vs, rfl, hd1, hd2, hd3, hd4, hd5, hd6⟩ := open_ints_arg (e := 3) Tryz.underlying25 Tryz.underlying3 (by kernel_rfl) (hval 2 25 v2 rfl rfl) h2
 have hw0 : ∀ n ∈ d0.weights Tryz.prog 24, n ≤ reachBytes := fun n hn => by
  have := List.all_eq_true.1 hsz _ (DataW.weights_mem_each (j := 0) (t := 24) rfl rfl n hn)
  simpa using this
 have h0' := h0
 have h1' := h1
 have h2' := h2
 obtain ⟨fuel0, hf0⟩ := h0
 obtain ⟨x, A, c, hs, hcv, hx, hrd, hhl⟩ := formula_wide hf0 hw0
 have hcv2 : cs = #[.int .i64 x, .slice A hs.length c] := by
  have : cs.toList = [.int .i64 x, .slice A hs.length c] := by simpa [Value.cells] using hcv
  exact Array.ext' this
 subst hcv2
 clear hA0 hval0 hf0 hval
 have hlt : ∀ x ∈ p0 ++ (p1 ++ (p2 ++ [])) ++ [], x.block < W.heap.size := fun x hx => by simpa using hW'.lt x (by simpa using hx)
 refine (tells_calls W x hx A c hs (fun _ => hrd) (by unfold maxLen at hhl; omega) (fun l hl => by
  rw [List.mem_map] at hl
  obtain ⟨z, hz, rfl⟩ := hl
  obtain ⟨i, hi, hg⟩ := List.getElem_of_mem hz
  have := (hrd.2 i hi).2.1
  rw [List.getElem!_eq_getElem?_getD, List.getElem?_eq_getElem hi, Option.getD_some, hg] at this
  exact this) A1 c1 us hb1 hb3 hb5 A2 c2 vs hd1 hd3 hd5).mono fun e W' ⟨he, hg⟩ => ?_
 subst he
 exact ⟨_, rfl, post_below (pa := p0 ++ (p1 ++ (p2 ++ []))) (pv := []) hW' (fun _ _ _ => (trodAll_cons_mk (shut_bool Tryz.underlying4 _) trodAll_mk0))
  (fun sp hsp => trodAll_cons_mk (kept_arg (by kernel_rfl) (of_decide_eq_true (by kernel_rfl)) h0' hg.below (fun x hx => hlt x (by simp [hx])) (fun p hp => hsp p (by simp [hp])))
   (trodAll_cons_mk (kept_arg (by kernel_rfl) (of_decide_eq_true (by kernel_rfl)) h1' hg.below (fun x hx => hlt x (by simp [hx])) (fun p hp => hsp p (by simp [hp])))
   (trodAll_cons_mk (kept_arg (by kernel_rfl) (of_decide_eq_true (by kernel_rfl)) h2' hg.below (fun x hx => hlt x (by simp [hx])) (fun p hp => hsp p (by simp [hp]))) trodAll_mk0))) (fun _ _ => rfl) (by simp)
  hg.below (ok_one (by kernel_rfl) rfl (okWide_bool_mk Tryz.underlying4 _))⟩

theorem over : Rows.satTellsRow.holds Tryz.pinned (OpenSpec.ofChange Rows.satTellsSpec) :=
 OpenClaim.holds_of_wide 4 Tryz.f4 rfl rfl rfl rfl rfl rfl rfl ⟨rfl, rfl, rfl, rfl, rfl⟩ rfl rfl rfl rfl rfl (by kernel_rfl) Tryz.func4 (by kernel_rfl)
  (of_decide_eq_true (by kernel_rfl)) (by unfold Func.isWrapper; first | (rw [if_pos (by decide +kernel)]; kernel_rfl) | (rw [if_neg (by decide +kernel)]; exact ⟨rfl, rfl⟩))
  (fun os started H enc _ => lifted os started H enc)

theorem proved : Rows.SatTellsSaid :=
 over
end Go.Proofs.YtdpigdlknmcmlaaGreat.satTells
