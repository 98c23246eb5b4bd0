/-  -/
import Derived.Test.YtjchilcpflfcnaaShK
set_option linter.unusedVariables false
namespace Go.Proofs.Ytjchilcpflfcnaa.groupsMore
open Go.ChangeShapes Go.WideShapes Go.ChangeAt Go.RowKit Go.Deep
theorem own : ownKnob Try.prog.godebug = none := by kernel_rfl
set_option maxRecDepth 100000 in
set_option maxHeartbeats 2000000 in
theorem contract (H : Type) (enc : TypeId × Value → H) (W : World) (base : Nat) (args : Array Value) (ds gs : List (DataW H)) (before : List MemPlace)
  (hval0 : ∀ (j : Nat) t v, Try.f3.params[j]? = some t → args[j]? = some v → Value.okWide Try.prog W .any base t v)
  (hW : DataW.Whole enc Try.prog Try.f3.params.toList Rows.groupsMoreSpec.vars false W args.toList ds gs before) (hk : Rows.uptoSmall H (ds ++ gs) = true) :
  Calls Try.prog 3 args W fun e W' => ∃ v, e = .returned v ∧ Rows.groupsMoreSpec.post enc Try.prog Try.f3 false true false false W args v W' := by
 have hval : ∀ (j : Nat) t v, Try.f3.params[j]? = some t → args[j]? = some v → Value.okWide Try.prog W .any base t v := hval0
 have hW' := hW
 obtain ⟨p, q, hA0, hV, rfl, hfz, hnd⟩ := hW
 have hA : DataW.TrodAll enc Try.prog W 0 (fun _ => true) true Try.f3.params.toList args.toList ds p := hA0
 rw [Try.params3] at hA hval
 obtain ⟨v0, vs0, d0, ds0, p0, q0, hargs, rfl, rfl, h0, r0⟩ := trodAll_cons hA
 obtain ⟨v1, vs1, d1, ds1, p1, q1, rfl, rfl, rfl, h1, r1⟩ := trodAll_cons r0
 obtain ⟨v2, vs2, d2, ds2, p2, q2, rfl, rfl, rfl, h2, r2⟩ := trodAll_cons r1
 obtain ⟨v3, vs3, d3, ds3, p3, q3, rfl, rfl, rfl, h3, r3⟩ := trodAll_cons r2
 obtain ⟨v4, vs4, d4, ds4, p4, q4, rfl, rfl, rfl, h4, r4⟩ := trodAll_cons r3
 obtain ⟨rfl, rfl, rfl⟩ := trodAll_nil r4
 obtain rfl : args = #[v0, v1, v2, v3, v4] := by cases args; simp_all
 obtain ⟨rfl, rfl⟩ := trodVars_none hV
 obtain ⟨a0, rfl, rfl, rfl, w0⟩ := open_int Try.underlying3 (hval 0 3 v0 rfl rfl) h0
 obtain ⟨a1, len1, cap1, rfl⟩ := okWide_slice Try.underlying22 (hval 1 22 v1 rfl rfl)
 obtain ⟨a2, len2, cap2, rfl⟩ := okWide_slice Try.underlying23 (hval 2 23 v2 rfl rfl)
 obtain ⟨a3, len3, cap3, rfl⟩ := okWide_slice Try.underlying23 (hval 3 23 v3 rfl rfl)
 obtain ⟨A4, c4, us, rfl, hb1, hb2, hb3, hb4, hb5, hb6⟩ := open_ints_arg (e := 3) Try.underlying24 Try.underlying3 (by kernel_rfl) (hval 4 24 v4 rfl rfl) h4
 have hbk := bulks.bound hk
 simp only [List.append_nil, Rows.uptoBulkAll] at hbk
 have hus : us.length ≤ 1048576 := by
  rcases hb6 with h | ⟨elems, sp, hd, hl⟩
  ·omega
  ·subst hd
   have := bulks.slice_le (H := H) elems sp
   omega
 have h0' := h0
 have h1' := h1
 have h2' := h2
 have h3' := h3
 have h4' := h4
 obtain ⟨fuel1, hf1⟩ := h1
 obtain ⟨fuel2, hf2⟩ := h2
 obtain ⟨fuel3, hf3⟩ := h3
 obtain ⟨A1, c1, ps, e1, hp1, hp2⟩ := parts_small hf1 (by simp only; omega)
 obtain ⟨A2, c2, bs, e2, hq1, hq2⟩ := bools_small hf2 (by simp only; omega)
 obtain ⟨A3, c3, bs', e3, hr1, hr2⟩ := bools_small hf3 (by simp only; omega)
 have ev1 : Value.slice a1 len1 cap1 = Value.slice A1 ps.length c1 := by simpa [Value.cells] using e1
 have ev2 : Value.slice a2 len2 cap2 = Value.slice A2 bs.length c2 := by simpa [Value.cells] using e2
 have ev3 : Value.slice a3 len3 cap3 = Value.slice A3 bs'.length c3 := by simpa [Value.cells] using e3
 obtain ⟨rfl, rfl, rfl⟩ := Value.slice.inj ev1
 obtain ⟨rfl, rfl, rfl⟩ := Value.slice.inj ev2
 obtain ⟨rfl, rfl, rfl⟩ := Value.slice.inj ev3
 clear hA0 hval0 hf1 hf2 hf3 hval
 have hlt : ∀ x ∈ [] ++ (p1 ++ (p2 ++ (p3 ++ (p4 ++ [])))) ++ [], x.block < W.heap.size := fun x hx => by simpa using hW'.lt x (by simpa using hx)
 obtain ⟨r0, r1⟩ := Go.Joins.in64_of_wf w0
 refine (more_calls W a0 ⟨r0, r1⟩ _ _ ps hp1 hp2 _ _ bs hq1 hq2 _ _ bs' hr1 hr2 A4 c4 us ⟨hb1, hb3, by show us.length ≤ _; omega, fun h => by
   have h1 := hb4 h
   exact ⟨by show us.length = 0; omega, h1⟩⟩ hus).mono fun e W' ⟨he, hg⟩ => ?_
 subst he
 exact ⟨_, rfl, post_below (pa := [] ++ (p1 ++ (p2 ++ (p3 ++ (p4 ++ []))))) (pv := []) hW' (fun _ _ _ => (trodAll_cons_mk (shut_bool Try.underlying4 _) trodAll_mk0))
  (fun sp hsp => trodAll_cons_mk (kept_arg (by kernel_rfl) (of_decide_eq_true (by kernel_rfl)) h0' hg.below (fun x hx => by cases hx) (fun p hp => by cases hp))
   (trodAll_cons_mk (kept_arg (by kernel_rfl) (of_decide_eq_true (by kernel_rfl)) h1' hg.below (fun x hx => hlt x (by simp [hx])) (fun p hp => hsp p (by simp [hp])))
   (trodAll_cons_mk (kept_arg (by kernel_rfl) (of_decide_eq_true (by kernel_rfl)) h2' hg.below (fun x hx => hlt x (by simp [hx])) (fun p hp => hsp p (by simp [hp])))
   (trodAll_cons_mk (kept_arg (by kernel_rfl) (of_decide_eq_true (by kernel_rfl)) h3' hg.below (fun x hx => hlt x (by simp [hx])) (fun p hp => hsp p (by simp [hp])))
   (trodAll_cons_mk (kept_arg (by kernel_rfl) (of_decide_eq_true (by kernel_rfl)) h4' hg.below (fun x hx => hlt x (by simp [hx])) (fun p hp => hsp p (by simp [hp]))) trodAll_mk0))))) (fun _ _ => rfl) (by simp)
  hg.below (ok_one (by kernel_rfl) rfl (okWide_bool_mk Try.underlying4 _))⟩
set_option maxRecDepth 100000 in
set_option maxHeartbeats 2000000 in
theorem lifted (os : Os) (started : os.Started) (H : Type) (enc : TypeId × Value → H) (F : Stop.Interp) :
  ReturnsInHanded {} Try.checked os 3 .any ((Rows.OpenSpec.upto Rows.groupsMoreSpec).pre6 enc Try.prog Try.f3 Rows.groupsMoreUptoRow.domain false) (((Rows.OpenSpec.upto Rows.groupsMoreSpec).at F).post enc Try.prog Try.f3 false true false false) := by
 refine returns_cond_sized (C := Try.checked) (s := Rows.OpenSpec.upto Rows.groupsMoreSpec) (k := Rows.uptoSmall) rfl own started (by kernel_rfl) Try.func3
  (OpenSpec.witness (enc := enc) (C := Try.checked) (s := Rows.OpenSpec.upto Rows.groupsMoreSpec) (k := Rows.uptoSmall) rfl false ⟨#[], #[.int .i64 0, .slice none 0 0, .slice none 0 0, .slice none 0 0, .slice none 0 0], []⟩ 8 (by kernel_rfl) (by kernel_rfl) (by kernel_rfl)
   (x := ([.lit (.int .i64 0), .nil, .nil, .nil, .nil], [], [])) (by kernel_rfl) rfl (by kernel_rfl)) ?_
 intro W base args ds gs before hval hW hk hsz
 exact contract H enc W base args ds gs before hval hW hk
theorem proved : Rows.GroupsMoreUptoSaid :=
 OpenClaim.holds_of_cond 3 Try.f3 rfl rfl rfl rfl rfl rfl rfl ⟨rfl, rfl, rfl, rfl, rfl⟩ rfl rfl rfl rfl rfl (by kernel_rfl) Try.func3 (by kernel_rfl)
  (of_decide_eq_true (by kernel_rfl)) (by unfold Func.isWrapper; first | (rw [if_pos (by decide +kernel)]; kernel_rfl) | (rw [if_neg (by decide +kernel)]; exact ⟨rfl, rfl⟩))
  (fun os started H enc _ F => lifted os started H enc F)
end Go.Proofs.Ytjchilcpflfcnaa.groupsMore
