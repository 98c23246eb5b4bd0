/- Whatever the operations, the trail answers as the list of what was set: 'TrailRuns' answers true at every number and every list of operations, and leaves all memory that was there as it was. No condition. -/
import Derived.Test.YtnbpnpodpnlamaaTrailN
import Derived.Test.YtnbpnpodpnlamaaOpsR
namespace Go.Proofs.Ytnbpnpodpnlamaa.trailRuns
open Go.ChangeShapes Go.WideShapes Go.ChangeAt Go.RowKit
set_option linter.unusedVariables false

theorem own : ownKnob Try.prog.godebug = none := by kernel_rfl

set_option maxRecDepth 100000 in
theorem lifted (os : Os) (started : os.Started) (H : Type) (enc : TypeId × Value → H) :
    ReturnsInHanded {} Try.checked os 7 .any (Rows.trailRunsSpec.pre6 enc Try.prog Try.f7 Rows.trailRunsRow.domain false) (Rows.trailRunsSpec.post enc Try.prog Try.f7 false true false false) := by
  refine returnsInHanded_of_change (C := Try.checked) own started (by kernel_rfl) Try.func7
    (ChangeSpec.witness6 (enc := enc) (C := Try.checked) false ⟨#[], #[.int .i64 0, .slice none 0 0], []⟩ 8 (by kernel_rfl) (by kernel_rfl) (by kernel_rfl) (by kernel_rfl)) ?_
  intro W base args ds gs before hval0 hW hcnd _
  have hval : ∀ (j : Nat) t v, Try.f7.params[j]? = some t → args[j]? = some v → Value.okWide Try.prog W .any base t v := hval0
  have hW' := hW
  obtain ⟨p, q, hA0, hV, rfl, hfz, hnd⟩ := hW
  have hA : DataW.TrodAll enc Try.prog W 0 (fun _ => true) true Try.f7.params.toList args.toList ds p := hA0
  rw [Try.params7] at hA hval
  obtain ⟨v0, v1, d0, d1, p0, p1, rfl, rfl, rfl, h0, h1⟩ := trodAll_two hA
  obtain ⟨rfl, rfl⟩ := trodVars_none hV
  obtain ⟨a0, rfl, rfl, rfl, w0⟩ := open_int Try.underlying3 (hval 0 3 v0 rfl rfl) h0
  obtain ⟨A, c, l, rfl, hl, hxr, hx⟩ := open_int3r (e := 59) (ti := 3) Try.underlying57 Try.underlying59 (by kernel_rfl) Try.underlying3 (by kernel_rfl) (by kernel_rfl)
    (hval 1 57 v1 rfl rfl) h1
  clear hA0 hval0
  simp only [List.append_nil, List.nil_append] at hW'
  have hlt : ∀ x ∈ p1, x.block < W.heap.size := fun x hx => by simpa using hW'.lt x hx
  have hrd : RdTops W A (l.map fun z => (⟨z.1, z.2.1, z.2.2⟩ : TOp)) := by
    intro hp
    rw [List.length_map] at hp
    obtain ⟨b, o, hA, hb, hc⟩ := hx hp
    refine ⟨b, o, hA, hb, fun j hj => ?_⟩
    rw [List.length_map] at hj
    simpa using hc j hj
  have hh := trail_runs W a0 A c _ hrd (by rw [List.length_map]; unfold maxLen at hl; omega) (fun j hj => by
    rw [List.length_map] at hj
    simpa using hxr j hj)
  rw [List.length_map] at hh
  refine hh.mono fun e W' ⟨he, hg⟩ => ?_
  subst he
  exact ⟨_, rfl, post_below (pa := p1) (pv := []) hW' (fun _ _ _ => (trodAll_cons_mk (shut_bool Try.underlying4 _) trodAll_mk0))
    (fun sp hsp => trodAll_mk2 (p := []) (shut_int Try.underlying3 w0) (kept_arg (by kernel_rfl) (of_decide_eq_true (by kernel_rfl)) h1 hg.below hlt hsp)) (fun _ _ => rfl) (by simp)
    hg.below (ok_one (by kernel_rfl) rfl (okWide_bool_mk Try.underlying4 _))⟩

theorem over : Rows.trailRunsRow.holds Try.pinned (OpenSpec.ofChange Rows.trailRunsSpec) :=
  OpenClaim.holds_of_wide 7 Try.f7 rfl rfl rfl rfl rfl rfl rfl ⟨rfl, rfl, rfl, rfl, rfl⟩ rfl rfl rfl rfl rfl (by kernel_rfl) Try.func7 (by kernel_rfl)
    (of_decide_eq_true (by kernel_rfl)) (by unfold Func.isWrapper; first | (rw [if_pos (by decide +kernel)]; kernel_rfl) | (rw [if_neg (by decide +kernel)]; exact ⟨rfl, rfl⟩))
    (fun os started H enc _ => lifted os started H enc)

theorem proved : Rows.TrailRunsSaid :=
  over
end Go.Proofs.Ytnbpnpodpnlamaa.trailRuns
