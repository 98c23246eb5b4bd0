/- A queue that nobody made holds nothing, what is handed in is not kept: 'QueueNobody' answers true at every item and every number, and leaves all memory that was there as it was. No condition. -/
import Derived.Test.YtnbpnpodpnlamaaQueueO
namespace Go.Proofs.Ytnbpnpodpnlamaa.queueNobody
open Go.ChangeShapes Go.WideShapes Go.ChangeAt Go.RowKit
set_option linter.unusedVariables false

theorem own : ownKnob Try.prog.godebug = none := by kernel_rfl

set_option maxRecDepth 100000 in
theorem lifted (os : Os) (started : os.Started) (H : Type) (enc : TypeId × Value → H) :
    ReturnsInHanded {} Try.checked os 10 .any (Rows.queueNobodySpec.pre6 enc Try.prog Try.f10 Rows.queueNobodyRow.domain false) (Rows.queueNobodySpec.post enc Try.prog Try.f10 false true false false) := by
  refine returnsInHanded_of_change_sized (C := Try.checked) own started (by kernel_rfl) Try.func10
    (ChangeSpec.witness6 (enc := enc) (C := Try.checked) false ⟨#[], #[.agg #[.int .i64 0, .slice none 0 0, .string ⟨#[]⟩, .int .i64 0], .int .i64 0], []⟩ 8 (by kernel_rfl) (by kernel_rfl) (by kernel_rfl) (by kernel_rfl)) ?_
  intro W base args ds gs before hval0 hW hcnd hsz0 _
  have hsz : (DataW.weightsEach Try.prog (Try.f10.params.toList ++ Rows.queueNobodySpec.plain.varTypes Try.prog) (ds ++ gs)).all (· ≤ reachBytes) = true := hsz0
  clear hsz0
  have hval : ∀ (j : Nat) t v, Try.f10.params[j]? = some t → args[j]? = some v → Value.okWide Try.prog W .any base t v := hval0
  have hW' := hW
  obtain ⟨p, q, hA0, hV, rfl, hfz, hnd⟩ := hW
  have hA : DataW.TrodAll enc Try.prog W 0 (fun _ => true) true Try.f10.params.toList args.toList ds p := hA0
  rw [Try.params10] at hA hval hsz
  obtain ⟨v0, v1, d0, d1, p0, p1, rfl, rfl, rfl, h0, h1⟩ := trodAll_two hA
  obtain ⟨rfl, rfl⟩ := trodVars_none hV
  obtain ⟨a1, rfl, rfl, rfl, w1⟩ := open_int Try.underlying3 (hval 1 3 v1 rfl rfl) h1
  obtain ⟨cs, rfl, hcs⟩ := okWide_struct Try.underlying38 (hval 0 38 v0 rfl rfl)
  obtain ⟨fuel, hfu⟩ := h0
  have h0 : DataW.Trod enc Try.prog W 0 (fun _ => true) true 38 (.agg cs) d0 p0 := ⟨fuel, hfu⟩
  obtain ⟨m, D, a, b, d, hv, hd, hD, q1, q2, q3, _, _, _⟩ := item_cells hfu
  have hcv : cs = #[.int .i64 m.l, .slice m.C m.n m.c, .string m.s, .int .i64 m.f] := by
    have : cs.toList = [.int .i64 m.l, .slice m.C m.n m.c, .string m.s, .int .i64 m.f] := by simpa [Value.cells] using hv
    exact Array.ext' (by simpa using this)
  have hlen : m.xs.length ≤ 17592186044416 := by
    rcases hD with h | h
    · omega
    · refine weigh_item (a := a) (b := b) (d := d) h fun n hn => ?_
      simp only at hd
      rw [← hd] at hn
      have := List.all_eq_true.1 hsz _ (DataW.weights_mem_each (j := 0) (t := 38) rfl rfl n hn)
      simpa using this
  have hcub : Cub W m := Im.cub q1 q2 q3 hlen
  subst hcv
  clear hA0 hval0
  have hlt0 : ∀ x ∈ p0, x.block < W.heap.size := fun x hx => by simpa using hW'.lt x (by simpa using hx)
  refine (queue_nobody W m hcub a1).mono fun e W' ⟨he, hg⟩ => ?_
  subst he
  exact ⟨_, rfl, post_below (pa := p0 ++ []) (pv := []) hW' (fun _ _ _ => (trodAll_cons_mk (shut_bool Try.underlying4 _) trodAll_mk0))
    (fun sp hsp => trodAll_mk2 (p' := []) (kept_arg (by kernel_rfl) (of_decide_eq_true (by kernel_rfl)) h0 hg.below hlt0 (fun p hp => hsp p (by simpa using hp))) (shut_int Try.underlying3 w1)) (fun _ _ => rfl) (by simp)
    hg.below (ok_one (by kernel_rfl) rfl (okWide_bool_mk Try.underlying4 _))⟩

theorem over : Rows.queueNobodyRow.holds Try.pinned (OpenSpec.ofChange Rows.queueNobodySpec) :=
  OpenClaim.holds_of_wide 10 Try.f10 rfl rfl rfl rfl rfl rfl rfl ⟨rfl, rfl, rfl, rfl, rfl⟩ rfl rfl rfl rfl rfl (by kernel_rfl) Try.func10 (by kernel_rfl)
    (of_decide_eq_true (by kernel_rfl)) (by unfold Func.isWrapper; first | (rw [if_pos (by decide +kernel)]; kernel_rfl) | (rw [if_neg (by decide +kernel)]; exact ⟨rfl, rfl⟩))
    (fun os started H enc _ => lifted os started H enc)

theorem proved : Rows.QueueNobodySaid :=
  over
end Go.Proofs.Ytnbpnpodpnlamaa.queueNobody
