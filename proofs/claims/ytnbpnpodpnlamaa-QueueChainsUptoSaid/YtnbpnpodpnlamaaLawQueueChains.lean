/- A chain goes from item to item, to one that is from none: 'QueueChains' answers true at every list of texts of bulk at most 1048576, and leaves all memory that was there as it was. Its condition: that bulk. -/
import Derived.Test.YtnbpnpodpnlamaaQueueL
import Derived.Test.YtnbpnpodpnlamaaOpsR
import Derived.Test.YtnbpnpodpnlamaaBulk
import Derived.SliceStrings
import Derived.JoinedCond
namespace Go.Proofs.Ytnbpnpodpnlamaa.queueChains
open Go.ChangeShapes Go.WideShapes Go.ChangeAt Go.RowKit Go.Deep
set_option linter.unusedVariables false

theorem own : ownKnob Try.prog.godebug = none := by kernel_rfl
theorem cellsStr : Try.prog.cellsOf 9 = 1 := by kernel_rfl

theorem open_strs {H : Type} {enc : TypeId × Value → H} {w : World} {base : Nat} {spare : Nat → Bool} {held : Bool} {v : Value} {d : DataW H} {ps : List MemPlace} (hv : Value.okWide Try.prog w .any 0 32 v) (h : DataW.Trod enc Try.prog w base spare held 32 v d ps) :
    ∃ (A : Option Addr) (c : Nat) (ss : List ByteArray), v = .slice A ss.length c ∧ RdS w A ss ∧ (ss.length = 0 ∨ ∃ elems sp, d = .slice elems sp ∧ elems.length = ss.length) := by
  obtain ⟨a0, len0, cap0, rfl⟩ := okWide_slice Try.underlying32 hv
  obtain ⟨n, hn⟩ := h
  rcases Go.ChangeShapes.open_strings Try.underlying32 Try.underlying9 cellsStr hn with ⟨h0, _⟩ | ⟨a, len, cap, zs, h0, hb, hl, hm, hz, hx, hcell, hwf⟩
  · have e1 : Value.slice a0 len0 cap0 = Value.slice none 0 0 := by simpa [Value.cells] using h0
    obtain ⟨rfl, rfl, rfl⟩ := Value.slice.inj e1
    exact ⟨none, 0, [], rfl, fun h => absurd h (Nat.lt_irrefl _), .inl rfl⟩
  · have e1 : Value.slice a0 len0 cap0 = Value.slice (some a) len cap := by simpa [Value.cells] using h0
    obtain ⟨rfl, rfl, rfl⟩ := Value.slice.inj e1
    have hle : len0 ≤ zs.length := by rw [hz]; split <;> omega
    have hxl : (zs.take len0).length = len0 := by rw [List.length_take]; omega
    refine ⟨some a, cap0, zs.take len0, by rw [hxl], fun hp => ?_, .inr ⟨_, _, (Prod.mk.inj hx).1, by simp [strs]⟩⟩
    rw [hxl] at hp
    obtain ⟨b, o, s⟩ := a
    have h00 := hcell 0 (by omega)
    have hs : s = none ∧ b < w.heap.size := by
      change w.cell? ⟨b, o, s⟩ = _ at h00
      unfold World.cell? at h00
      split at h00
      · rename_i hh
        split at h00
        · cases h00
        · rename_i hsp
          exact ⟨by cases s <;> simp_all, (Array.getElem?_eq_some_iff.1 hh).1⟩
      · cases h00
    obtain ⟨rfl, hbl⟩ := hs
    refine ⟨b, o, rfl, hbl, fun j hj => ?_⟩
    have hj1 : j < len0 := by rwa [hxl] at hj
    have := hcell j (by omega)
    rw [add_plain] at this
    rw [this, List.getElem_take]
    have hj2 : j < zs.length := by omega
    simp [List.getD_eq_getElem?_getD, hj2]

theorem contract (H : Type) (enc : TypeId × Value → H) (W : World) (base : Nat) (args : Array Value) (ds gs : List (DataW H)) (before : List MemPlace)
    (hval0 : ∀ (j : Nat) t v, Try.f4.params[j]? = some t → args[j]? = some v → Value.okWide Try.prog W .any base t v)
    (hW : DataW.Whole enc Try.prog Try.f4.params.toList Rows.queueChainsSpec.vars false W args.toList ds gs before) (hk : Rows.uptoSmall H (ds ++ gs) = true) :
    Calls Try.prog 4 args W fun e W' => ∃ v, e = .returned v ∧ Rows.queueChainsSpec.post enc Try.prog Try.f4 false true false false W args v W' := by
  have hval : ∀ (j : Nat) t v, Try.f4.params[j]? = some t → args[j]? = some v → Value.okWide Try.prog W .any base t v := hval0
  have hW' := hW
  obtain ⟨p, q, hA0, hV, rfl, hfz, hnd⟩ := hW
  have hA : DataW.TrodAll enc Try.prog W 0 (fun _ => true) true Try.f4.params.toList args.toList ds p := hA0
  rw [Try.params4] at hA hval
  obtain ⟨v0, vs0, d0, ds0, p0, q0, hargs, rfl, rfl, h0, r0⟩ := trodAll_cons hA
  obtain ⟨rfl, rfl, rfl⟩ := trodAll_nil r0
  obtain rfl : args = #[v0] := by cases args; simp_all
  obtain ⟨rfl, rfl⟩ := trodVars_none hV
  obtain ⟨A, c, ss, rfl, hr, hd⟩ := open_strs (hval 0 32 v0 rfl rfl) h0
  have hl : ss.length ≤ 1048576 := by
    rcases hd with h | ⟨elems, sp, rfl, h⟩
    · omega
    · have h1 := bulks.bound hk
      have h2 := bulks.slice_le elems sp
      simp only [List.append_nil, Rows.uptoBulkAll] at h1
      omega
  clear hA0 hval0
  have hlt0 : ∀ x ∈ p0, x.block < W.heap.size := fun x hx => by simpa using hW'.lt x (by simpa using hx)
  refine (queue_chains W A c ss hr hl).mono fun e W' ⟨he, hg⟩ => ?_
  subst he
  exact ⟨_, rfl, post_below (pa := p0 ++ []) (pv := []) hW' (fun _ _ _ => (trodAll_cons_mk (shut_bool Try.underlying4 _) trodAll_mk0))
    (fun sp hsp => trodAll_cons_mk (kept_arg (by kernel_rfl) (of_decide_eq_true (by kernel_rfl)) h0 hg.below hlt0 (fun p hp => hsp p (by simpa using hp))) trodAll_mk0) (fun _ _ => rfl) (by simp)
    hg.below (ok_one (by kernel_rfl) rfl (okWide_bool_mk Try.underlying4 _))⟩

set_option maxRecDepth 100000 in
theorem lifted (os : Os) (started : os.Started) (H : Type) (enc : TypeId × Value → H) (F : Stop.Interp) :
    ReturnsInHanded {} Try.checked os 4 .any ((Rows.OpenSpec.upto Rows.queueChainsSpec).pre6 enc Try.prog Try.f4 Rows.queueChainsUptoRow.domain false) (((Rows.OpenSpec.upto Rows.queueChainsSpec).at F).post enc Try.prog Try.f4 false true false false) := by
  refine returnsInHanded_of_cond (C := Try.checked) (s := Rows.OpenSpec.upto Rows.queueChainsSpec) (k := Rows.uptoSmall) rfl own started (by kernel_rfl) Try.func4
    (OpenSpec.witness (enc := enc) (C := Try.checked) (s := Rows.OpenSpec.upto Rows.queueChainsSpec) (k := Rows.uptoSmall) rfl false ⟨#[], #[.slice none 0 0], []⟩ 8 (by kernel_rfl) (by kernel_rfl) (by kernel_rfl)
      (x := ([.nil], [], [])) (by kernel_rfl) rfl (by kernel_rfl)) ?_
  intro W base args ds gs before hval hW _ hk _
  exact contract H enc W base args ds gs before hval hW hk

theorem proved : Rows.QueueChainsUptoSaid :=
  OpenClaim.holds_of_cond 4 Try.f4 rfl rfl rfl rfl rfl rfl rfl ⟨rfl, rfl, rfl, rfl, rfl⟩ rfl rfl rfl rfl rfl (by kernel_rfl) Try.func4 (by kernel_rfl)
    (of_decide_eq_true (by kernel_rfl)) (by unfold Func.isWrapper; first | (rw [if_pos (by decide +kernel)]; kernel_rfl) | (rw [if_neg (by decide +kernel)]; exact ⟨rfl, rfl⟩))
    (fun os started H enc _ F => lifted os started H enc F)
end Go.Proofs.Ytnbpnpodpnlamaa.queueChains
