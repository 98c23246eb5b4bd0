/- alive: the page's example. -/
import Derived.Test.YtbjccgahmgpkjaaTgtC
import Derived.Test.YtbjccgahmgpkjaaTgtW
import Derived.Test.YtbjccgahmgpkjaaRunE
namespace Go.Proofs.Ytbjccgahmgpkjaa
open Go.RowKit
set_option linter.unusedVariables false

def C0 : Pc := ⟨0, [], [], [], [], [], [], []⟩
def H0 : Hd := ⟨none, 0, none, 0, none, 0, none, 0, none, 0, none, 0, none, 0⟩
theorem at0 (w : World) : CiAt w H0 C0 := by
  refine ⟨?_, ?_, ?_, ?_, ?_, ?_, ?_, by decide, by decide, by decide, by decide, by decide, by decide, by decide, ⟨by decide, by decide⟩, ?_, ?_, ?_, ?_, ?_, ?_, ?_⟩ <;> first | (intro h; exact absurd h (Nat.not_lt_zero _)) | (intro j h; exact absurd h (Nat.not_lt_zero _))
theorem nil0 : NilOk H0 C0 := ⟨fun _ => ⟨rfl, rfl⟩, fun _ => ⟨rfl, rfl⟩, fun _ => ⟨rfl, rfl⟩, fun _ => ⟨rfl, rfl⟩, fun _ => ⟨rfl, rfl⟩, fun _ => ⟨rfl, rfl⟩, fun _ => ⟨rfl, rfl⟩⟩
theorem valid0 : Valid C0 := ⟨by decide, by decide, by decide, by decide, by decide, fun j h => absurd h (Nat.not_lt_zero _), fun j h => absurd h (Nat.not_lt_zero _), fun j h => absurd h (Nat.not_lt_zero _), by decide, by decide, by decide⟩
theorem target0 (w : World) : Calls Try.prog 6 #[cval H0 C0, .slice none 0 0] w fun e w' => ∃ H' : Hd, ∃ b o : Nat, H'.bA = some ⟨b, o, none⟩ ∧ e = .returned (.tuple #[cval H' (tgt C0 []), .int .i64 0]) ∧ w'.cell? ⟨b, o, none⟩ = some (.int .i64 1) ∧ Fr [] w w' := by
  refine (target_calls w H0 C0 (at0 w) nil0 none 0 [] (fun h => absurd h (Nat.not_lt_zero _)) (fun j h => absurd h (Nat.not_lt_zero _)) (by simp) (Nat.le_refl _) (by simp)).mono ?_
  rintro e w' ⟨hc, hf⟩
  rcases hc with ⟨_, h⟩ | ⟨_, _, h⟩ | ⟨_, _, _, h⟩ | ⟨H', rfl, hv, hx, hl, ho⟩
  · exact absurd valid0 h
  · cases h
  · simp [C0] at h
  · have := (ho.at_ (at0 w) hv hx hl).b
    obtain ⟨b, o, h1, h2⟩ := this (by decide)
    exact ⟨H', b, o, h1, rfl, h2 0 (by decide), hf⟩

set_option maxHeartbeats 1000000 in
theorem alive_calls (w : World) : Calls Try.prog 5 #[] w fun e w' => e = .returned (.bool true) ∧ Fr [] w w' := by
  have HT := Lib.hid (target0 w)
  simp only [cval, cvs, C0, H0, tgt] at HT
  go_enter Try.func5, Try.ntmps5
  go_wp2_with fail
  refine HT.out.mono ?_
  rintro e w1 ⟨⟨iA, iC, lA, lC, oA, oC, bA, bC, vA, vC, gA, gC, nA, nC⟩, b, o, rfl, rfl, hcell, hf⟩
  have HF := Lib.hid hf
  clear hf
  have c1 : (w1.alloc (.cells #[.int .i64 0, .slice iA 0 iC, .slice lA 0 lC, .slice oA 0 oC, .slice (some ⟨b, o, none⟩) 1 bC, .slice vA 0 vC, .slice gA 0 gC, .slice nA (kept []).length nC] 27)).cell? ⟨b, o, none⟩ = some (.int .i64 1) := (box_fr _ _).cellS hcell
  go_wp2_with fail
  go_ret
  exact ⟨rfl, HF.out.alloc _⟩

end Go.Proofs.Ytbjccgahmgpkjaa
