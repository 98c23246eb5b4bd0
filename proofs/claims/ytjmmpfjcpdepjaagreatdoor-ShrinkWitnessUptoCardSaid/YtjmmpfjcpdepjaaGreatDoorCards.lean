/-
  DERIVED. GIVEN WITH THE SEED: THE CARDS: each row of YtjmmpfjcpdepjaaGreatDoorRows.lean that lists a variable, with what it lists TIED to the program's text (the seventh form; the later family's looks); each row that meets fmt, with fmt's text TOLD by the authors' own Lean function (tested against real Go, not proved from fmt's source: count such statements apart). THE CARD IS WHAT COUNTS. Prove the row's statement (the work); the ties are given (YtjmmpfjcpdepjaaGreatDoorTie.lean); close each card by the builder's one call (the guide's Derived/Test/ToyasCard.lean, 'card_holds'). Laid BY PROGRAM, IN A SANDBOX (cutbox-door.mjs). By AI agents, Wed Nov 11 2026. No macro, syntax, notation, axiom, sorry.
-/
import Derived.Test.YtjmmpfjcpdepjaaGreatDoorRows
import GoSem.ClaimSeven
namespace Go.Proofs.YtjmmpfjcpdepjaaGreatDoor
namespace Rows

/-- THE TIED CARD OF 'interlocklaw27.CheckerHolds'. -/
def checkerHoldsCard : Claim7 := { stood := { row := checkerHoldsRow, standIns := [], harness := (true, "9431e211626dfca3f68c987731475326a6c2fa621d8f970c3937c11293be3f72"), looks := true }, kinds := [], alts := [], laidByText := true, laidKinds := [.data, .pinned], laidTests := true, laidLooks := .later }
def CheckerHoldsCardSaid : Prop := Claim7.holds Tryz.pinned (.plain (OpenSpec.ofChange checkerHoldsSpec)) checkerHoldsCard

/-- THE TIED CARD OF 'interlocklaw37.ShrinkWitness'. -/
def shrinkWitnessCard : Claim7 := { stood := { row := shrinkWitnessRow, standIns := [], harness := (true, "9431e211626dfca3f68c987731475326a6c2fa621d8f970c3937c11293be3f72"), looks := true }, kinds := [], alts := [], laidByText := true, laidKinds := [.data, .pinned], laidTests := true, laidLooks := .later }
def ShrinkWitnessCardSaid : Prop := Claim7.holds Tryz.pinned (.plain (OpenSpec.ofChange shrinkWitnessSpec)) shrinkWitnessCard

/-- THE SECOND FORM's CARD OF 'interlocklaw27.CheckerHolds'. -/
def checkerHoldsUptoCard : Claim7 := { stood := { row := checkerHoldsUptoRow, standIns := [], harness := (true, "9431e211626dfca3f68c987731475326a6c2fa621d8f970c3937c11293be3f72"), looks := true }, kinds := [], alts := [], laidByText := true, laidKinds := [.data, .pinned], laidTests := true, laidLooks := .later }
def CheckerHoldsUptoCardSaid : Prop := Claim7.holds Tryz.pinned (.plain (OpenSpec.upto checkerHoldsSpec)) checkerHoldsUptoCard

/-- THE SECOND FORM's CARD OF 'interlocklaw37.ShrinkWitness'. -/
def shrinkWitnessUptoCard : Claim7 := { stood := { row := shrinkWitnessUptoRow, standIns := [], harness := (true, "9431e211626dfca3f68c987731475326a6c2fa621d8f970c3937c11293be3f72"), looks := true }, kinds := [], alts := [], laidByText := true, laidKinds := [.data, .pinned], laidTests := true, laidLooks := .later }
def ShrinkWitnessUptoCardSaid : Prop := Claim7.holds Tryz.pinned (.plain (OpenSpec.upto shrinkWitnessSpec)) shrinkWitnessUptoCard
end Rows
end Go.Proofs.YtjmmpfjcpdepjaaGreatDoor
