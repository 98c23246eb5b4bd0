/-
  No cell of these rows narrows 'for every input' (looked for: loops, veiled, ifaces, maps, wideKeys, modest, calm, conditions, laid).
  DERIVED. THE GIVEN ROWS OF THIS SEAT. 2 by the template 'for every input the law returns true; each argument reads behind the call as it read before'; 0 by the template 'total and deterministic' (their statements: YtbjccgahmgpkjaaTotals.lean).
  GIVEN WITH THE SEED: the statements are not yours to turn. If you find one false, say at which input.
  Laid BY PROGRAM, IN A SANDBOX (cutbox-rows.mjs): the forced cells as the released guide's own fill.sh prints them over the translation 97c854aa243b51bb… (all of the seat's roots in one cut). By AI agents, Wed Nov 11 2026. No macro, syntax, notation, axiom, sorry.
-/
import Derived.Test.YtbjccgahmgpkjaaChecked
import GoSem.Claim
import GoSem.ClaimJoined
import GoSem.ClaimMapViews
import Derived.JoinedTies
import Derived.KernelRfl
namespace Go.Proofs.Ytbjccgahmgpkjaa
/- THE CELL 'sum', in the pinned program and in every row, IS THE sha256 OF THE DUMP (.gsa) THAT YtbjccgahmgpkjaaProg.lean LOADS. Nothing in Lean hashes anything: it is a label: what it is worth is what the hold of that sum in a sandbox is worth. -/
noncomputable def Try.pinned : Pinned := { name := "ytbjccgahmgpkjaa", sum := "97c854aa243b51bb77b24c737994d2fe793b6fb5376cf066a67122e63fa70739", checked := Try.checked }
namespace Rows
def none {H : Type} : Left H := { results := [], args := [] }

/-- 'interlocklaw31.ProveTarget': WHATEVER THE INPUT: true; the input reads as it did. -/
def proveTargetSpec : ChangeSpec := { name := "proveTarget", fn := fun _ => fun
  | [d1, d2, d3, d4] => { results := [.lit (.bool true)], args := [d1, d2, d3, d4] }
  | _ => none }
def proveTargetRow : OpenClaim := { program := "ytbjccgahmgpkjaa", sum := "97c854aa243b51bb77b24c737994d2fe793b6fb5376cf066a67122e63fa70739", func := "interlock/interlocklaw31.ProveTarget", spec := "proveTarget", inPlace := ["internal/bytealg.IndexByteString", "internal/bytealg.IndexString"], unfollowed := true, recurses := true, named := ["internal/bytealg.MaxLen"], apart := false }
def ProveTargetSaid : Prop := proveTargetRow.holds Try.pinned (OpenSpec.ofChange proveTargetSpec)

/-- ITS FALSE NEIGHBOUR: 'it returns false'. Refute it at one input. -/
def proveTargetWrong : ChangeSpec := { name := "proveTarget", fn := fun _ => fun
  | [d1, d2, d3, d4] => { results := [.lit (.bool false)], args := [d1, d2, d3, d4] }
  | _ => none }
def ProveTargetWrongFalsely : Prop := proveTargetRow.holds Try.pinned (OpenSpec.ofChange proveTargetWrong)

/-- 'interlocklaw31.ProveQuestion': WHATEVER THE INPUT: true; the input reads as it did. -/
def proveQuestionSpec : ChangeSpec := { name := "proveQuestion", fn := fun _ => fun
  | [d1, d2, d3, d4, d5, d6] => { results := [.lit (.bool true)], args := [d1, d2, d3, d4, d5, d6] }
  | _ => none }
def proveQuestionRow : OpenClaim := { program := "ytbjccgahmgpkjaa", sum := "97c854aa243b51bb77b24c737994d2fe793b6fb5376cf066a67122e63fa70739", func := "interlock/interlocklaw31.ProveQuestion", spec := "proveQuestion", inPlace := ["internal/bytealg.IndexByteString", "internal/bytealg.IndexString"], unfollowed := true, recurses := true, named := ["internal/bytealg.MaxLen"], apart := false }
def ProveQuestionSaid : Prop := proveQuestionRow.holds Try.pinned (OpenSpec.ofChange proveQuestionSpec)

/-- ITS FALSE NEIGHBOUR: 'it returns false'. Refute it at one input. -/
def proveQuestionWrong : ChangeSpec := { name := "proveQuestion", fn := fun _ => fun
  | [d1, d2, d3, d4, d5, d6] => { results := [.lit (.bool false)], args := [d1, d2, d3, d4, d5, d6] }
  | _ => none }
def ProveQuestionWrongFalsely : Prop := proveQuestionRow.holds Try.pinned (OpenSpec.ofChange proveQuestionWrong)

/- THE SECOND FORM. 'bulk': how many values and letters a reading holds, each counted each time it is reached (what is shared counts as often as it is met; a slice's spare places count too). A statement '..UptoSaid' is the law's where the arguments, and the package variables that the reading takes, are together of bulk at most 1048576: NARROWER than '..Said'. Prove '..Said' where nothing that the law and all that it calls make is longer than what came in: it says more and counts as full. Else prove '..UptoSaid'. A law counts once. -/
mutual
def uptoBulk {H : Type} : DataW H → Nat
  | .lit (.string bytes) => bytes.length + 1
  | .lit _ => 1
  | .nil => 1
  | .ptr d => uptoBulk d + 1
  | .slice elems spare => uptoBulkAll elems + uptoBulkAll spare + 1
  | .agg parts => uptoBulkAll parts + 1
  | .iface _ d => uptoBulk d + 1
  | .map entries => uptoBulkEntries entries + 1
  | .held _ => 1
def uptoBulkAll {H : Type} : List (DataW H) → Nat
  | [] => 0
  | d :: r => uptoBulk d + uptoBulkAll r
def uptoBulkEntries {H : Type} : List (Lit × DataW H) → Nat
  | [] => 0
  | x :: r => uptoBulkEntry x + uptoBulkEntries r
def uptoBulkEntry {H : Type} : Lit × DataW H → Nat
  | (.string bytes, d) => bytes.length + uptoBulk d + 1
  | (_, d) => uptoBulk d + 1
 end
def uptoSmall : (H : Type) → List (DataW H) → Bool := fun _ ds => decide (uptoBulkAll ds ≤ 1048576)
def OpenSpec.upto (s : _root_.Go.ChangeSpec) : _root_.Go.OpenSpec := { _root_.Go.OpenSpec.ofChange s with cond := some uptoSmall }

/-- 'interlocklaw31.ProveTarget', WHERE WHAT IT READS IS OF BULK AT MOST 1048576: true; the input reads as it did. -/
def proveTargetUptoRow : OpenClaim := { program := "ytbjccgahmgpkjaa", sum := "97c854aa243b51bb77b24c737994d2fe793b6fb5376cf066a67122e63fa70739", func := "interlock/interlocklaw31.ProveTarget", spec := "proveTarget", inPlace := ["internal/bytealg.IndexByteString", "internal/bytealg.IndexString"], unfollowed := true, recurses := true, named := ["internal/bytealg.MaxLen"], apart := false, narrowed := true }
def ProveTargetUptoSaid : Prop := proveTargetUptoRow.holds Try.pinned (OpenSpec.upto proveTargetSpec)

/-- 'interlocklaw31.ProveQuestion', WHERE WHAT IT READS IS OF BULK AT MOST 1048576: true; the input reads as it did. -/
def proveQuestionUptoRow : OpenClaim := { program := "ytbjccgahmgpkjaa", sum := "97c854aa243b51bb77b24c737994d2fe793b6fb5376cf066a67122e63fa70739", func := "interlock/interlocklaw31.ProveQuestion", spec := "proveQuestion", inPlace := ["internal/bytealg.IndexByteString", "internal/bytealg.IndexString"], unfollowed := true, recurses := true, named := ["internal/bytealg.MaxLen"], apart := false, narrowed := true }
def ProveQuestionUptoSaid : Prop := proveQuestionUptoRow.holds Try.pinned (OpenSpec.upto proveQuestionSpec)

end Rows
end Go.Proofs.Ytbjccgahmgpkjaa
