/-
  No cell of these rows narrows 'for every input' (looked for: loops, veiled, ifaces, maps, wideKeys, modest, calm, conditions, laid).
  DERIVED. THE GIVEN ROWS OF THIS SEAT. 2 by the template 'for every input the law returns true; each argument reads behind the call as it read before'; 0 by the template 'total and deterministic' (their statements: YtpjbaobgnhjgoaaGreatTotals.lean).
  GIVEN WITH THE SEED: the statements are not yours to turn. If you find one false, say at which input.
  Laid BY PROGRAM, IN A SANDBOX (cutbox-rows.mjs): the forced cells as the released guide's own fill.sh prints them over the translation 981e1b818c3979f7… (all of the seat's roots in one cut). By AI agents, Wed Nov 11 2026. No macro, syntax, notation, axiom, sorry.
-/
import Derived.Test.YtpjbaobgnhjgoaaGreatChecked
import GoSem.Claim
import GoSem.ClaimJoined
import GoSem.ClaimMapViews
import Derived.JoinedTies
import Derived.KernelRfl
namespace Go.Proofs.YtpjbaobgnhjgoaaGreat
/- THE CELL 'sum', in the pinned program and in every row, IS THE sha256 OF THE DUMP (.gsa) THAT YtpjbaobgnhjgoaaGreatProg.lean LOADS. Nothing in Lean hashes anything: it is a label: what it is worth is what the hold of that sum in a sandbox is worth. -/
noncomputable def Tryz.pinned : Pinned := { name := "ytpjbaobgnhjgoaagreat", sum := "981e1b818c3979f779b04a657a690033d21f6658b9495e2dd9d868b8f26947c2", checked := Tryz.checked }
namespace Rows
def none {H : Type} : Left H := { results := [], args := [] }

/-- 'interlocklaw19.BmcDeeper': WHATEVER THE INPUT: true; the input reads as it did. -/
def bmcDeeperSpec : ChangeSpec := { name := "bmcDeeper", fn := fun _ => fun
  | [d1, d2, d3, d4, d5] => { results := [.lit (.bool true)], args := [d1, d2, d3, d4, d5] }
  | _ => none }
def bmcDeeperRow : OpenClaim := { program := "ytpjbaobgnhjgoaagreat", sum := "981e1b818c3979f779b04a657a690033d21f6658b9495e2dd9d868b8f26947c2", func := "interlock/interlocklaw19.BmcDeeper", spec := "bmcDeeper", inPlace := ["internal/bytealg.IndexByteString", "internal/bytealg.IndexString", "internal/abi.NoEscape"], unfollowed := true, recurses := true, named := ["internal/bytealg.MaxLen"], apart := false }
def BmcDeeperSaid : Prop := bmcDeeperRow.holds Tryz.pinned (OpenSpec.ofChange bmcDeeperSpec)

/-- ITS FALSE NEIGHBOUR: 'it returns false'. Refute it at one input. -/
def bmcDeeperWrong : ChangeSpec := { name := "bmcDeeper", fn := fun _ => fun
  | [d1, d2, d3, d4, d5] => { results := [.lit (.bool false)], args := [d1, d2, d3, d4, d5] }
  | _ => none }
def BmcDeeperWrongFalsely : Prop := bmcDeeperRow.holds Tryz.pinned (OpenSpec.ofChange bmcDeeperWrong)

/-- 'interlocklaw20.KindLemmas': WHATEVER THE INPUT: true; the input reads as it did. -/
def kindLemmasSpec : ChangeSpec := { name := "kindLemmas", fn := fun _ => fun
  | [d1, d2, d3, d4] => { results := [.lit (.bool true)], args := [d1, d2, d3, d4] }
  | _ => none }
def kindLemmasRow : OpenClaim := { program := "ytpjbaobgnhjgoaagreat", sum := "981e1b818c3979f779b04a657a690033d21f6658b9495e2dd9d868b8f26947c2", func := "interlock/interlocklaw20.KindLemmas", spec := "kindLemmas", inPlace := ["internal/bytealg.IndexByteString", "internal/bytealg.IndexString", "internal/abi.NoEscape"], unfollowed := true, recurses := true, named := ["internal/bytealg.MaxLen"], apart := false }
def KindLemmasSaid : Prop := kindLemmasRow.holds Tryz.pinned (OpenSpec.ofChange kindLemmasSpec)

/-- ITS FALSE NEIGHBOUR: 'it returns false'. Refute it at one input. -/
def kindLemmasWrong : ChangeSpec := { name := "kindLemmas", fn := fun _ => fun
  | [d1, d2, d3, d4] => { results := [.lit (.bool false)], args := [d1, d2, d3, d4] }
  | _ => none }
def KindLemmasWrongFalsely : Prop := kindLemmasRow.holds Tryz.pinned (OpenSpec.ofChange kindLemmasWrong)

/- THE SECOND FORM. 'bulk': how many values and letters a reading holds, each counted each time it is reached (what is shared counts as often as it is met; a slice's spare places count too). A statement '..UptoSaid' is the law's where the arguments, and the package variables that the reading takes, are together of bulk at most 1048576: NARROWER than '..Said'. Prove '..Said' where nothing that the law and all that it calls make is longer than what came in: it says more and counts as full. Else prove '..UptoSaid'. A law counts once. -/
mutual
def uptoBulk {H : Type} : DataW H → Nat
  | .lit (.string bytes) => bytes.length + 1
  | .lit _ => 1
  | .nil => 1
  | .ptr d => uptoBulk d + 1
  | .slice elems spare => uptoBulkAll elems + uptoBulkAll spare + 1
  | .agg parts => uptoBulkAll parts + 1
  | .iface _ d => uptoBulk d + 1
  | .map entries => uptoBulkEntries entries + 1
  | .held _ => 1
def uptoBulkAll {H : Type} : List (DataW H) → Nat
  | [] => 0
  | d :: r => uptoBulk d + uptoBulkAll r
def uptoBulkEntries {H : Type} : List (Lit × DataW H) → Nat
  | [] => 0
  | x :: r => uptoBulkEntry x + uptoBulkEntries r
def uptoBulkEntry {H : Type} : Lit × DataW H → Nat
  | (.string bytes, d) => bytes.length + uptoBulk d + 1
  | (_, d) => uptoBulk d + 1
 end
def uptoSmall : (H : Type) → List (DataW H) → Bool := fun _ ds => decide (uptoBulkAll ds ≤ 1048576)
def OpenSpec.upto (s : _root_.Go.ChangeSpec) : _root_.Go.OpenSpec := { _root_.Go.OpenSpec.ofChange s with cond := some uptoSmall }

/-- 'interlocklaw19.BmcDeeper', WHERE WHAT IT READS IS OF BULK AT MOST 1048576: true; the input reads as it did. -/
def bmcDeeperUptoRow : OpenClaim := { program := "ytpjbaobgnhjgoaagreat", sum := "981e1b818c3979f779b04a657a690033d21f6658b9495e2dd9d868b8f26947c2", func := "interlock/interlocklaw19.BmcDeeper", spec := "bmcDeeper", inPlace := ["internal/bytealg.IndexByteString", "internal/bytealg.IndexString", "internal/abi.NoEscape"], unfollowed := true, recurses := true, named := ["internal/bytealg.MaxLen"], apart := false, narrowed := true }
def BmcDeeperUptoSaid : Prop := bmcDeeperUptoRow.holds Tryz.pinned (OpenSpec.upto bmcDeeperSpec)

/-- 'interlocklaw20.KindLemmas', WHERE WHAT IT READS IS OF BULK AT MOST 1048576: true; the input reads as it did. -/
def kindLemmasUptoRow : OpenClaim := { program := "ytpjbaobgnhjgoaagreat", sum := "981e1b818c3979f779b04a657a690033d21f6658b9495e2dd9d868b8f26947c2", func := "interlock/interlocklaw20.KindLemmas", spec := "kindLemmas", inPlace := ["internal/bytealg.IndexByteString", "internal/bytealg.IndexString", "internal/abi.NoEscape"], unfollowed := true, recurses := true, named := ["internal/bytealg.MaxLen"], apart := false, narrowed := true }
def KindLemmasUptoSaid : Prop := kindLemmasUptoRow.holds Tryz.pinned (OpenSpec.upto kindLemmasSpec)

end Rows
end Go.Proofs.YtpjbaobgnhjgoaaGreat
