/-
  No cell of these rows narrows 'for every input' (looked for: loops, veiled, ifaces, maps, wideKeys, modest, calm, conditions, laid).
  DERIVED. THE GIVEN ROWS OF THIS SEAT. 8 by the template 'for every input the law returns true; each argument reads behind the call as it read before'; 0 by the template 'total and deterministic' (their statements: YtnbpnpodpnlamaaTotals.lean).
  GIVEN WITH THE SEED: the statements are not yours to turn. If you find one false, say at which input.
  Laid BY PROGRAM, IN A SANDBOX (cutbox-rows.mjs): the forced cells as the released guide's own fill.sh prints them over the translation f49df6bbf75e92f8… (all of the seat's roots in one cut). By AI agents, Wed Nov 11 2026. No macro, syntax, notation, axiom, sorry.
-/
import Derived.Test.YtnbpnpodpnlamaaChecked
import GoSem.Claim
import GoSem.ClaimJoined
import GoSem.ClaimMapViews
import Derived.JoinedTies
import Derived.KernelRfl
namespace Go.Proofs.Ytnbpnpodpnlamaa
/- THE CELL 'sum', in the pinned program and in every row, IS THE sha256 OF THE DUMP (.gsa) THAT YtnbpnpodpnlamaaProg.lean LOADS. Nothing in Lean hashes anything: it is a label: what it is worth is what the hold of that sum in a sandbox is worth. -/
noncomputable def Try.pinned : Pinned := { name := "ytnbpnpodpnlamaa", sum := "f49df6bbf75e92f8c2d87ccbafd7dc51cf088f4d52fd3bf4d969c42228d67ef4", checked := Try.checked }
namespace Rows
def none {H : Type} : Left H := { results := [], args := [] }

/-- 'interlocklaw15.TrailBack': WHATEVER THE INPUT: true; the input reads as it did. -/
def trailBackSpec : ChangeSpec := { name := "trailBack", fn := fun _ => fun
  | [d1, d2] => { results := [.lit (.bool true)], args := [d1, d2] }
  | _ => none }
def trailBackRow : OpenClaim := { program := "ytnbpnpodpnlamaa", sum := "f49df6bbf75e92f8c2d87ccbafd7dc51cf088f4d52fd3bf4d969c42228d67ef4", func := "interlock/interlocklaw15.TrailBack", spec := "trailBack", apart := false }
def TrailBackSaid : Prop := trailBackRow.holds Try.pinned (OpenSpec.ofChange trailBackSpec)

/-- ITS FALSE NEIGHBOUR: 'it returns false'. Refute it at one input. -/
def trailBackWrong : ChangeSpec := { name := "trailBack", fn := fun _ => fun
  | [d1, d2] => { results := [.lit (.bool false)], args := [d1, d2] }
  | _ => none }
def TrailBackWrongFalsely : Prop := trailBackRow.holds Try.pinned (OpenSpec.ofChange trailBackWrong)

/-- 'interlocklaw23.QueueChains': WHATEVER THE INPUT: true; the input reads as it did. -/
def queueChainsSpec : ChangeSpec := { name := "queueChains", fn := fun _ => fun
  | [d] => { results := [.lit (.bool true)], args := [d] }
  | _ => none }
def queueChainsRow : OpenClaim := { program := "ytnbpnpodpnlamaa", sum := "f49df6bbf75e92f8c2d87ccbafd7dc51cf088f4d52fd3bf4d969c42228d67ef4", func := "interlock/interlocklaw23.QueueChains", spec := "queueChains", unfollowed := true, recurses := true, apart := false }
def QueueChainsSaid : Prop := queueChainsRow.holds Try.pinned (OpenSpec.ofChange queueChainsSpec)

/-- ITS FALSE NEIGHBOUR: 'it returns false'. Refute it at one input. -/
def queueChainsWrong : ChangeSpec := { name := "queueChains", fn := fun _ => fun
  | [d] => { results := [.lit (.bool false)], args := [d] }
  | _ => none }
def QueueChainsWrongFalsely : Prop := queueChainsRow.holds Try.pinned (OpenSpec.ofChange queueChainsWrong)

/-- 'interlocklaw14.HeapRuns': WHATEVER THE INPUT: true; the input reads as it did. -/
def heapRunsSpec : ChangeSpec := { name := "heapRuns", fn := fun _ => fun
  | [d1, d2] => { results := [.lit (.bool true)], args := [d1, d2] }
  | _ => none }
def heapRunsRow : OpenClaim := { program := "ytnbpnpodpnlamaa", sum := "f49df6bbf75e92f8c2d87ccbafd7dc51cf088f4d52fd3bf4d969c42228d67ef4", func := "interlock/interlocklaw14.HeapRuns", spec := "heapRuns", unfollowed := true, recurses := true, apart := false }
def HeapRunsSaid : Prop := heapRunsRow.holds Try.pinned (OpenSpec.ofChange heapRunsSpec)

/-- ITS FALSE NEIGHBOUR: 'it returns false'. Refute it at one input. -/
def heapRunsWrong : ChangeSpec := { name := "heapRuns", fn := fun _ => fun
  | [d1, d2] => { results := [.lit (.bool false)], args := [d1, d2] }
  | _ => none }
def HeapRunsWrongFalsely : Prop := heapRunsRow.holds Try.pinned (OpenSpec.ofChange heapRunsWrong)

/-- 'interlocklaw14.HeapNobody': WHATEVER THE INPUT: true; the input reads as it did. -/
def heapNobodySpec : ChangeSpec := { name := "heapNobody", fn := fun _ => fun
  | [d] => { results := [.lit (.bool true)], args := [d] }
  | _ => none }
def heapNobodyRow : OpenClaim := { program := "ytnbpnpodpnlamaa", sum := "f49df6bbf75e92f8c2d87ccbafd7dc51cf088f4d52fd3bf4d969c42228d67ef4", func := "interlock/interlocklaw14.HeapNobody", spec := "heapNobody", unfollowed := true, recurses := true, apart := false }
def HeapNobodySaid : Prop := heapNobodyRow.holds Try.pinned (OpenSpec.ofChange heapNobodySpec)

/-- ITS FALSE NEIGHBOUR: 'it returns false'. Refute it at one input. -/
def heapNobodyWrong : ChangeSpec := { name := "heapNobody", fn := fun _ => fun
  | [d] => { results := [.lit (.bool false)], args := [d] }
  | _ => none }
def HeapNobodyWrongFalsely : Prop := heapNobodyRow.holds Try.pinned (OpenSpec.ofChange heapNobodyWrong)

/-- 'interlocklaw15.TrailRuns': WHATEVER THE INPUT: true; the input reads as it did. -/
def trailRunsSpec : ChangeSpec := { name := "trailRuns", fn := fun _ => fun
  | [d1, d2] => { results := [.lit (.bool true)], args := [d1, d2] }
  | _ => none }
def trailRunsRow : OpenClaim := { program := "ytnbpnpodpnlamaa", sum := "f49df6bbf75e92f8c2d87ccbafd7dc51cf088f4d52fd3bf4d969c42228d67ef4", func := "interlock/interlocklaw15.TrailRuns", spec := "trailRuns", apart := false }
def TrailRunsSaid : Prop := trailRunsRow.holds Try.pinned (OpenSpec.ofChange trailRunsSpec)

/-- ITS FALSE NEIGHBOUR: 'it returns false'. Refute it at one input. -/
def trailRunsWrong : ChangeSpec := { name := "trailRuns", fn := fun _ => fun
  | [d1, d2] => { results := [.lit (.bool false)], args := [d1, d2] }
  | _ => none }
def TrailRunsWrongFalsely : Prop := trailRunsRow.holds Try.pinned (OpenSpec.ofChange trailRunsWrong)

/-- 'interlocklaw15.TrailNobody': WHATEVER THE INPUT: true; the input reads as it did. -/
def trailNobodySpec : ChangeSpec := { name := "trailNobody", fn := fun _ => fun
  | [d1, d2] => { results := [.lit (.bool true)], args := [d1, d2] }
  | _ => none }
def trailNobodyRow : OpenClaim := { program := "ytnbpnpodpnlamaa", sum := "f49df6bbf75e92f8c2d87ccbafd7dc51cf088f4d52fd3bf4d969c42228d67ef4", func := "interlock/interlocklaw15.TrailNobody", spec := "trailNobody", apart := false }
def TrailNobodySaid : Prop := trailNobodyRow.holds Try.pinned (OpenSpec.ofChange trailNobodySpec)

/-- ITS FALSE NEIGHBOUR: 'it returns false'. Refute it at one input. -/
def trailNobodyWrong : ChangeSpec := { name := "trailNobody", fn := fun _ => fun
  | [d1, d2] => { results := [.lit (.bool false)], args := [d1, d2] }
  | _ => none }
def TrailNobodyWrongFalsely : Prop := trailNobodyRow.holds Try.pinned (OpenSpec.ofChange trailNobodyWrong)

/-- 'interlocklaw23.QueueRuns': WHATEVER THE INPUT: true; the input reads as it did. -/
def queueRunsSpec : ChangeSpec := { name := "queueRuns", fn := fun _ => fun
  | [d] => { results := [.lit (.bool true)], args := [d] }
  | _ => none }
def queueRunsRow : OpenClaim := { program := "ytnbpnpodpnlamaa", sum := "f49df6bbf75e92f8c2d87ccbafd7dc51cf088f4d52fd3bf4d969c42228d67ef4", func := "interlock/interlocklaw23.QueueRuns", spec := "queueRuns", unfollowed := true, recurses := true, apart := false }
def QueueRunsSaid : Prop := queueRunsRow.holds Try.pinned (OpenSpec.ofChange queueRunsSpec)

/-- ITS FALSE NEIGHBOUR: 'it returns false'. Refute it at one input. -/
def queueRunsWrong : ChangeSpec := { name := "queueRuns", fn := fun _ => fun
  | [d] => { results := [.lit (.bool false)], args := [d] }
  | _ => none }
def QueueRunsWrongFalsely : Prop := queueRunsRow.holds Try.pinned (OpenSpec.ofChange queueRunsWrong)

/-- 'interlocklaw23.QueueNobody': WHATEVER THE INPUT: true; the input reads as it did. -/
def queueNobodySpec : ChangeSpec := { name := "queueNobody", fn := fun _ => fun
  | [d1, d2] => { results := [.lit (.bool true)], args := [d1, d2] }
  | _ => none }
def queueNobodyRow : OpenClaim := { program := "ytnbpnpodpnlamaa", sum := "f49df6bbf75e92f8c2d87ccbafd7dc51cf088f4d52fd3bf4d969c42228d67ef4", func := "interlock/interlocklaw23.QueueNobody", spec := "queueNobody", unfollowed := true, recurses := true, apart := false }
def QueueNobodySaid : Prop := queueNobodyRow.holds Try.pinned (OpenSpec.ofChange queueNobodySpec)

/-- ITS FALSE NEIGHBOUR: 'it returns false'. Refute it at one input. -/
def queueNobodyWrong : ChangeSpec := { name := "queueNobody", fn := fun _ => fun
  | [d1, d2] => { results := [.lit (.bool false)], args := [d1, d2] }
  | _ => none }
def QueueNobodyWrongFalsely : Prop := queueNobodyRow.holds Try.pinned (OpenSpec.ofChange queueNobodyWrong)

/- THE SECOND FORM. 'bulk': how many values and letters a reading holds, each counted each time it is reached (what is shared counts as often as it is met; a slice's spare places count too). A statement '..UptoSaid' is the law's where the arguments, and the package variables that the reading takes, are together of bulk at most 1048576: NARROWER than '..Said'. Prove '..Said' where nothing that the law and all that it calls make is longer than what came in: it says more and counts as full. Else prove '..UptoSaid'. A law counts once. -/
mutual
def uptoBulk {H : Type} : DataW H → Nat
  | .lit (.string bytes) => bytes.length + 1
  | .lit _ => 1
  | .nil => 1
  | .ptr d => uptoBulk d + 1
  | .slice elems spare => uptoBulkAll elems + uptoBulkAll spare + 1
  | .agg parts => uptoBulkAll parts + 1
  | .iface _ d => uptoBulk d + 1
  | .map entries => uptoBulkEntries entries + 1
  | .held _ => 1
def uptoBulkAll {H : Type} : List (DataW H) → Nat
  | [] => 0
  | d :: r => uptoBulk d + uptoBulkAll r
def uptoBulkEntries {H : Type} : List (Lit × DataW H) → Nat
  | [] => 0
  | x :: r => uptoBulkEntry x + uptoBulkEntries r
def uptoBulkEntry {H : Type} : Lit × DataW H → Nat
  | (.string bytes, d) => bytes.length + uptoBulk d + 1
  | (_, d) => uptoBulk d + 1
 end
def uptoSmall : (H : Type) → List (DataW H) → Bool := fun _ ds => decide (uptoBulkAll ds ≤ 1048576)
def OpenSpec.upto (s : _root_.Go.ChangeSpec) : _root_.Go.OpenSpec := { _root_.Go.OpenSpec.ofChange s with cond := some uptoSmall }

/-- 'interlocklaw15.TrailBack', WHERE WHAT IT READS IS OF BULK AT MOST 1048576: true; the input reads as it did. -/
def trailBackUptoRow : OpenClaim := { program := "ytnbpnpodpnlamaa", sum := "f49df6bbf75e92f8c2d87ccbafd7dc51cf088f4d52fd3bf4d969c42228d67ef4", func := "interlock/interlocklaw15.TrailBack", spec := "trailBack", apart := false, narrowed := true }
def TrailBackUptoSaid : Prop := trailBackUptoRow.holds Try.pinned (OpenSpec.upto trailBackSpec)

/-- 'interlocklaw23.QueueChains', WHERE WHAT IT READS IS OF BULK AT MOST 1048576: true; the input reads as it did. -/
def queueChainsUptoRow : OpenClaim := { program := "ytnbpnpodpnlamaa", sum := "f49df6bbf75e92f8c2d87ccbafd7dc51cf088f4d52fd3bf4d969c42228d67ef4", func := "interlock/interlocklaw23.QueueChains", spec := "queueChains", unfollowed := true, recurses := true, apart := false, narrowed := true }
def QueueChainsUptoSaid : Prop := queueChainsUptoRow.holds Try.pinned (OpenSpec.upto queueChainsSpec)

/-- 'interlocklaw14.HeapRuns', WHERE WHAT IT READS IS OF BULK AT MOST 1048576: true; the input reads as it did. -/
def heapRunsUptoRow : OpenClaim := { program := "ytnbpnpodpnlamaa", sum := "f49df6bbf75e92f8c2d87ccbafd7dc51cf088f4d52fd3bf4d969c42228d67ef4", func := "interlock/interlocklaw14.HeapRuns", spec := "heapRuns", unfollowed := true, recurses := true, apart := false, narrowed := true }
def HeapRunsUptoSaid : Prop := heapRunsUptoRow.holds Try.pinned (OpenSpec.upto heapRunsSpec)

/-- 'interlocklaw14.HeapNobody', WHERE WHAT IT READS IS OF BULK AT MOST 1048576: true; the input reads as it did. -/
def heapNobodyUptoRow : OpenClaim := { program := "ytnbpnpodpnlamaa", sum := "f49df6bbf75e92f8c2d87ccbafd7dc51cf088f4d52fd3bf4d969c42228d67ef4", func := "interlock/interlocklaw14.HeapNobody", spec := "heapNobody", unfollowed := true, recurses := true, apart := false, narrowed := true }
def HeapNobodyUptoSaid : Prop := heapNobodyUptoRow.holds Try.pinned (OpenSpec.upto heapNobodySpec)

/-- 'interlocklaw15.TrailRuns', WHERE WHAT IT READS IS OF BULK AT MOST 1048576: true; the input reads as it did. -/
def trailRunsUptoRow : OpenClaim := { program := "ytnbpnpodpnlamaa", sum := "f49df6bbf75e92f8c2d87ccbafd7dc51cf088f4d52fd3bf4d969c42228d67ef4", func := "interlock/interlocklaw15.TrailRuns", spec := "trailRuns", apart := false, narrowed := true }
def TrailRunsUptoSaid : Prop := trailRunsUptoRow.holds Try.pinned (OpenSpec.upto trailRunsSpec)

/-- 'interlocklaw15.TrailNobody', WHERE WHAT IT READS IS OF BULK AT MOST 1048576: true; the input reads as it did. -/
def trailNobodyUptoRow : OpenClaim := { program := "ytnbpnpodpnlamaa", sum := "f49df6bbf75e92f8c2d87ccbafd7dc51cf088f4d52fd3bf4d969c42228d67ef4", func := "interlock/interlocklaw15.TrailNobody", spec := "trailNobody", apart := false, narrowed := true }
def TrailNobodyUptoSaid : Prop := trailNobodyUptoRow.holds Try.pinned (OpenSpec.upto trailNobodySpec)

/-- 'interlocklaw23.QueueRuns', WHERE WHAT IT READS IS OF BULK AT MOST 1048576: true; the input reads as it did. -/
def queueRunsUptoRow : OpenClaim := { program := "ytnbpnpodpnlamaa", sum := "f49df6bbf75e92f8c2d87ccbafd7dc51cf088f4d52fd3bf4d969c42228d67ef4", func := "interlock/interlocklaw23.QueueRuns", spec := "queueRuns", unfollowed := true, recurses := true, apart := false, narrowed := true }
def QueueRunsUptoSaid : Prop := queueRunsUptoRow.holds Try.pinned (OpenSpec.upto queueRunsSpec)

/-- 'interlocklaw23.QueueNobody', WHERE WHAT IT READS IS OF BULK AT MOST 1048576: true; the input reads as it did. -/
def queueNobodyUptoRow : OpenClaim := { program := "ytnbpnpodpnlamaa", sum := "f49df6bbf75e92f8c2d87ccbafd7dc51cf088f4d52fd3bf4d969c42228d67ef4", func := "interlock/interlocklaw23.QueueNobody", spec := "queueNobody", unfollowed := true, recurses := true, apart := false, narrowed := true }
def QueueNobodyUptoSaid : Prop := queueNobodyUptoRow.holds Try.pinned (OpenSpec.upto queueNobodySpec)

end Rows
end Go.Proofs.Ytnbpnpodpnlamaa
