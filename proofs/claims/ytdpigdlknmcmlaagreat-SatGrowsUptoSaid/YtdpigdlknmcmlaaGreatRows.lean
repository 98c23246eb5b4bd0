/-
  No cell of these rows narrows 'for every input' (looked for: loops, veiled, ifaces, maps, wideKeys, modest, calm, conditions, laid).
  DERIVED. THE GIVEN ROWS OF THIS SEAT. 3 by the template 'for every input the law returns true; each argument reads behind the call as it read before'; 0 by the template 'total and deterministic' (their statements: YtdpigdlknmcmlaaGreatTotals.lean).
  GIVEN WITH THE SEED: the statements are not yours to turn. If you find one false, say at which input.
  Laid BY PROGRAM, IN A SANDBOX (cutbox-rows.mjs): the forced cells as the released guide's own fill.sh prints them over the translation caffad5226a4255a… (all of the seat's roots in one cut). By AI agents, Wed Nov 11 2026. No macro, syntax, notation, axiom, sorry.
-/
import Derived.Test.YtdpigdlknmcmlaaGreatChecked
import GoSem.Claim
import GoSem.ClaimJoined
import GoSem.ClaimMapViews
import Derived.JoinedTies
import Derived.KernelRfl
namespace Go.Proofs.YtdpigdlknmcmlaaGreat
/- THE CELL 'sum', in the pinned program and in every row, IS THE sha256 OF THE DUMP (.gsa) THAT YtdpigdlknmcmlaaGreatProg.lean LOADS. Nothing in Lean hashes anything: it is a label: what it is worth is what the hold of that sum in a sandbox is worth. -/
noncomputable def Tryz.pinned : Pinned := { name := "ytdpigdlknmcmlaagreat", sum := "caffad5226a4255aa56a52d4be77912ad12918817f9c515b74359228d9b7eb19", checked := Tryz.checked }
namespace Rows
def none {H : Type} : Left H := { results := [], args := [] }

/-- 'interlocklaw16.SatAdds': WHATEVER THE INPUT: true; the input reads as it did. -/
def satAddsSpec : ChangeSpec := { name := "satAdds", fn := fun _ => fun
  | [d1, d2, d3] => { results := [.lit (.bool true)], args := [d1, d2, d3] }
  | _ => none }
def satAddsRow : OpenClaim := { program := "ytdpigdlknmcmlaagreat", sum := "caffad5226a4255aa56a52d4be77912ad12918817f9c515b74359228d9b7eb19", func := "interlock/interlocklaw16.SatAdds", spec := "satAdds", unfollowed := true, recurses := true, apart := false }
def SatAddsSaid : Prop := satAddsRow.holds Tryz.pinned (OpenSpec.ofChange satAddsSpec)

/-- ITS FALSE NEIGHBOUR: 'it returns false'. Refute it at one input. -/
def satAddsWrong : ChangeSpec := { name := "satAdds", fn := fun _ => fun
  | [d1, d2, d3] => { results := [.lit (.bool false)], args := [d1, d2, d3] }
  | _ => none }
def SatAddsWrongFalsely : Prop := satAddsRow.holds Tryz.pinned (OpenSpec.ofChange satAddsWrong)

/-- 'interlocklaw16.SatTells': WHATEVER THE INPUT: true; the input reads as it did. -/
def satTellsSpec : ChangeSpec := { name := "satTells", fn := fun _ => fun
  | [d1, d2, d3] => { results := [.lit (.bool true)], args := [d1, d2, d3] }
  | _ => none }
def satTellsRow : OpenClaim := { program := "ytdpigdlknmcmlaagreat", sum := "caffad5226a4255aa56a52d4be77912ad12918817f9c515b74359228d9b7eb19", func := "interlock/interlocklaw16.SatTells", spec := "satTells", unfollowed := true, recurses := true, apart := false }
def SatTellsSaid : Prop := satTellsRow.holds Tryz.pinned (OpenSpec.ofChange satTellsSpec)

/-- ITS FALSE NEIGHBOUR: 'it returns false'. Refute it at one input. -/
def satTellsWrong : ChangeSpec := { name := "satTells", fn := fun _ => fun
  | [d1, d2, d3] => { results := [.lit (.bool false)], args := [d1, d2, d3] }
  | _ => none }
def SatTellsWrongFalsely : Prop := satTellsRow.holds Tryz.pinned (OpenSpec.ofChange satTellsWrong)

/-- 'interlocklaw16.SatGrows': WHATEVER THE INPUT: true; the input reads as it did. -/
def satGrowsSpec : ChangeSpec := { name := "satGrows", fn := fun _ => fun
  | [d1, d2, d3] => { results := [.lit (.bool true)], args := [d1, d2, d3] }
  | _ => none }
def satGrowsRow : OpenClaim := { program := "ytdpigdlknmcmlaagreat", sum := "caffad5226a4255aa56a52d4be77912ad12918817f9c515b74359228d9b7eb19", func := "interlock/interlocklaw16.SatGrows", spec := "satGrows", unfollowed := true, recurses := true, apart := false }
def SatGrowsSaid : Prop := satGrowsRow.holds Tryz.pinned (OpenSpec.ofChange satGrowsSpec)

/-- ITS FALSE NEIGHBOUR: 'it returns false'. Refute it at one input. -/
def satGrowsWrong : ChangeSpec := { name := "satGrows", fn := fun _ => fun
  | [d1, d2, d3] => { results := [.lit (.bool false)], args := [d1, d2, d3] }
  | _ => none }
def SatGrowsWrongFalsely : Prop := satGrowsRow.holds Tryz.pinned (OpenSpec.ofChange satGrowsWrong)

/- THE SECOND FORM. 'bulk': how many values and letters a reading holds, each counted each time it is reached (what is shared counts as often as it is met; a slice's spare places count too). A statement '..UptoSaid' is the law's where the arguments, and the package variables that the reading takes, are together of bulk at most 1048576: NARROWER than '..Said'. Prove '..Said' where nothing that the law and all that it calls make is longer than what came in: it says more and counts as full. Else prove '..UptoSaid'. A law counts once. -/
mutual
def uptoBulk {H : Type} : DataW H → Nat
  | .lit (.string bytes) => bytes.length + 1
  | .lit _ => 1
  | .nil => 1
  | .ptr d => uptoBulk d + 1
  | .slice elems spare => uptoBulkAll elems + uptoBulkAll spare + 1
  | .agg parts => uptoBulkAll parts + 1
  | .iface _ d => uptoBulk d + 1
  | .map entries => uptoBulkEntries entries + 1
  | .held _ => 1
def uptoBulkAll {H : Type} : List (DataW H) → Nat
  | [] => 0
  | d :: r => uptoBulk d + uptoBulkAll r
def uptoBulkEntries {H : Type} : List (Lit × DataW H) → Nat
  | [] => 0
  | x :: r => uptoBulkEntry x + uptoBulkEntries r
def uptoBulkEntry {H : Type} : Lit × DataW H → Nat
  | (.string bytes, d) => bytes.length + uptoBulk d + 1
  | (_, d) => uptoBulk d + 1
 end
def uptoSmall : (H : Type) → List (DataW H) → Bool := fun _ ds => decide (uptoBulkAll ds ≤ 1048576)
def OpenSpec.upto (s : _root_.Go.ChangeSpec) : _root_.Go.OpenSpec := { _root_.Go.OpenSpec.ofChange s with cond := some uptoSmall }

/-- 'interlocklaw16.SatAdds', WHERE WHAT IT READS IS OF BULK AT MOST 1048576: true; the input reads as it did. -/
def satAddsUptoRow : OpenClaim := { program := "ytdpigdlknmcmlaagreat", sum := "caffad5226a4255aa56a52d4be77912ad12918817f9c515b74359228d9b7eb19", func := "interlock/interlocklaw16.SatAdds", spec := "satAdds", unfollowed := true, recurses := true, apart := false, narrowed := true }
def SatAddsUptoSaid : Prop := satAddsUptoRow.holds Tryz.pinned (OpenSpec.upto satAddsSpec)

/-- 'interlocklaw16.SatTells', WHERE WHAT IT READS IS OF BULK AT MOST 1048576: true; the input reads as it did. -/
def satTellsUptoRow : OpenClaim := { program := "ytdpigdlknmcmlaagreat", sum := "caffad5226a4255aa56a52d4be77912ad12918817f9c515b74359228d9b7eb19", func := "interlock/interlocklaw16.SatTells", spec := "satTells", unfollowed := true, recurses := true, apart := false, narrowed := true }
def SatTellsUptoSaid : Prop := satTellsUptoRow.holds Tryz.pinned (OpenSpec.upto satTellsSpec)

/-- 'interlocklaw16.SatGrows', WHERE WHAT IT READS IS OF BULK AT MOST 1048576: true; the input reads as it did. -/
def satGrowsUptoRow : OpenClaim := { program := "ytdpigdlknmcmlaagreat", sum := "caffad5226a4255aa56a52d4be77912ad12918817f9c515b74359228d9b7eb19", func := "interlock/interlocklaw16.SatGrows", spec := "satGrows", unfollowed := true, recurses := true, apart := false, narrowed := true }
def SatGrowsUptoSaid : Prop := satGrowsUptoRow.holds Tryz.pinned (OpenSpec.upto satGrowsSpec)

end Rows
end Go.Proofs.YtdpigdlknmcmlaaGreat
