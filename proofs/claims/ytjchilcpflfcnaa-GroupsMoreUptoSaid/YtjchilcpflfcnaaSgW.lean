/-  -/
import Derived.Test.YtjchilcpflfcnaaSgM
import Derived.Test.YtjchilcpflfcnaaSgV
set_option linter.unusedVariables false
namespace Go.Proofs.Ytjchilcpflfcnaa
open Go.RowKit
structure Ls where
 A : Option Addr
 c : Nat
 l : List Int
instance : Inhabited Ls := ⟨⟨none, 0, []⟩⟩
def Ls.val (h : Ls) : Value := .slice h.A h.l.length h.c
def OkL (w : World) (h : Ls) : Prop := Rd w h.A h.l ∧ Ra h.l ∧ h.l.length ≤ 17592186044416 ∧ (h.A = none → h.l.length = 0 ∧ h.c = 0)
theorem OkL.keep {w w' : World} {h : Ls} (k : OkL w h) (hf : Fr [] w w') : OkL w' h := ⟨k.1.keep hf, k.2⟩
end Go.Proofs.Ytjchilcpflfcnaa
