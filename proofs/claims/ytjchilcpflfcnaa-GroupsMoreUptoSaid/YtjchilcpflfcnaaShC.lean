/-  -/
import Derived.Test.YtjchilcpflfcnaaSgW
import Derived.Laws.IdiomStrings
import Derived.StillTailTactics
set_option linter.unusedVariables false
namespace Go.Proofs.Ytjchilcpflfcnaa
open Go.RowKit
namespace Txs
variable {w w' : World} {A : Option Addr} {c : Nat} {ss : List (List Bool)}
end Txs
end Go.Proofs.Ytjchilcpflfcnaa
