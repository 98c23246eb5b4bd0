/-  -/
import Derived.Test.YtjchilcpflfcnaaShD
import Derived.Test.YtjchilcpflfcnaaShB
set_option linter.unusedVariables false
namespace Go.Proofs.Ytjchilcpflfcnaa
open Go.RowKit
namespace Sv
end Sv
end Go.Proofs.Ytjchilcpflfcnaa
