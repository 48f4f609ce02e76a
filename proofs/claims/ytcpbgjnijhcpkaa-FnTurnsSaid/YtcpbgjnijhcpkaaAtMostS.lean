/-
  AtMostForm: contracts in the reference.
-/
import Derived.Test.YtcpbgjnijhcpkaaAtMostP
import Derived.Test.YtcpbgjnijhcpkaaConcat
import Derived.Test.YtcpbgjnijhcpkaaStepI
import Derived.IntWalk
namespace Go.Proofs.Ytcpbgjnijhcpkaa
open Go.RowKit
set_option linter.unusedVariables false
set_option maxRecDepth 100000
end Go.Proofs.Ytcpbgjnijhcpkaa
