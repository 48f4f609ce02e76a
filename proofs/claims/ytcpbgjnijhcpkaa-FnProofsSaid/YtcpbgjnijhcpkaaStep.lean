/-
  Laws on append at a step of a region that draws its order: integers behind a slice of integers of the call's own, a row behind a slice of slices of the call's own.
-/
import Derived.Test.YtcpbgjnijhcpkaaAppII
import Derived.Test.YtcpbgjnijhcpkaaStepI
import Derived.Test.YtcpbgjnijhcpkaaConcat
import Derived.Deep.RegionHeld3
namespace Go.Proofs.Ytcpbgjnijhcpkaa
open Go.RowKit
set_option linter.unusedVariables false
set_option maxRecDepth 100000

end Go.Proofs.Ytcpbgjnijhcpkaa
