/-
  A block of two cells (XTwoC), beside the contracts on models.
-/
import Derived.Test.YtcpbgjnijhcpkaaModels
import Derived.Test.YtcpbgjnijhcpkaaTwoC
namespace Go.Proofs.Ytcpbgjnijhcpkaa
end Go.Proofs.Ytcpbgjnijhcpkaa
