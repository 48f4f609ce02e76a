/-
  Whether all literals of one list stand in another, in the reference and in the program.
-/
import Derived.Test.YtdeelgnfnhdklaaPure
namespace Go.Proofs.Ytdeelgnfnhdklaa
open Go.RowKit
set_option linter.unusedVariables false

def isPart (xs bs : List Int) : Bool := xs.all (hasI bs)
end Go.Proofs.Ytdeelgnfnhdklaa
