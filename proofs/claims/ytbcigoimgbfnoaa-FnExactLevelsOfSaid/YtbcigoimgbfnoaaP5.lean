/- Sums of the parts within a set, and of those that hold it. -/
import Derived.Test.YtbcigoimgbfnoaaP4
set_option linter.unusedVariables false
set_option linter.unusedSimpArgs false
namespace Go.Proofs.Ytbcigoimgbfnoaa
open Go.RowKit

def inSet (a b : Nat) : Bool := subB b a

end Go.Proofs.Ytbcigoimgbfnoaa
