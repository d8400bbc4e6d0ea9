/- What is believed, given a set: the reference's walk. -/
import Derived.Test.YtkpnenbkfphldaaV8
set_option linter.unusedVariables false
set_option linter.unusedSimpArgs false
namespace Go.Proofs.Ytkpnenbkfphldaa
open Go.RowKit

end Go.Proofs.Ytkpnenbkfphldaa
