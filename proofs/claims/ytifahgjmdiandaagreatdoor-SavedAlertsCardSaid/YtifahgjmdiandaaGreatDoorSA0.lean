/- V, proofs: names. -/
import Derived.Test.YtifahgjmdiandaaGreatDoorF2
import Derived.Test.YtifahgjmdiandaaGreatDoorU1
set_option linter.unusedVariables false
namespace Go.Proofs
open Go.V Go.RowKit
end Go.Proofs
