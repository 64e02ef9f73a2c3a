/- V, proofs: names. -/
import Derived.Test.YteekodocdhapdaaGreatDoorF2
import Derived.Test.YteekodocdhapdaaGreatDoorU1
set_option linter.unusedVariables false
namespace Go.Proofs
open Go.V Go.RowKit
end Go.Proofs
