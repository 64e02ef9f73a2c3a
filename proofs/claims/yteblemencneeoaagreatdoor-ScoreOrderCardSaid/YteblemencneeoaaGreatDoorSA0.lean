/- V, proofs: names. -/
import Derived.Test.YteblemencneeoaaGreatDoorF2
import Derived.Test.YteblemencneeoaaGreatDoorU1
set_option linter.unusedVariables false
namespace Go.Proofs
open Go.V Go.RowKit
end Go.Proofs
