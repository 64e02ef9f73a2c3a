/- V, proofs: names. -/
import Derived.Test.YtglabjcjfjlkoaaGreatDoorF2
import Derived.Test.YtglabjcjfjlkoaaGreatDoorU1
set_option linter.unusedVariables false
namespace Go.Proofs
open Go.V Go.RowKit
end Go.Proofs
