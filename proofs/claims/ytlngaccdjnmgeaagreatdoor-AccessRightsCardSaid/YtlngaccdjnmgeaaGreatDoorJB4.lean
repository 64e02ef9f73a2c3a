/- AccessRights: the law returns true for all arguments of its types; the tied card. No condition beyond those of the statement. -/
import Derived.Test.YtlngaccdjnmgeaaGreatDoorRB4
import Derived.Test.YtlngaccdjnmgeaaGreatDoorGD1
import Derived.Test.YtlngaccdjnmgeaaGreatDoorGH14
import Derived.Test.YtlngaccdjnmgeaaGreatDoorT2
set_option linter.unusedVariables false
namespace Go.Proofs.YtlngaccdjnmgeaaGreatDoor
open Go.V Go.RowKit

def tysR : Tys := ⟨3, 9, 4, 45, 41, 53, 22, 51, 23, 25, 32⟩
theorem tysR_ok : tysR.ok Tryz.prog = true := by decide +kernel
theorem answersR : accessRights.Answers := by
  rintro w a0 a1 ⟨v0, h0⟩ ⟨v1, h1⟩
  obtain ⟨p, rfl, hp⟩ := arg_Pol (T := tysR) tysR_ok h0
  obtain ⟨q, rfl, hq⟩ := arg_Pol (T := tysR) tysR_ok h1
  exact law_Rights alive p q hp.1.1 hq.1.1 fun r hr => (hp.2.2 r hr).2.1
theorem rightsCard : Rows.AccessRightsCardSaid := accessRights.card answersR
end Go.Proofs.YtlngaccdjnmgeaaGreatDoor
#print axioms Go.Proofs.YtlngaccdjnmgeaaGreatDoor.rightsCard
