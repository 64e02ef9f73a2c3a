/- AccessCans: the law returns true for all arguments of its types; the tied card. No condition beyond those of the statement. -/
import Derived.Test.YtlngaccdjnmgeaaGreatDoorRB2
import Derived.Test.YtlngaccdjnmgeaaGreatDoorGD1
import Derived.Test.YtlngaccdjnmgeaaGreatDoorGH10
import Derived.Test.YtlngaccdjnmgeaaGreatDoorT2
set_option linter.unusedVariables false
namespace Go.Proofs.YtlngaccdjnmgeaaGreatDoor
open Go.V Go.RowKit

def tysC : Tys := ⟨3, 9, 4, 45, 41, 53, 22, 51, 23, 25, 32⟩
theorem tysC_ok : tysC.ok Tryz.prog = true := by decide +kernel
theorem answersC : accessCans.Answers := by
  rintro w a0 a1 ⟨v0, h0⟩ ⟨v1, h1⟩
  obtain ⟨p, rfl, hp⟩ := arg_Pol (T := tysC) tysC_ok h0
  obtain ⟨x, rfl, hx⟩ := arg_Ask (T := tysC) tysC_ok h1
  exact law_Cans alive p x hp.1.1 fun r hr => (hp.2.2 r hr).2.1
theorem cansCard : Rows.AccessCansCardSaid := accessCans.card answersC
end Go.Proofs.YtlngaccdjnmgeaaGreatDoor
#print axioms Go.Proofs.YtlngaccdjnmgeaaGreatDoor.cansCard
