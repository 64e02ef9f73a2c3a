/- AccessFirst: the law returns true for all arguments of its types; the tied card. No condition beyond those of the statement. -/
import Derived.Test.YtlngaccdjnmgeaaDoorRA3
import Derived.Test.YtlngaccdjnmgeaaDoorGD1
import Derived.Test.YtlngaccdjnmgeaaDoorGF8
import Derived.Test.YtlngaccdjnmgeaaDoorT2
set_option linter.unusedVariables false
namespace Go.Proofs.YtlngaccdjnmgeaaDoor
open Go.V Go.RowKit

def tysF : Tys := ⟨3, 9, 4, 43, 45, 50, 22, 36, 23, 25, 27⟩
theorem tysF_ok : tysF.ok Tryd.prog = true := by decide +kernel
theorem answers3 : accessFirst.Answers := by
  rintro w a0 a1 ⟨v0, h0⟩ ⟨v1, h1⟩
  obtain ⟨p, rfl, hp⟩ := arg_Pol (T := tysF) tysF_ok h0
  obtain ⟨x, rfl, hx⟩ := arg_Ask (T := tysF) tysF_ok h1
  exact law_First alive p x hp.1.1
theorem firstCard : Rows.AccessFirstCardSaid := accessFirst.card answers3
end Go.Proofs.YtlngaccdjnmgeaaDoor
#print axioms Go.Proofs.YtlngaccdjnmgeaaDoor.firstCard
