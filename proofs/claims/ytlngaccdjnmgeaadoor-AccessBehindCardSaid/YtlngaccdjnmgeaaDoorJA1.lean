/- AccessBehind: the law returns true for all arguments of its types; the tied card. No condition beyond those of the statement. -/
import Derived.Test.YtlngaccdjnmgeaaDoorRA1
import Derived.Test.YtlngaccdjnmgeaaDoorGD1
import Derived.Test.YtlngaccdjnmgeaaDoorT2
set_option linter.unusedVariables false
namespace Go.Proofs.YtlngaccdjnmgeaaDoor
open Go.V Go.RowKit

def tysD : Tys := ⟨3, 9, 4, 43, 45, 50, 22, 36, 23, 25, 27⟩
theorem tysD_ok : tysD.ok Tryd.prog = true := by decide +kernel
theorem answers1 : accessBehind.Answers := by
  rintro w a0 a1 a2 ⟨v0, h0⟩ ⟨v1, h1⟩ ⟨v2, h2⟩
  obtain ⟨p, rfl, hp⟩ := arg_Pol (T := tysD) tysD_ok h0
  obtain ⟨more, rfl, hm⟩ := arg_Rls (T := tysD) tysD_ok (by decide +kernel) h1
  obtain ⟨x, rfl, hx⟩ := arg_Ask (T := tysD) tysD_ok h2
  exact law_Behind alive p more x hp.1.1 hm.1
theorem behindCard : Rows.AccessBehindCardSaid := accessBehind.card answers1
end Go.Proofs.YtlngaccdjnmgeaaDoor
#print axioms Go.Proofs.YtlngaccdjnmgeaaDoor.behindCard
