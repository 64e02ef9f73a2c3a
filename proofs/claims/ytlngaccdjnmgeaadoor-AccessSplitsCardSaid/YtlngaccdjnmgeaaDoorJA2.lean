/- AccessSplits: the law returns true for all arguments of its types; the tied card. No condition beyond those of the statement. -/
import Derived.Test.YtlngaccdjnmgeaaDoorRA2
import Derived.Test.YtlngaccdjnmgeaaDoorGD2
import Derived.Test.YtlngaccdjnmgeaaDoorT2
set_option linter.unusedVariables false
namespace Go.Proofs.YtlngaccdjnmgeaaDoor
open Go.V Go.RowKit

def tysS : Tys2 := { i := 3, s := 9, b := 4, il := 43, sl := 45, g := 50, gl := 22, r := 36, rl := 23, p := 25, a := 27, d := 47, dl := 39, t := 41 }
theorem tysS_ok : tysS.toTys.ok Tryd.prog = true := by decide +kernel
theorem tysS_ok2 : tysS.ok2 Tryd.prog = true := by decide +kernel
theorem answers2 : accessSplits.Answers := by
  rintro w a0 ⟨v0, h0⟩
  obtain ⟨t, rfl, ht⟩ := arg_Tw (T := tysS) tysS_ok tysS_ok2 h0
  exact law_Splits alive t ht.1.1.1 ht.2.1.1.1 ht.2.2.2.1
theorem splitsCard : Rows.AccessSplitsCardSaid := accessSplits.card answers2
end Go.Proofs.YtlngaccdjnmgeaaDoor
#print axioms Go.Proofs.YtlngaccdjnmgeaaDoor.splitsCard
