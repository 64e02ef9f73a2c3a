/- ScoreOrder: the law returns true for all arguments of its types; the tied card. No condition beyond those of the statement. -/
import Derived.Test.YteblemencneeoaaGreatDoorOR2d
import Derived.Test.YteblemencneeoaaGreatDoorSD4
import Derived.Test.YteblemencneeoaaGreatDoorSN5
import Derived.Test.YteblemencneeoaaGreatDoorST2
set_option linter.unusedVariables false
namespace Go.Proofs.YteblemencneeoaaGreatDoor
open Go.V Go.RowKit

theorem docs_ok2 : isDL Tryz.prog 3 9 38 40 22 = true := by decide +kernel
theorem res_ok2 : isRs Tryz.prog 3 60 23 25 = true := by decide +kernel
theorem resl_ok2 : isSl Tryz.prog 28 25 = true := by decide +kernel
theorem answersO2 : scoreOrder.Answers := by
  rintro w a0 a1 ⟨v0, h0⟩ ⟨v1, h1⟩
  obtain ⟨l, rfl, hl, _⟩ := arg_DL docs_ok2 h0
  obtain ⟨r, rfl, _, kr⟩ := arg_RL res_ok2 resl_ok2 (by decide +kernel) h1
  exact law_Order alive l hl r fun x h => (kr x h).2.2
theorem orderCard : Rows.ScoreOrderCardSaid := scoreOrder.card answersO2
end Go.Proofs.YteblemencneeoaaGreatDoor
#print axioms Go.Proofs.YteblemencneeoaaGreatDoor.orderCard
