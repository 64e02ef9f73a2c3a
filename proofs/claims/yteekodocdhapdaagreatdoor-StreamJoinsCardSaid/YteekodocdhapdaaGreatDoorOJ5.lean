/- StreamJoins: the law returns true for all arguments of its types; the tied card. No condition beyond those of the statement. -/
import Derived.Test.YteekodocdhapdaaGreatDoorOR5d
import Derived.Test.YteekodocdhapdaaGreatDoorSD5
import Derived.Test.YteekodocdhapdaaGreatDoorSN8
import Derived.Test.YteekodocdhapdaaGreatDoorST3
set_option linter.unusedVariables false
namespace Go.Proofs.YteekodocdhapdaaGreatDoor
open Go.V Go.RowKit

theorem docs_ok5 : isDL Tryz.prog 3 9 34 36 22 = true := by decide +kernel
theorem ans_ok5 : isAn Tryz.prog 3 4 78 54 56 23 43 24 26 = true := by decide +kernel
theorem answersJ : streamJoins.Answers := by
  rintro w a0 a1 a2 ⟨v0, h0⟩ ⟨v1, h1⟩ ⟨v2, h2⟩
  obtain ⟨l, rfl, hl, _⟩ := arg_DL docs_ok5 h0
  obtain ⟨a, rfl, ka⟩ := arg_An ans_ok5 h1
  obtain ⟨b, rfl, kb⟩ := arg_An ans_ok5 h2
  exact law_Joins aliveQ l hl a b (fun x h => (ka x h).2.2) fun x h => (kb x h).2.2
theorem joinsCard : Rows.StreamJoinsCardSaid := streamJoins.card answersJ
end Go.Proofs.YteekodocdhapdaaGreatDoor
#print axioms Go.Proofs.YteekodocdhapdaaGreatDoor.joinsCard
