/- ScoreLesses: the law returns true for all arguments of its types; the tied card. No condition beyond those of the statement. -/
import Derived.Test.YteblemencneeoaaGreatDoorOR1d
import Derived.Test.YteblemencneeoaaGreatDoorSD3
import Derived.Test.YteblemencneeoaaGreatDoorSN4
import Derived.Test.YteblemencneeoaaGreatDoorST2
set_option linter.unusedVariables false
namespace Go.Proofs.YteblemencneeoaaGreatDoor
open Go.V Go.RowKit

theorem docs_ok1 : isDL Tryz.prog 3 9 38 40 22 = true := by decide +kernel
theorem res_ok1 : isRs Tryz.prog 3 60 23 25 = true := by decide +kernel
theorem answersL : scoreLesses.Answers := by
  rintro w a0 a1 a2 ⟨v0, h0⟩ ⟨v1, h1⟩ ⟨v2, h2⟩
  obtain ⟨l, rfl, hl, _⟩ := arg_DL docs_ok1 h0
  obtain ⟨a, rfl, _⟩ := arg_Rs res_ok1 h1
  obtain ⟨b, rfl, _⟩ := arg_Rs res_ok1 h2
  exact law_Lesses alive l hl a b
theorem lessesCard : Rows.ScoreLessesCardSaid := scoreLesses.card answersL
end Go.Proofs.YteblemencneeoaaGreatDoor
#print axioms Go.Proofs.YteblemencneeoaaGreatDoor.lessesCard
