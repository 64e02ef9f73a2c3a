/- ScoreMerges: the law returns true for all arguments of its types; the tied card. No condition beyond those of the statement. -/
import Derived.Test.YteblemencneeoaaGreatDoorOR4d
import Derived.Test.YteblemencneeoaaGreatDoorSD4
import Derived.Test.YteblemencneeoaaGreatDoorSN7
import Derived.Test.YteblemencneeoaaGreatDoorST2
set_option linter.unusedVariables false
namespace Go.Proofs.YteblemencneeoaaGreatDoor
open Go.V Go.RowKit

theorem docs_ok4 : isDL Tryz.prog 3 9 38 40 22 = true := by decide +kernel
theorem res_ok4 : isRs Tryz.prog 3 60 23 25 = true := by decide +kernel
theorem resl_ok4 : isSl Tryz.prog 28 25 = true := by decide +kernel
theorem arr_ok4 : isA2 Tryz.prog 34 28 = true := by decide +kernel
theorem int_okJ : isI Tryz.prog 3 = true := by decide +kernel
theorem answersO4 : scoreMerges.Answers := by
  rintro w a0 a1 a2 ⟨v0, h0⟩ ⟨v1, h1⟩ ⟨v2, h2⟩
  obtain ⟨l, rfl, hl, _⟩ := arg_DL docs_ok4 h0
  obtain ⟨a, b, rfl, _, _, ka, kb⟩ := arg_R2 res_ok4 resl_ok4 arr_ok4 h1
  obtain ⟨n, rfl, _⟩ := arg_I int_okJ h2
  exact law_Merges alive l hl a b (fun r h => (ka r h).2.2) (fun r h => (kb r h).2.2) n
theorem mergesCard : Rows.ScoreMergesCardSaid := scoreMerges.card answersO4
end Go.Proofs.YteblemencneeoaaGreatDoor
#print axioms Go.Proofs.YteblemencneeoaaGreatDoor.mergesCard
