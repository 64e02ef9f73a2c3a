/- SavedPaths: the law returns true for all arguments of its types; the tied card. No condition beyond those of the statement. -/
import Derived.Test.YtifahgjmdiandaaGreatDoorSR2d
import Derived.Test.YtifahgjmdiandaaGreatDoorSD1
import Derived.Test.YtifahgjmdiandaaGreatDoorSN2
import Derived.Test.YtifahgjmdiandaaGreatDoorST1
set_option linter.unusedVariables false
namespace Go.Proofs.YtifahgjmdiandaaGreatDoor
open Go.V Go.RowKit

theorem keys_ok2 : isKL Tryz.prog 9 46 37 = true := by decide +kernel
theorem answersP : savedPaths.Answers := by
  rintro w a0 a1 ⟨v0, h0⟩ ⟨v1, h1⟩
  obtain ⟨l, rfl, hl⟩ := arg_KL keys_ok2 h0
  obtain ⟨m, rfl, hm⟩ := arg_KL keys_ok2 h1
  exact law_Paths alive l m hl hm
theorem pathsCard : Rows.SavedPathsCardSaid := savedPaths.card answersP
end Go.Proofs.YtifahgjmdiandaaGreatDoor
#print axioms Go.Proofs.YtifahgjmdiandaaGreatDoor.pathsCard
