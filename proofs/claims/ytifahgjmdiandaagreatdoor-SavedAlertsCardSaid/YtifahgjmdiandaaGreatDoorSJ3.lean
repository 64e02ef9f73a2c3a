/- SavedAlerts: the law returns true for all arguments of its types; the tied card. No condition beyond those of the statement. -/
import Derived.Test.YtifahgjmdiandaaGreatDoorSR3d
import Derived.Test.YtifahgjmdiandaaGreatDoorSD2
import Derived.Test.YtifahgjmdiandaaGreatDoorSN3
import Derived.Test.YtifahgjmdiandaaGreatDoorST1
set_option linter.unusedVariables false
namespace Go.Proofs.YtifahgjmdiandaaGreatDoor
open Go.V Go.RowKit

theorem keys_ok3 : isKL Tryz.prog 9 46 37 = true := by decide +kernel
theorem saved_ok : isSv Tryz.prog 3 9 4 26 24 46 37 49 = true := by decide +kernel
theorem answersA : savedAlerts.Answers := by
  rintro w a0 a1 ⟨v0, h0⟩ ⟨v1, h1⟩
  obtain ⟨s, rfl, hq, hs⟩ := arg_Sv saved_ok h0
  obtain ⟨m, rfl, hm⟩ := arg_KL keys_ok3 h1
  exact law_Alerts alive s m hq hs hm
theorem alertsCard : Rows.SavedAlertsCardSaid := savedAlerts.card answersA
end Go.Proofs.YtifahgjmdiandaaGreatDoor
#print axioms Go.Proofs.YtifahgjmdiandaaGreatDoor.alertsCard
