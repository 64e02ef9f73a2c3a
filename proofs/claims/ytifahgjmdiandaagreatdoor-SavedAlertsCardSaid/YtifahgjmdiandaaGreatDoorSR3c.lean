import Derived.Test.YtifahgjmdiandaaGreatDoorRows
import Derived.WalkKit
import Derived.ProofKit
import Derived.OpenShut
import Derived.ShutString
import Derived.ChangeOld
import Derived.Below
import Derived.SizedLaws
import Derived.Carry
import Derived.LaidMore
import Derived.Lay
import Derived.Shelf.Vars
import Derived.Test.YtifahgjmdiandaaGreatDoorTie
import Derived.Test.YtifahgjmdiandaaGreatDoorCards
import Derived.SevenTiedAt
import Derived.Stop.Joined
import Derived.Test.YtifahgjmdiandaaGreatDoorA4
namespace Go.Proofs.YtifahgjmdiandaaGreatDoor.savedAlerts
open Go.ChangeShapes Go.WideShapes Go.ChangeAt Go.RowKit Go.V
set_option linter.unusedVariables false
theorem c_wf : Rows.savedAlertsRow.wfByText (OpenSpec.ofChange Rows.savedAlertsSpec) = true := by kernel_rfl
theorem c_main : Tryz.pinned.checked.prog.mainIs = some (Rows.savedAlertsCard.stood.harness.1, Rows.savedAlertsCard.stood.harness.2.toList) := by kernel_rfl
theorem c_looks : true = Tryz.pinned.checked.prog.looks [] := by kernel_rfl
theorem c_goes : false = Rows.savedAlertsRow.goesBy Tryz.pinned.checked.prog := by kernel_rfl
theorem c_stand : ([49, 37].all fun u => !Tryz.prog.wantsStandIn u) = true := by kernel_rfl
theorem c_named : Tryz.prog.funcNamed "codesearch/codesearchlaw48.SavedAlerts" = some 6 := by kernel_rfl
end Go.Proofs.YtifahgjmdiandaaGreatDoor.savedAlerts
