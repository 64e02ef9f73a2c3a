import Derived.Test.YtifahgjmdiandaaGreatDoorRows
import Derived.WalkKit
import Derived.ProofKit
import Derived.OpenShut
import Derived.ShutString
import Derived.ChangeOld
import Derived.Below
import Derived.SizedLaws
import Derived.Carry
import Derived.LaidMore
import Derived.Lay
import Derived.Shelf.Vars
import Derived.Test.YtifahgjmdiandaaGreatDoorTie
import Derived.Test.YtifahgjmdiandaaGreatDoorCards
import Derived.SevenTiedAt
import Derived.Stop.Joined
import Derived.Test.YtifahgjmdiandaaGreatDoorA4
namespace Go.Proofs.YtifahgjmdiandaaGreatDoor.savedPaths
open Go.ChangeShapes Go.WideShapes Go.ChangeAt Go.RowKit Go.V
set_option linter.unusedVariables false
theorem c_wf : Rows.savedPathsRow.wfByText (OpenSpec.ofChange Rows.savedPathsSpec) = true := by kernel_rfl
theorem c_main : Tryz.pinned.checked.prog.mainIs = some (Rows.savedPathsCard.stood.harness.1, Rows.savedPathsCard.stood.harness.2.toList) := by kernel_rfl
theorem c_looks : true = Tryz.pinned.checked.prog.looks [] := by kernel_rfl
theorem c_goes : false = Rows.savedPathsRow.goesBy Tryz.pinned.checked.prog := by kernel_rfl
theorem c_stand : ([37].all fun u => !Tryz.prog.wantsStandIn u) = true := by kernel_rfl
theorem c_named : Tryz.prog.funcNamed "codesearch/codesearchlaw48.SavedPaths" = some 5 := by kernel_rfl
end Go.Proofs.YtifahgjmdiandaaGreatDoor.savedPaths
