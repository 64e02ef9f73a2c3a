import Derived.Test.YteekodocdhapdaaGreatDoorRows
import Derived.WalkKit
import Derived.ProofKit
import Derived.OpenShut
import Derived.ShutString
import Derived.ChangeOld
import Derived.Below
import Derived.SizedLaws
import Derived.Carry
import Derived.LaidMore
import Derived.Lay
import Derived.Shelf.Vars
import Derived.Test.YteekodocdhapdaaGreatDoorTie
import Derived.Test.YteekodocdhapdaaGreatDoorCards
import Derived.SevenTiedAt
import Derived.Stop.Joined
import Derived.Test.YteekodocdhapdaaGreatDoorA4
namespace Go.Proofs.YteekodocdhapdaaGreatDoor.streamJoins
open Go.ChangeShapes Go.WideShapes Go.ChangeAt Go.RowKit Go.V
set_option linter.unusedVariables false
theorem c_wf : Rows.streamJoinsRow.wfByText (OpenSpec.ofChange Rows.streamJoinsSpec) = true := by kernel_rfl
theorem c_main : Tryz.pinned.checked.prog.mainIs = some (Rows.streamJoinsCard.stood.harness.1, Rows.streamJoinsCard.stood.harness.2.toList) := by kernel_rfl
theorem c_looks : true = Tryz.pinned.checked.prog.looks [] := by kernel_rfl
theorem c_goes : false = Rows.streamJoinsRow.goesBy Tryz.pinned.checked.prog := by kernel_rfl
theorem c_stand : ([22, 26].all fun u => !Tryz.prog.wantsStandIn u) = true := by kernel_rfl
theorem c_named : Tryz.prog.funcNamed "codesearch/codesearchlaw42.StreamJoins" = some 3 := by kernel_rfl
end Go.Proofs.YteekodocdhapdaaGreatDoor.streamJoins
