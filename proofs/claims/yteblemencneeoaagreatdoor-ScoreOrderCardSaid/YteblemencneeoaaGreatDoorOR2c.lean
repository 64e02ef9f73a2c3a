import Derived.Test.YteblemencneeoaaGreatDoorRows
import Derived.WalkKit
import Derived.ProofKit
import Derived.OpenShut
import Derived.ShutString
import Derived.ChangeOld
import Derived.Below
import Derived.SizedLaws
import Derived.Carry
import Derived.LaidMore
import Derived.Lay
import Derived.Shelf.Vars
import Derived.Test.YteblemencneeoaaGreatDoorTie
import Derived.Test.YteblemencneeoaaGreatDoorCards
import Derived.SevenTiedAt
import Derived.Stop.Joined
import Derived.Test.YteblemencneeoaaGreatDoorA4
namespace Go.Proofs.YteblemencneeoaaGreatDoor.scoreOrder
open Go.ChangeShapes Go.WideShapes Go.ChangeAt Go.RowKit Go.V
set_option linter.unusedVariables false
theorem c_wf : Rows.scoreOrderRow.wfByText (OpenSpec.ofChange Rows.scoreOrderSpec) = true := by kernel_rfl
theorem c_main : Tryz.pinned.checked.prog.mainIs = some (Rows.scoreOrderCard.stood.harness.1, Rows.scoreOrderCard.stood.harness.2.toList) := by kernel_rfl
theorem c_looks : true = Tryz.pinned.checked.prog.looks [] := by kernel_rfl
theorem c_goes : false = Rows.scoreOrderRow.goesBy Tryz.pinned.checked.prog := by kernel_rfl
theorem c_stand : ([22, 28].all fun u => !Tryz.prog.wantsStandIn u) = true := by kernel_rfl
theorem c_named : Tryz.prog.funcNamed "codesearch/codesearchlaw40.ScoreOrder" = some 4 := by kernel_rfl
end Go.Proofs.YteblemencneeoaaGreatDoor.scoreOrder
