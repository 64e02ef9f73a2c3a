import Derived.Test.YteblemencneeoaaGreatDoorRows
import Derived.WalkKit
import Derived.ProofKit
import Derived.OpenShut
import Derived.ShutString
import Derived.ChangeOld
import Derived.Below
import Derived.SizedLaws
import Derived.Carry
import Derived.LaidMore
import Derived.Lay
import Derived.Shelf.Vars
import Derived.Test.YteblemencneeoaaGreatDoorTie
import Derived.Test.YteblemencneeoaaGreatDoorCards
import Derived.SevenTiedAt
import Derived.Stop.Joined
import Derived.Test.YteblemencneeoaaGreatDoorA4
namespace Go.Proofs.YteblemencneeoaaGreatDoor.scoreMerges
open Go.ChangeShapes Go.WideShapes Go.ChangeAt Go.RowKit Go.V
set_option linter.unusedVariables false
theorem c_wf : Rows.scoreMergesRow.wfByText (OpenSpec.ofChange Rows.scoreMergesSpec) = true := by kernel_rfl
theorem c_main : Tryz.pinned.checked.prog.mainIs = some (Rows.scoreMergesCard.stood.harness.1, Rows.scoreMergesCard.stood.harness.2.toList) := by kernel_rfl
theorem c_looks : true = Tryz.pinned.checked.prog.looks [] := by kernel_rfl
theorem c_goes : false = Rows.scoreMergesRow.goesBy Tryz.pinned.checked.prog := by kernel_rfl
theorem c_stand : ([22, 34, 3].all fun u => !Tryz.prog.wantsStandIn u) = true := by kernel_rfl
theorem c_named : Tryz.prog.funcNamed "codesearch/codesearchlaw40.ScoreMerges" = some 6 := by kernel_rfl
end Go.Proofs.YteblemencneeoaaGreatDoor.scoreMerges
