import Derived.Test.YteblemencneeoaaGreatDoorRows
import Derived.WalkKit
import Derived.ProofKit
import Derived.OpenShut
import Derived.ShutString
import Derived.ChangeOld
import Derived.Below
import Derived.SizedLaws
import Derived.Carry
import Derived.LaidMore
import Derived.Lay
import Derived.Shelf.Vars
import Derived.Test.YteblemencneeoaaGreatDoorTie
import Derived.Test.YteblemencneeoaaGreatDoorCards
import Derived.SevenTiedAt
import Derived.Stop.Joined
import Derived.Test.YteblemencneeoaaGreatDoorA4
namespace Go.Proofs.YteblemencneeoaaGreatDoor.scoreOrder
open Go.ChangeShapes Go.WideShapes Go.ChangeAt Go.RowKit Go.V
set_option linter.unusedVariables false
theorem f_named : Tryz.checked.prog.funcNamed Rows.scoreOrderRow.func = some 4 := by kernel_rfl
theorem and_t {a b : Bool} (h : a = true) (k : b = true) : (a && b) = true := by rw [h, k]; rfl
set_option maxHeartbeats 8000000 in
theorem f_joined : joinedFacts Tryz.checked.prog 4 Tryz.f4 Rows.scoreOrderSpec Rows.scoreOrderRow = true := by
  unfold joinedFacts
  repeat' (with_reducible refine and_t ?_ ?_)
  all_goals decide +kernel
theorem f_inst : Tryz.f4.isInstance Tryz.checked.prog Rows.scoreOrderRow.origin Rows.scoreOrderRow.targs := of_decide_eq_true (by kernel_rfl)
theorem f_wrap : Tryz.f4.isWrapper Tryz.checked.prog Rows.scoreOrderRow.wrapper Rows.scoreOrderRow.mainSum := by unfold Func.isWrapper; first | (rw [if_pos (by decide +kernel)]; kernel_rfl) | (rw [if_neg (by decide +kernel)]; exact ⟨rfl, rfl⟩)
end Go.Proofs.YteblemencneeoaaGreatDoor.scoreOrder
