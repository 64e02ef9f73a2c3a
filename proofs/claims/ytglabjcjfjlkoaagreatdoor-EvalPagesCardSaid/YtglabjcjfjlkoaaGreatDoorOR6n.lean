import Derived.Test.YtglabjcjfjlkoaaGreatDoorRows
import Derived.WalkKit
import Derived.ProofKit
import Derived.OpenShut
import Derived.ShutString
import Derived.ChangeOld
import Derived.Below
import Derived.SizedLaws
import Derived.Carry
import Derived.LaidMore
import Derived.Lay
import Derived.Shelf.Vars
import Derived.Test.YtglabjcjfjlkoaaGreatDoorTie
import Derived.Test.YtglabjcjfjlkoaaGreatDoorCards
import Derived.SevenTiedAt
import Derived.Stop.Joined
import Derived.Test.YtglabjcjfjlkoaaGreatDoorA4
namespace Go.Proofs.YtglabjcjfjlkoaaGreatDoor.evalPages
open Go.ChangeShapes Go.WideShapes Go.ChangeAt Go.RowKit Go.V
set_option linter.unusedVariables false
theorem f_named : Tryz.checked.prog.funcNamed Rows.evalPagesRow.func = some 3 := by kernel_rfl
theorem and_t {a b : Bool} (h : a = true) (k : b = true) : (a && b) = true := by rw [h, k]; rfl
set_option maxHeartbeats 8000000 in
theorem f_joined : joinedFacts Tryz.checked.prog 3 Tryz.f3 Rows.evalPagesSpec Rows.evalPagesRow = true := by
  unfold joinedFacts
  repeat' (with_reducible refine and_t ?_ ?_)
  all_goals decide +kernel
theorem f_inst : Tryz.f3.isInstance Tryz.checked.prog Rows.evalPagesRow.origin Rows.evalPagesRow.targs := of_decide_eq_true (by kernel_rfl)
theorem f_wrap : Tryz.f3.isWrapper Tryz.checked.prog Rows.evalPagesRow.wrapper Rows.evalPagesRow.mainSum := by unfold Func.isWrapper; first | (rw [if_pos (by decide +kernel)]; kernel_rfl) | (rw [if_neg (by decide +kernel)]; exact ⟨rfl, rfl⟩)
end Go.Proofs.YtglabjcjfjlkoaaGreatDoor.evalPages
