import Derived.Test.YtglabjcjfjlkoaaGreatDoorRows
import Derived.WalkKit
import Derived.ProofKit
import Derived.OpenShut
import Derived.ShutString
import Derived.ChangeOld
import Derived.Below
import Derived.SizedLaws
import Derived.Carry
import Derived.LaidMore
import Derived.Lay
import Derived.Shelf.Vars
import Derived.Test.YtglabjcjfjlkoaaGreatDoorTie
import Derived.Test.YtglabjcjfjlkoaaGreatDoorCards
import Derived.SevenTiedAt
import Derived.Stop.Joined
import Derived.Test.YtglabjcjfjlkoaaGreatDoorA4
namespace Go.Proofs.YtglabjcjfjlkoaaGreatDoor.evalPages
open Go.ChangeShapes Go.WideShapes Go.ChangeAt Go.RowKit Go.V
set_option linter.unusedVariables false
theorem c_wf : Rows.evalPagesRow.wfByText (OpenSpec.ofChange Rows.evalPagesSpec) = true := by kernel_rfl
theorem c_main : Tryz.pinned.checked.prog.mainIs = some (Rows.evalPagesCard.stood.harness.1, Rows.evalPagesCard.stood.harness.2.toList) := by kernel_rfl
theorem c_looks : true = Tryz.pinned.checked.prog.looks [] := by kernel_rfl
theorem goes_none {P : Program} (h : P.funcs.any Func.goes = false) (f : FuncId) : P.goes f = false := by
  unfold Program.goes
  rw [h, Bool.and_false, Bool.or_false, List.any_eq_false]
  intro g _ hg
  cases hq : P.funcs[g]? with
  | none => rw [hq] at hg; cases hg
  | some fn =>
    rw [hq] at hg
    obtain ⟨hlt, rfl⟩ := Array.getElem?_eq_some_iff.1 hq
    rw [Array.any_eq_false] at h
    exact h g hlt hg
theorem c_nogo : Tryz.pinned.checked.prog.funcs.any Func.goes = false := by kernel_rfl
theorem c_goes : false = Rows.evalPagesRow.goesBy Tryz.pinned.checked.prog := by
  unfold OpenClaim.goesBy Program.goesAt Program.goesFrom
  cases hq : Tryz.pinned.checked.prog.funcNamed Rows.evalPagesRow.func with
  | none => rfl
  | some f =>
    rw [Option.any_some, goes_none c_nogo]
    rfl
theorem c_stand : ([22, 3].all fun u => !Tryz.prog.wantsStandIn u) = true := by kernel_rfl
theorem c_named : Tryz.prog.funcNamed "codesearch/codesearchlaw41.EvalPages" = some 3 := by kernel_rfl
end Go.Proofs.YtglabjcjfjlkoaaGreatDoor.evalPages
