/- AccessLists: the law returns true for all arguments of its types; the tied card. No condition beyond those of the statement. -/
import Derived.Test.YtlngaccdjnmgeaaGreatDoorRB3
import Derived.Test.YtlngaccdjnmgeaaGreatDoorGD2
import Derived.Test.YtlngaccdjnmgeaaGreatDoorGHL
import Derived.Test.YtlngaccdjnmgeaaGreatDoorT2
set_option linter.unusedVariables false
namespace Go.Proofs.YtlngaccdjnmgeaaGreatDoor
open Go.V Go.RowKit

def tysL : Tys2 := { i := 3, s := 9, b := 4, il := 45, sl := 41, g := 53, gl := 22, r := 51, rl := 23, p := 25, a := 32, d := 43, dl := 36, t := 38 }
theorem tysL_ok : tysL.toTys.ok Tryz.prog = true := by decide +kernel
theorem tysL_ok2 : tysL.ok2 Tryz.prog = true := by decide +kernel
theorem answersL : accessLists.Answers := by
  rintro w a0 a1 ⟨v0, h0⟩ ⟨v1, h1⟩
  obtain ⟨t, rfl, ht⟩ := arg_Tw (T := tysL) tysL_ok tysL_ok2 h0
  obtain ⟨x, rfl, hx⟩ := arg_Ask (T := tysL.toTys) tysL_ok h1
  exact law_Lists alive t x ht.1.1.1 ht.2.1.1.1 ht.2.2.2.1 (fun r hr => (ht.1.2.2 r hr).2.1) (fun r hr => (ht.2.1.2.2 r hr).2.1)
theorem listsCard : Rows.AccessListsCardSaid := accessLists.card answersL
end Go.Proofs.YtlngaccdjnmgeaaGreatDoor
#print axioms Go.Proofs.YtlngaccdjnmgeaaGreatDoor.listsCard
