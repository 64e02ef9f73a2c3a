/- EvalPages: the law returns true for all arguments of its types; the tied card. No condition beyond those of the statement. -/
import Derived.Test.YtglabjcjfjlkoaaGreatDoorOR6d
import Derived.Test.YtglabjcjfjlkoaaGreatDoorSD4
import Derived.Test.YtglabjcjfjlkoaaGreatDoorEVc
import Derived.Test.YtglabjcjfjlkoaaGreatDoorEV7
set_option linter.unusedVariables false
namespace Go.Proofs.YtglabjcjfjlkoaaGreatDoor
open Go.V Go.RowKit

theorem res_ok6 : isRs Tryz.prog 3 37 38 40 = true := by decide +kernel
theorem resl_ok6 : isSl Tryz.prog 22 40 = true := by decide +kernel
theorem int_ok6 : isI Tryz.prog 3 = true := by decide +kernel
theorem answersP : evalPages.Answers := by
  rintro w a0 a1 a2 ⟨v0, h0⟩ ⟨v1, h1⟩ ⟨v2, h2⟩
  obtain ⟨r, rfl, hl, kr⟩ := arg_RL res_ok6 resl_ok6 (by decide +kernel) h0
  obtain ⟨f, rfl, _⟩ := arg_I int_ok6 h1
  obtain ⟨n, rfl, _⟩ := arg_I int_ok6 h2
  exact law_Pages aliveE r (fun x h => (kr x h).2.2) f n hl
theorem pagesCard : Rows.EvalPagesCardSaid := evalPages.card answersP
end Go.Proofs.YtglabjcjfjlkoaaGreatDoor
#print axioms Go.Proofs.YtglabjcjfjlkoaaGreatDoor.pagesCard
