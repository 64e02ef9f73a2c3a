/- StructuralOuters: the law returns true for all arguments of its types: Outer and Value answer as the reference does. No condition beyond those of the statement. -/
import Derived.Test.YtfhkgkijljfcfaaR5
import Derived.Test.YtfhkgkijljfcfaaH5
set_option linter.unusedVariables false
namespace Go.Proofs.Ytfhkgkijljfcfaa
open Go.V Go.RowKit

theorem kSp : isSpL Try.prog 3 37 35 = true := by decide +kernel
theorem kBd : isBdL Try.prog 24 3 9 22 41 27 = true := by decide +kernel
theorem kS : isS Try.prog 9 = true := by decide +kernel

theorem cell_of {t : TypeId} {vv : VV} {v : Value} {w : World} (h : Arg Try.prog w t vv v) (hs : isStruct Try.prog t = false) : ∃ n, tyOk Try.prog n t [vv] = true := by
  obtain ⟨n, hn⟩ := h.ty
  rw [st_cell hs h.st] at hn
  exact ⟨n, hn⟩

theorem answers5 : structuralOuters.Answers := by
  rintro w a0 a1 a2 ⟨v0, h0⟩ ⟨v1, h1⟩ ⟨v2, h2⟩
  obtain ⟨n0, q0⟩ := cell_of h0 (by decide +kernel)
  obtain ⟨n1, q1⟩ := cell_of h1 (by decide +kernel)
  obtain ⟨n2, q2⟩ := cell_of h2 (by decide +kernel)
  obtain ⟨sp, e0, l0, o0⟩ := ty_SpL kSp q0
  obtain ⟨l, e1, l1, o1⟩ := ty_BL kBd q1
  obtain ⟨s, e2, l2⟩ := ty_S kS q2
  simp only [List.cons.injEq, and_true] at e0 e1 e2
  subst e0 e1 e2
  exact f5 sp l s l0 l1 o0 fun b hb => (o1 b hb).2

theorem outersSaid : Rows.StructuralOutersSaid := structuralOuters.said answers5
end Go.Proofs.Ytfhkgkijljfcfaa
#print axioms Go.Proofs.Ytfhkgkijljfcfaa.outersSaid
