/- StructuralFills: the law returns true for all arguments of its types: the pattern filled with the values that Match finds is the node within the law's own bounds. No condition beyond those of the statement. -/
import Derived.Test.YtfhkgkijljfcfaaR6
import Derived.Test.YtfhkgkijljfcfaaN6
set_option linter.unusedVariables false
namespace Go.Proofs.Ytfhkgkijljfcfaa
open Go.V Go.RowKit

theorem kNd : isNode Try.prog 24 3 9 22 = true := by decide +kernel
theorem node_of {vv : VV} {v : Value} {w : World} (h : Arg Try.prog w 24 vv v) : ∃ d, vv = eN d ∧ okN d := by
  obtain ⟨n, hn⟩ := h.ty
  have hk := kNd
  simp only [isNode, Bool.and_eq_true] at hk
  obtain ⟨cs, rfl⟩ := st_agg hk.1.1.1 h.st
  obtain ⟨d, hd, ho⟩ := ty_N kNd n cs hn
  exact ⟨d, hd, ho⟩

theorem answers6 : structuralFills.Answers := by
  rintro w a0 a1 ⟨v0, h0⟩ ⟨v1, h1⟩
  obtain ⟨p, rfl, hp⟩ := node_of h0
  obtain ⟨n, rfl, hn⟩ := node_of h1
  exact f6 p n hp hn

theorem fillsSaid : Rows.StructuralFillsSaid := structuralFills.said answers6
end Go.Proofs.Ytfhkgkijljfcfaa
#print axioms Go.Proofs.Ytfhkgkijljfcfaa.fillsSaid
