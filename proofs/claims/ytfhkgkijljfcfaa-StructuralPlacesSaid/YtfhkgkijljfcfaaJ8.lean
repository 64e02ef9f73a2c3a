/- StructuralPlaces: the law returns true for all arguments of its types: All has the nodes that match, in order, and Outer the outer ones within the law's own bounds. No condition beyond those of the statement. -/
import Derived.Test.YtfhkgkijljfcfaaR8
import Derived.Test.YtfhkgkijljfcfaaN8
set_option linter.unusedVariables false
namespace Go.Proofs.Ytfhkgkijljfcfaa
open Go.V Go.RowKit

theorem kNd : isNode Try.prog 24 3 9 22 = true := by decide +kernel
theorem node_of {vv : VV} {v : Value} {w : World} (h : Arg Try.prog w 24 vv v) : ∃ d, vv = eN d ∧ okN d := by
  obtain ⟨n, hn⟩ := h.ty
  have hk := kNd
  simp only [isNode, Bool.and_eq_true] at hk
  obtain ⟨cs, rfl⟩ := st_agg hk.1.1.1 h.st
  obtain ⟨d, hd, ho⟩ := ty_N kNd n cs hn
  exact ⟨d, hd, ho⟩

theorem answers8 : structuralPlaces.Answers := by
  rintro w a0 a1 ⟨v0, h0⟩ ⟨v1, h1⟩
  obtain ⟨p, rfl, hp⟩ := node_of h0
  obtain ⟨n, rfl, hn⟩ := node_of h1
  exact f8 p n hp hn

theorem placesSaid : Rows.StructuralPlacesSaid := structuralPlaces.said answers8
end Go.Proofs.Ytfhkgkijljfcfaa
#print axioms Go.Proofs.Ytfhkgkijljfcfaa.placesSaid
