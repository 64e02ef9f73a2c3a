/- StructuralFinds: the law returns true for all arguments of its types: a pattern matches every node that it becomes if its metavariables are replaced by nodes, and a tree without metavariables just the nodes that are the same. No condition beyond those of the statement. -/
import Derived.Test.YtfhkgkijljfcfaaR7
import Derived.Test.YtfhkgkijljfcfaaN7
set_option linter.unusedVariables false
namespace Go.Proofs.Ytfhkgkijljfcfaa
open Go.V Go.RowKit

theorem kNd : isNode Try.prog 24 3 9 22 = true := by decide +kernel
theorem kBd : isBdL Try.prog 24 3 9 22 41 27 = true := by decide +kernel
theorem node_of {vv : VV} {v : Value} {w : World} (h : Arg Try.prog w 24 vv v) : ∃ d, vv = eN d ∧ okN d := by
  obtain ⟨n, hn⟩ := h.ty
  have hk := kNd
  simp only [isNode, Bool.and_eq_true] at hk
  obtain ⟨cs, rfl⟩ := st_agg hk.1.1.1 h.st
  obtain ⟨d, hd, ho⟩ := ty_N kNd n cs hn
  exact ⟨d, hd, ho⟩
theorem cell_of {t : TypeId} {vv : VV} {v : Value} {w : World} (h : Arg Try.prog w t vv v) (hs : isStruct Try.prog t = false) : ∃ n, tyOk Try.prog n t [vv] = true := by
  obtain ⟨n, hn⟩ := h.ty
  rw [st_cell hs h.st] at hn
  exact ⟨n, hn⟩

theorem answers7 : structuralFinds.Answers := by
  rintro w a0 a1 a2 ⟨v0, h0⟩ ⟨v1, h1⟩ ⟨v2, h2⟩
  obtain ⟨p, rfl, hp⟩ := node_of h0
  obtain ⟨n, rfl, hn⟩ := node_of h1
  obtain ⟨n2, q2⟩ := cell_of h2 (by decide +kernel)
  obtain ⟨l, e2, l2, o2⟩ := ty_BL kBd q2
  simp only [List.cons.injEq, and_true] at e2
  subst e2
  exact f7 p n l hp hn l2 fun b hb => (o2 b hb).2

theorem findsSaid : Rows.StructuralFindsSaid := structuralFinds.said answers7
end Go.Proofs.Ytfhkgkijljfcfaa
#print axioms Go.Proofs.Ytfhkgkijljfcfaa.findsSaid
