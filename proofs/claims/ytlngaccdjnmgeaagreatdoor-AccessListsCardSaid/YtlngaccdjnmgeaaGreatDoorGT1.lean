/- V, proofs: two policies, a user, documents. -/
import Derived.Test.YtlngaccdjnmgeaaGreatDoorGE7
set_option linter.unusedVariables false
set_option linter.unusedSimpArgs false
namespace Go.Proofs
open Go.V Go.RowKit

structure Tw where
  a : Pol
  b : Pol
  user : Int
  docs : List Dc
def eTw (t : Tw) : VV := .agg [.sl (t.a.groups.map eGp) 0, .sl (t.a.rules.map eRl) 0, .sl (t.b.groups.map eGp) 0, .sl (t.b.rules.map eRl) 0, .int .i64 t.user, .sl (t.docs.map eDc) 0]
theorem eTw_cells (t : Tw) : (eTw t).cells = [.sl (t.a.groups.map eGp) 0, .sl (t.a.rules.map eRl) 0, .sl (t.b.groups.map eGp) 0, .sl (t.b.rules.map eRl) 0, .int .i64 t.user, .sl (t.docs.map eDc) 0] := byRfl rfl
theorem eTw_argOk (g : Tw) : argOk (eTw g) = true := by simp [eTw, argOk, VV.noHnd, VV.noHnd0, VV.ids, idsL]
attribute [go_sem] eTw_cells

theorem short_ok {l : List Dc} (h : shortS l = true) : okD l ∧ l.length ≤ 20 := by
  simp only [shortS, Bool.and_eq_true, Bool.not_eq_true', List.any_eq_false, decide_eq_true_eq] at h
  refine ⟨⟨by omega, fun d hd => ?_⟩, by omega⟩
  have := h.1 d hd
  simp only [longD, decide_eq_true_eq] at this
  omega
end Go.Proofs
