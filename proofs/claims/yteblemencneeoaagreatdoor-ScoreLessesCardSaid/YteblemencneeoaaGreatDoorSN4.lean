/- The law ScoreLesses, on data. Conditions: the documents' number. -/
import Derived.Test.YteblemencneeoaaGreatDoorSE3
set_option linter.unusedVariables false
set_option linter.unusedSimpArgs false
namespace Go.Proofs
open Go.V Go.RowKit

theorem law_Lesses (alive : PureC PR n_L40_alive [] (.bool true)) (l : List Dc) (hl : l.length ≤ maxLen) (a b : Rs) : PureC PR n_L40_ScoreLesses [.sl (l.map eDc) 0, eRs a, eRs b] (.bool true) := by
  refine pure_of_wp m_L40_ScoreLesses rfl (by simp [argOk, eRs, rc, VV.noHnd, VV.noHnd0, VV.ids, idsL]) ?_
  unfold FnW v_L40_ScoreLesses
  simp only [go_sem, eRs, rc]
  refine callW_pure alive (by simp only [go_sem]) (by simp only [go_sem]) ?_
  simp only [go_sem, Bool.not_true]
  refine callD_pure (c_Less l hl a b) (by simp only [go_sem, eRs, rc]) (by simp only [go_sem, eRs, rc]) ?_
  simp only [go_sem]
  refine callD_pure (c_R40_Less l hl a b) (by simp only [go_sem, eRs, rc]) (by simp only [go_sem, eRs, rc]) ?_
  have hir : lessR l a a = false := (lessR_wk l).irr a
  simp only [go_sem, beq_self_eq_true]
  refine callD_pure (c_Less l hl a a) (by simp only [go_sem, eRs, rc]) (by simp only [go_sem, eRs, rc]) ?_
  simp only [go_sem, hir, Bool.not_false]
end Go.Proofs
