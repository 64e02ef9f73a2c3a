/- V, proofs: the law SavedAlerts on data. Conditions: the lists' lengths. -/
import Derived.Test.YtifahgjmdiandaaGreatDoorSB4
import Derived.Test.YtifahgjmdiandaaGreatDoorSN1
set_option linter.unusedVariables false
set_option linter.unusedSimpArgs false
namespace Go.Proofs
open Go.V Go.RowKit

set_option maxRecDepth 100000 in
theorem law_Alerts (halive : PureC PR n_L48_alive [] (.bool true)) (s : Sv) (found : List Ky) (hq : okQ s.q) (hs : s.seen.length ≤ maxLen) (hf : found.length ≤ maxLen) :
    PureC PR n_L48_SavedAlerts [eSv s, .sl (found.map eKy) 0] (.bool true) := by
  refine pure_of_wp m_L48_SavedAlerts rfl (by simp [argOk_sl, eSv_argOk]) ?_
  unfold FnW v_L48_SavedAlerts
  simp only [go_sem, eSv]
  refine callW_pure halive rfl rfl ?_
  simp only [go_sem, eQ_fold]
  refine callW_pure (c_nodes _ s.q 24 (Nat.lt_succ_self _) hq) (by simp only [go_sem]) (by simp only [go_sem]) ?_
  generalize nodesQ s.q 24 = n
  simp only [go_sem]
  cases h1 : decide (n > 24) with
  | true => simp only [go_sem]
  | false =>
  simp only [go_sem]
  cases h2 : decide ((s.seen.length : Int) > 60) with
  | true => simp only [go_sem]
  | false =>
  simp only [go_sem]
  refine if_s (fun h3 => ?_) (fun h3 => ?_) <;> simp only [go_sem]
  have hsl : s.seen.length ≤ 60 := by simp at h2; omega
  have hfl : found.length ≤ 60 := by simp at h3; omega
  simp only [eSv_fold]
  refine callW_pure (c_Update s found (by omega) (by omega)) (by simp only [go_sem]) (by simp only [go_sem]) ?_
  have hcl := changes_len s.id s.seen found
  have hcl2 := changes_len s.id found s.seen
  have hsf := sortK_len found
  have huq : okQ (updS s found).q := hq
  have hus : (updS s found).seen.length ≤ maxLen := by show (sortK found).length ≤ _; omega
  simp only [go_sem, VV.canon, VV.canon0, eSv_fold]
  refine callW_pure (c_RUpdate s found (by omega) (by omega)) (by simp only [go_sem]) (by simp only [go_sem]) ?_
  generalize updS s found = u at *
  generalize changesS s.id s.seen found = x at *
  simp only [go_sem, VV.canon, VV.canon0, eSv_fold]
  refine callD_pure (c_saved_Sort found (by omega)) (by simp only [go_sem]) (by simp only [go_sem]) ?_
  simp only [go_sem]
  refine callD_pure (c_RSort found (by omega)) (by simp only [go_sem]) (by simp only [go_sem]) ?_
  simp only [go_sem]
  refine callD_pure (c_RSameKeys (sortK found) (by omega)) (by simp only [go_sem]) (by simp only [go_sem]) ?_
  simp only [go_sem]
  refine callD_pure (c_Changes s.id found s.seen (by omega) (by omega)) (by simp only [go_sem]) (by simp only [go_sem]) ?_
  simp only [go_sem]
  refine callD_pure (c_RChanges s.id found s.seen (by omega) (by omega)) (by simp only [go_sem]) (by simp only [go_sem]) ?_
  simp only [go_sem]
  refine callD_pure (c_RSameAlerts (changesS s.id found s.seen) (by rw [maxLen_eq]; omega)) (by simp only [go_sem]) (by simp only [go_sem]) ?_
  simp only [go_sem, eSv_fold]
  refine callD_pure (c_RSame u huq hus) (by simp only [go_sem]) (by simp only [go_sem]) ?_
  simp only [go_sem]
  refine callD_pure (c_RSameAlerts x (by rw [maxLen_eq]; omega)) (by simp only [go_sem]) (by simp only [go_sem]) ?_
  simp only [go_sem]
end Go.Proofs
