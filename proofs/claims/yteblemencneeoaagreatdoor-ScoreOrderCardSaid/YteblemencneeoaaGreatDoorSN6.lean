/- The law ScoreSorts, on data. Conditions: the documents' number, the spans' numbers. -/
import Derived.Test.YteblemencneeoaaGreatDoorSP1
set_option linter.unusedVariables false
set_option linter.unusedSimpArgs false
namespace Go.Proofs
open Go.V Go.RowKit

def spOk (a : List Rs) : Prop := ∀ r ∈ a, r.sp.length ≤ maxLen
theorem mrg_mem {α : Type} {lt : α → α → Bool} {z : α} : ∀ (n : Nat) (a b : List α), a.length + b.length ≤ n → z ∈ mrgS lt a b → z ∈ a ∨ z ∈ b
  | _, [], b, _, h => by rw [mrg_nil_l] at h; exact .inr h
  | _, a :: x, [], _, h => by rw [mrg_nil_r] at h; exact .inl h
  | 0, _ :: _, _ :: _, h, _ => by simp at h
  | n + 1, a :: x, b :: y, h, hz => by
    rw [mrg_cons] at hz
    split at hz
    · rcases List.mem_cons.1 hz with rfl | hz
      · exact .inr (List.mem_cons_self)
      · rcases mrg_mem n (a :: x) y (by simp at h ⊢; omega) hz with q | q
        · exact .inl q
        · exact .inr (List.mem_cons_of_mem _ q)
    · rcases List.mem_cons.1 hz with rfl | hz
      · exact .inl (List.mem_cons_self)
      · rcases mrg_mem n x (b :: y) (by simp at h ⊢; omega) hz with q | q
        · exact .inl (List.mem_cons_of_mem _ q)
        · exact .inr q
theorem sp_mrg {l : List Dc} {a b : List Rs} (ha : spOk a) (hb : spOk b) : spOk (mrgS (lessR l) a b) := fun r h => (mrg_mem _ a b (Nat.le_refl _) h).elim (ha r) (hb r)
theorem sp_sort {l : List Dc} {a : List Rs} (ha : spOk a) : spOk (stS (lessR l) a) := fun r h => ha r (((stS_ok (lessR_wk l) a).2.mem (lessR_wk l)).1 h)
theorem sp_take {a : List Rs} (ha : spOk a) (k : Nat) : spOk (a.take k) := fun r h => ha r (List.mem_of_mem_take h)
theorem c_same_self (a : List Rs) (ha : a.length ≤ 1000000) (hs : spOk a) : PureC PR n_R40_Same [.sl (a.map eRs) 0, .sl (a.map eRs) 0] (.bool true) := by
  have q := c_Same a a ha hs
  rw [decide_eq_true rfl] at q
  exact q
theorem law_Sorts1 (alive : PureC PR n_L40_alive [] (.bool true)) (l : List Dc) (hl : l.length ≤ maxLen) (a b : List Rs) (sa : spOk a) (sb : spOk b) (n : Int) (h1 : ¬ l.length ≤ 60) :
    PureC PR n_L40_ScoreSorts [.sl (l.map eDc) 0, .agg [.sl (a.map eRs) 0, .sl (b.map eRs) 0], .int .i64 n] (.bool true) := by
  have d1 : decide ((l.length : Int) > 60) = true := decide_eq_true (by omega)
  refine pure_of_wp m_L40_ScoreSorts rfl (by simp [argOk, VV.noHnd, VV.noHnd0, VV.ids, idsL]) ?_
  unfold FnW v_L40_ScoreSorts
  simp only [go_sem]
  refine callW_pure alive (by simp only [go_sem]) (by simp only [go_sem]) ?_
  simp only [go_sem, Bool.not_true, d1]
theorem law_Sorts2 (alive : PureC PR n_L40_alive [] (.bool true)) (l : List Dc) (hl : l.length ≤ maxLen) (a b : List Rs) (sa : spOk a) (sb : spOk b) (n : Int) (h1 : l.length ≤ 60) (h2 : ¬ a.length ≤ 60) :
    PureC PR n_L40_ScoreSorts [.sl (l.map eDc) 0, .agg [.sl (a.map eRs) 0, .sl (b.map eRs) 0], .int .i64 n] (.bool true) := by
  have d1 : decide ((l.length : Int) > 60) = false := decide_eq_false (by omega)
  have d2 : decide ((a.length : Int) ≤ 60) = false := decide_eq_false (by omega)
  refine pure_of_wp m_L40_ScoreSorts rfl (by simp [argOk, VV.noHnd, VV.noHnd0, VV.ids, idsL]) ?_
  unfold FnW v_L40_ScoreSorts
  simp only [go_sem]
  refine callW_pure alive (by simp only [go_sem]) (by simp only [go_sem]) ?_
  simp only [go_sem, Bool.not_true, d1]
  refine callW_pure (c_small a) (by simp only [go_sem]) (by simp only [go_sem]) ?_
  simp only [go_sem, d2, Bool.not_false]
theorem law_Sorts3 (alive : PureC PR n_L40_alive [] (.bool true)) (l : List Dc) (hl : l.length ≤ maxLen) (a b : List Rs) (sa : spOk a) (sb : spOk b) (n : Int) (h1 : l.length ≤ 60) (h2 : a.length ≤ 60) (h3 : ¬ b.length ≤ 60) :
    PureC PR n_L40_ScoreSorts [.sl (l.map eDc) 0, .agg [.sl (a.map eRs) 0, .sl (b.map eRs) 0], .int .i64 n] (.bool true) := by
  have d1 : decide ((l.length : Int) > 60) = false := decide_eq_false (by omega)
  have d2 : decide ((a.length : Int) ≤ 60) = true := decide_eq_true (by omega)
  have d3 : decide ((b.length : Int) ≤ 60) = false := decide_eq_false (by omega)
  refine pure_of_wp m_L40_ScoreSorts rfl (by simp [argOk, VV.noHnd, VV.noHnd0, VV.ids, idsL]) ?_
  unfold FnW v_L40_ScoreSorts
  simp only [go_sem]
  refine callW_pure alive (by simp only [go_sem]) (by simp only [go_sem]) ?_
  simp only [go_sem, Bool.not_true, d1]
  refine callW_pure (c_small a) (by simp only [go_sem]) (by simp only [go_sem]) ?_
  simp only [go_sem, d2, Bool.not_true]
  refine callW_pure (c_small b) (by simp only [go_sem]) (by simp only [go_sem]) ?_
  simp only [go_sem, d3, Bool.not_false]
theorem law_Sorts4 (alive : PureC PR n_L40_alive [] (.bool true)) (l : List Dc) (hl : l.length ≤ maxLen) (a b : List Rs) (sa : spOk a) (sb : spOk b) (n : Int) (h1 : l.length ≤ 60) (h2 : a.length ≤ 60) (h3 : b.length ≤ 60) :
    PureC PR n_L40_ScoreSorts [.sl (l.map eDc) 0, .agg [.sl (a.map eRs) 0, .sl (b.map eRs) 0], .int .i64 n] (.bool true) := by
  have d1 : decide ((l.length : Int) > 60) = false := decide_eq_false (by omega)
  have d2 : decide ((a.length : Int) ≤ 60) = true := decide_eq_true (by omega)
  have d3 : decide ((b.length : Int) ≤ 60) = true := decide_eq_true (by omega)
  have k1 := stS_len (lt := lessR l) a
  have k2 := mrg_len (lt := lessR l) _ a b (Nat.le_refl _)
  have k3 := topN_le n a.length
  have q1 := c_Sort l hl a (by omega)
  have q2 := c_RSortR l hl a (by omega)
  rw [← sorts_one (lessR_wk l) a] at q2
  have q3 := c_same_self (stS (lessR l) a) (by omega) (sp_sort sa)
  have q4 := c_Merge l hl a b (by omega) (by omega)
  have q5 := c_RMerge l hl a b (by omega) (by omega)
  have q6 := c_same_self (mrgS (lessR l) a b) (by omega) (sp_mrg sa sb)
  have q7 := c_Top a (by omega) n
  have q8 := c_R40_Top a n
  have q9 := c_same_self (a.take (topN n a.length)) (by rw [List.length_take]; omega) (sp_take sa _)
  refine pure_of_wp m_L40_ScoreSorts rfl (by simp [argOk, VV.noHnd, VV.noHnd0, VV.ids, idsL]) ?_
  unfold FnW v_L40_ScoreSorts
  simp only [go_sem]
  refine callW_pure alive (by simp only [go_sem]) (by simp only [go_sem]) ?_
  simp only [go_sem, Bool.not_true, d1]
  refine callW_pure (c_small a) (by simp only [go_sem]) (by simp only [go_sem]) ?_
  simp only [go_sem, d2, Bool.not_true]
  refine callW_pure (c_small b) (by simp only [go_sem]) (by simp only [go_sem]) ?_
  simp only [go_sem, d3, Bool.not_true]
  refine callD_pure q1 (by simp only [go_sem]) (by simp only [go_sem]) ?_
  simp only [go_sem]
  refine callD_pure q2 (by simp only [go_sem]) (by simp only [go_sem]) ?_
  simp only [go_sem]
  refine callD_pure q3 (by simp only [go_sem]) (by simp only [go_sem]) ?_
  simp only [go_sem]
  refine callD_pure q4 (by simp only [go_sem]) (by simp only [go_sem]) ?_
  simp only [go_sem]
  refine callD_pure q5 (by simp only [go_sem]) (by simp only [go_sem]) ?_
  simp only [go_sem]
  refine callD_pure q6 (by simp only [go_sem]) (by simp only [go_sem]) ?_
  simp only [go_sem]
  refine callD_pure q7 (by simp only [go_sem]) (by simp only [go_sem]) ?_
  simp only [go_sem]
  refine callD_pure q8 (by simp only [go_sem]) (by simp only [go_sem]) ?_
  simp only [go_sem]
  refine callD_pure q9 (by simp only [go_sem]) (by simp only [go_sem]) ?_
  simp only [go_sem]
theorem law_Sorts (alive : PureC PR n_L40_alive [] (.bool true)) (l : List Dc) (hl : l.length ≤ maxLen) (a b : List Rs) (sa : spOk a) (sb : spOk b) (n : Int) :
    PureC PR n_L40_ScoreSorts [.sl (l.map eDc) 0, .agg [.sl (a.map eRs) 0, .sl (b.map eRs) 0], .int .i64 n] (.bool true) := by
  by_cases h1 : l.length ≤ 60
  · by_cases h2 : a.length ≤ 60
    · by_cases h3 : b.length ≤ 60
      · exact law_Sorts4 alive l hl a b sa sb n h1 h2 h3
      · exact law_Sorts3 alive l hl a b sa sb n h1 h2 h3
    · exact law_Sorts2 alive l hl a b sa sb n h1 h2
  · exact law_Sorts1 alive l hl a b sa sb n h1
end Go.Proofs
