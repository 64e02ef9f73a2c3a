/- The law ScoreMerges, on data. Conditions: the documents' number, the spans' numbers. -/
import Derived.Test.YteblemencneeoaaGreatDoorSN6
set_option linter.unusedVariables false
set_option linter.unusedSimpArgs false
namespace Go.Proofs
open Go.V Go.RowKit

theorem take_topN {α : Type} (l : List α) (n : Int) : l.take (topN n l.length) = l.take (max n 0).toNat := by
  unfold topN
  by_cases h : (max n 0).toNat ≤ l.length
  · rw [show (min (max n 0) (l.length : Int)).toNat = (max n 0).toNat by omega]
  · rw [show (min (max n 0) (l.length : Int)).toNat = l.length by omega, List.take_of_length_le (Nat.le_refl _), List.take_of_length_le (by omega)]
theorem top_merge {α : Type} {lt : α → α → Bool} (a b : List α) (n : Int) :
    (mrgS lt (a.take (topN n a.length)) (b.take (topN n b.length))).take (topN n (mrgS lt (a.take (topN n a.length)) (b.take (topN n b.length))).length) = (mrgS lt a b).take (topN n (mrgS lt a b).length) := by
  rw [take_topN, take_topN, take_topN, take_topN, ← mrg_take _ _ a b (Nat.le_refl _)]
theorem law_Merges1 (alive : PureC PR n_L40_alive [] (.bool true)) (l : List Dc) (hl : l.length ≤ maxLen) (a b : List Rs) (sa : spOk a) (sb : spOk b) (n : Int) (h1 : ¬ l.length ≤ 60) :
    PureC PR n_L40_ScoreMerges [.sl (l.map eDc) 0, .agg [.sl (a.map eRs) 0, .sl (b.map eRs) 0], .int .i64 n] (.bool true) := by
  have d1 : decide ((l.length : Int) > 60) = true := decide_eq_true (by omega)
  refine pure_of_wp m_L40_ScoreMerges rfl (by simp [argOk, VV.noHnd, VV.noHnd0, VV.ids, idsL]) ?_
  unfold FnW
  have hv : v_L40_ScoreMerges.body = v_L40_ScoreMerges.body := rfl
  conv at hv => rhs; unfold v_L40_ScoreMerges
  rw [hv]
  clear hv
  have hres : v_L40_ScoreMerges.results = [(6, none)] := rfl
  have hfr : v_L40_ScoreMerges.fresh = none := rfl
  simp only [go_sem]
  refine callW_pure alive (by simp only [go_sem]) (by simp only [go_sem]) ?_
  simp only [go_sem, Bool.not_true, d1]
  simp only [go_sem, hres, hfr]
theorem law_Merges2 (alive : PureC PR n_L40_alive [] (.bool true)) (l : List Dc) (hl : l.length ≤ maxLen) (a b : List Rs) (sa : spOk a) (sb : spOk b) (n : Int) (h1 : l.length ≤ 60) (h2 : ¬ a.length ≤ 30) :
    PureC PR n_L40_ScoreMerges [.sl (l.map eDc) 0, .agg [.sl (a.map eRs) 0, .sl (b.map eRs) 0], .int .i64 n] (.bool true) := by
  have d1 : decide ((l.length : Int) > 60) = false := decide_eq_false (by omega)
  have d2 : decide ((a.length : Int) > 30) = true := decide_eq_true (by omega)
  refine pure_of_wp m_L40_ScoreMerges rfl (by simp [argOk, VV.noHnd, VV.noHnd0, VV.ids, idsL]) ?_
  unfold FnW
  have hv : v_L40_ScoreMerges.body = v_L40_ScoreMerges.body := rfl
  conv at hv => rhs; unfold v_L40_ScoreMerges
  rw [hv]
  clear hv
  have hres : v_L40_ScoreMerges.results = [(6, none)] := rfl
  have hfr : v_L40_ScoreMerges.fresh = none := rfl
  simp only [go_sem]
  refine callW_pure alive (by simp only [go_sem]) (by simp only [go_sem]) ?_
  simp only [go_sem, Bool.not_true, d1, d2]
  simp only [go_sem, hres, hfr]
theorem law_Merges3 (alive : PureC PR n_L40_alive [] (.bool true)) (l : List Dc) (hl : l.length ≤ maxLen) (a b : List Rs) (sa : spOk a) (sb : spOk b) (n : Int) (h1 : l.length ≤ 60) (h2 : a.length ≤ 30) (h3 : ¬ b.length ≤ 30) :
    PureC PR n_L40_ScoreMerges [.sl (l.map eDc) 0, .agg [.sl (a.map eRs) 0, .sl (b.map eRs) 0], .int .i64 n] (.bool true) := by
  have d1 : decide ((l.length : Int) > 60) = false := decide_eq_false (by omega)
  have d2 : decide ((a.length : Int) > 30) = false := decide_eq_false (by omega)
  have d3 : decide ((b.length : Int) > 30) = true := decide_eq_true (by omega)
  refine pure_of_wp m_L40_ScoreMerges rfl (by simp [argOk, VV.noHnd, VV.noHnd0, VV.ids, idsL]) ?_
  unfold FnW
  have hv : v_L40_ScoreMerges.body = v_L40_ScoreMerges.body := rfl
  conv at hv => rhs; unfold v_L40_ScoreMerges
  rw [hv]
  clear hv
  have hres : v_L40_ScoreMerges.results = [(6, none)] := rfl
  have hfr : v_L40_ScoreMerges.fresh = none := rfl
  simp only [go_sem]
  refine callW_pure alive (by simp only [go_sem]) (by simp only [go_sem]) ?_
  simp only [go_sem, Bool.not_true, d1, d2, d3]
  simp only [go_sem, hres, hfr]
theorem law_Merges4 (alive : PureC PR n_L40_alive [] (.bool true)) (l : List Dc) (hl : l.length ≤ maxLen) (a b : List Rs) (sa : spOk a) (sb : spOk b) (n : Int) (h1 : l.length ≤ 60) (h2 : a.length ≤ 30) (h3 : b.length ≤ 30) :
    PureC PR n_L40_ScoreMerges [.sl (l.map eDc) 0, .agg [.sl (a.map eRs) 0, .sl (b.map eRs) 0], .int .i64 n] (.bool true) := by
  have d1 : decide ((l.length : Int) > 60) = false := decide_eq_false (by omega)
  have d2 : decide ((a.length : Int) > 30) = false := decide_eq_false (by omega)
  have d3 : decide ((b.length : Int) > 30) = false := decide_eq_false (by omega)
  have q1 := c_Sort l hl a (by omega)
  have q2 := c_Sort l hl b (by omega)
  have kA := stS_len (lt := lessR l) a
  have kB := stS_len (lt := lessR l) b
  have sA : spOk (stS (lessR l) a) := sp_sort sa
  have sB : spOk (stS (lessR l) b) := sp_sort sb
  have hm := sorts_merge (lessR_wk l) a b
  generalize stS (lessR l) a = A at *
  generalize stS (lessR l) b = B at *
  have q3 := c_Merge l hl A B (by omega) (by omega)
  have q4 := c_Sort l hl (A ++ B) (by rw [List.length_append]; omega)
  rw [← hm] at q4
  have kM := mrg_len (lt := lessR l) _ A B (Nat.le_refl _)
  have sM : spOk (mrgS (lessR l) A B) := sp_mrg sA sB
  have q5 := c_same_self (mrgS (lessR l) A B) (by omega) sM
  have q6 := c_Top (mrgS (lessR l) A B) (by omega) n
  have q7 := c_Top A (by omega) n
  have q8 := c_Top B (by omega) n
  have tA : (A.take (topN n A.length)).length ≤ A.length := by rw [List.length_take]; omega
  have tB : (B.take (topN n B.length)).length ≤ B.length := by rw [List.length_take]; omega
  have q9 := c_Merge l hl (A.take (topN n A.length)) (B.take (topN n B.length)) (by omega) (by omega)
  have q10 := c_Top (mrgS (lessR l) (A.take (topN n A.length)) (B.take (topN n B.length))) (by rw [mrg_len _ _ _ (Nat.le_refl _)]; omega) n
  rw [top_merge] at q10
  have q11 := c_same_self ((mrgS (lessR l) A B).take (topN n (mrgS (lessR l) A B).length)) (by rw [List.length_take]; omega) (sp_take sM _)
  refine pure_of_wp m_L40_ScoreMerges rfl (by simp [argOk, VV.noHnd, VV.noHnd0, VV.ids, idsL]) ?_
  unfold FnW
  have hv : v_L40_ScoreMerges.body = v_L40_ScoreMerges.body := rfl
  conv at hv => rhs; unfold v_L40_ScoreMerges
  rw [hv]
  clear hv
  have hres : v_L40_ScoreMerges.results = [(6, none)] := rfl
  have hfr : v_L40_ScoreMerges.fresh = none := rfl
  simp only [go_sem]
  refine callW_pure alive (by simp only [go_sem]) (by simp only [go_sem]) ?_
  simp only [go_sem, Bool.not_true, d1, d2, d3]
  refine callD_pure q1 (by simp only [go_sem]) (by simp only [go_sem]) ?_
  simp only [go_sem]
  refine callD_pure q2 (by simp only [go_sem]) (by simp only [go_sem]) ?_
  simp only [go_sem]
  refine v_for (α := Nat) (base := 0) (marks := []) (pu := true) (good := fun i => i ≤ A.length) (m := fun i => A.length - i)
    (E := fun i => [(0, .sl (l.map eDc) 0), (2, .int .i64 n), (7, .sl (A.map eRs) 0), (8, .sl (B.map eRs) 0), (9, .sl ((A.take i).map eRs) 3), (10, .int .i64 (i : Nat))]) (O := fun i => [.cells [.sl (a.map eRs) 0, .sl (b.map eRs) 0], .tok i 3])
    (by intro i _; simp [go_sem, Obj.idsB]) rfl ?_ 0 _ (Nat.zero_le _) rfl rfl rfl rfl rfl
  intro i hi
  by_cases h : i < A.length
  · have ga := get_map eRs h
    have wi : IntKind.i64.wrap ((i : Int) + 1) = ((i + 1 : Nat) : Int) := wrap_succ (by omega)
    have hti : (A.take i).length = i := by rw [List.length_take]; omega
    have hc : (i + 1) * 40 ≤ 35184372088832 := cap_rs (by omega) (by decide)
    have hts := take_succ h
    simp only [go_sem, lt_t h, ga, eRs_box, hti, hc]
    refine ⟨i + 1, by omega, by simp only; omega, ?_, rfl, rfl, rfl, rfl⟩
    simp only [go_sem, wi, hts, List.map_append]
  have hAt : A.take i = A := List.take_of_length_le (by omega)
  have hiA : i = A.length := by omega
  subst hiA
  simp only [go_sem, lt_f h, hAt]
  refine v_for (α := Nat) (base := 0) (marks := []) (pu := true) (good := fun i => i ≤ B.length) (m := fun i => B.length - i)
    (E := fun i => [(0, .sl (l.map eDc) 0), (2, .int .i64 n), (7, .sl (A.map eRs) 0), (8, .sl (B.map eRs) 0), (9, .sl ((A ++ B.take i).map eRs) 3), (11, .int .i64 (i : Nat))]) (O := fun i => [.cells [.sl (a.map eRs) 0, .sl (b.map eRs) 0], .tok (A.length + i) 3])
    (by intro i _; simp [go_sem, Obj.idsB]) rfl ?_ 0 _ (Nat.zero_le _) (by simp only [List.take_zero, List.append_nil]; rfl) rfl rfl rfl rfl
  intro i hi
  by_cases h : i < B.length
  · have ga := get_map eRs h
    have wi : IntKind.i64.wrap ((i : Int) + 1) = ((i + 1 : Nat) : Int) := wrap_succ (by omega)
    have hti : (A ++ B.take i).length = A.length + i := by rw [List.length_append, List.length_take]; omega
    have hc : (A.length + i + 1) * 40 ≤ 35184372088832 := cap_rs (by omega) (by decide)
    have hts := take_succ h
    simp only [go_sem, lt_t h, ga, eRs_box, hti, hc]
    refine ⟨i + 1, by omega, by simp only; omega, ?_, rfl, rfl, rfl, rfl⟩
    simp only [go_sem, wi, hts, ← List.append_assoc, List.map_append]
  have hBt : B.take i = B := List.take_of_length_le (by omega)
  simp only [go_sem, lt_f h, hBt]
  refine callW_pure q3 (by simp only [go_sem]) (by simp only [go_sem]) ?_
  simp only [go_sem]
  refine callW_pure q4 (by simp only [go_sem]) (by simp only [go_sem]) ?_
  simp only [go_sem]
  refine callW_pure q5 (by simp only [go_sem]) (by simp only [go_sem]) ?_
  simp only [go_sem]
  refine callW_pure q6 (by simp only [go_sem]) (by simp only [go_sem]) ?_
  simp only [go_sem]
  refine callW_pure q7 (by simp only [go_sem]) (by simp only [go_sem]) ?_
  simp only [go_sem]
  refine callW_pure q8 (by simp only [go_sem]) (by simp only [go_sem]) ?_
  simp only [go_sem]
  refine callW_pure q9 (by simp only [go_sem]) (by simp only [go_sem]) ?_
  simp only [go_sem]
  refine callW_pure q10 (by simp only [go_sem]) (by simp only [go_sem]) ?_
  simp only [go_sem]
  refine callW_pure q11 (by simp only [go_sem]) (by simp only [go_sem]) ?_
  simp only [go_sem]
  simp only [go_sem, hres, hfr]
theorem law_Merges (alive : PureC PR n_L40_alive [] (.bool true)) (l : List Dc) (hl : l.length ≤ maxLen) (a b : List Rs) (sa : spOk a) (sb : spOk b) (n : Int) :
    PureC PR n_L40_ScoreMerges [.sl (l.map eDc) 0, .agg [.sl (a.map eRs) 0, .sl (b.map eRs) 0], .int .i64 n] (.bool true) := by
  by_cases h1 : l.length ≤ 60
  · by_cases h2 : a.length ≤ 30
    · by_cases h3 : b.length ≤ 30
      · exact law_Merges4 alive l hl a b sa sb n h1 h2 h3
      · exact law_Merges3 alive l hl a b sa sb n h1 h2 h3
    · exact law_Merges2 alive l hl a b sa sb n h1 h2
  · exact law_Merges1 alive l hl a b sa sb n h1
end Go.Proofs
