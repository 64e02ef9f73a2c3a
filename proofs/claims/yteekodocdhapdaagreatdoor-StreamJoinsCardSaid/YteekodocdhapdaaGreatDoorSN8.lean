/- The law StreamJoins, on data. Conditions: the documents' number, the spans' numbers. -/
import Derived.Test.YteekodocdhapdaaGreatDoorSQ2
set_option linter.unusedVariables false
set_option linter.unusedSimpArgs false
namespace Go.Proofs
open Go.V Go.RowKit

def spOk (a : List Rs) : Prop := ∀ r ∈ a, r.sp.length ≤ maxLen
theorem near_len {a : An} (h : nearS a = true) : a.rs.length ≤ 40 ∧ a.ps.length ≤ 40 := by
  unfold nearS at h
  simp only [Bool.and_eq_true, decide_eq_true_eq] at h
  exact h.1
theorem sp_acc {a b : An} (sa : spOk a.rs) (sb : spOk b.rs) : ∀ j, spOk (accAt a b j)
  | 0 => fun r h => by simp [accAt] at h
  | j + 1 => fun r h => by
    rcases ddS_mem _ _ r h with q | q
    · exact sp_acc sa sb j r q
    · cases j with
      | zero => exact sa r q
      | succ j => exact sb r q
theorem law_Joins1 (alive : PureC PR n_L42_alive [] (.bool true)) (l : List Dc) (hl : l.length ≤ maxLen) (a b : An) (sa : spOk a.rs) (sb : spOk b.rs) (h1 : ¬ l.length ≤ 40) :
    PureC PR n_L42_StreamJoins [.sl (l.map eDc) 0, eAn a, eAn b] (.bool true) := by
  have d1 : decide ((l.length : Int) > 40) = true := decide_eq_true (by omega)
  refine pure_of_wp m_L42_StreamJoins rfl (by simp [argOk, eAn, VV.noHnd, VV.noHnd0, VV.ids, idsL]) ?_
  unfold FnW
  have hv : v_L42_StreamJoins.body = v_L42_StreamJoins.body := rfl
  conv at hv => rhs; unfold v_L42_StreamJoins
  rw [hv]
  clear hv
  have hres : v_L42_StreamJoins.results = [(6, none)] := rfl
  have hfr : v_L42_StreamJoins.fresh = none := rfl
  have qa := c_near a
  have qb := c_near b
  simp only [go_sem, eAn] at qa qb
  simp only [go_sem, eAn]
  refine callW_pure alive (by simp only [go_sem]) (by simp only [go_sem]) ?_
  simp only [go_sem, Bool.not_true, d1]
  simp only [go_sem, hres, hfr]
theorem law_Joins2 (alive : PureC PR n_L42_alive [] (.bool true)) (l : List Dc) (hl : l.length ≤ maxLen) (a b : An) (sa : spOk a.rs) (sb : spOk b.rs) (h1 : l.length ≤ 40) (h2 : nearS a = false) :
    PureC PR n_L42_StreamJoins [.sl (l.map eDc) 0, eAn a, eAn b] (.bool true) := by
  have d1 : decide ((l.length : Int) > 40) = false := decide_eq_false (by omega)
  refine pure_of_wp m_L42_StreamJoins rfl (by simp [argOk, eAn, VV.noHnd, VV.noHnd0, VV.ids, idsL]) ?_
  unfold FnW
  have hv : v_L42_StreamJoins.body = v_L42_StreamJoins.body := rfl
  conv at hv => rhs; unfold v_L42_StreamJoins
  rw [hv]
  clear hv
  have hres : v_L42_StreamJoins.results = [(6, none)] := rfl
  have hfr : v_L42_StreamJoins.fresh = none := rfl
  have qa := c_near a
  have qb := c_near b
  simp only [go_sem, eAn] at qa qb
  simp only [go_sem, eAn]
  refine callW_pure alive (by simp only [go_sem]) (by simp only [go_sem]) ?_
  rw [h2] at qa
  simp only [go_sem, Bool.not_true, d1]
  refine callW_pure qa (by simp only [go_sem]) (by simp only [go_sem]) ?_
  simp only [go_sem, Bool.not_false]
  simp only [go_sem, hres, hfr]
theorem law_Joins3 (alive : PureC PR n_L42_alive [] (.bool true)) (l : List Dc) (hl : l.length ≤ maxLen) (a b : An) (sa : spOk a.rs) (sb : spOk b.rs) (h1 : l.length ≤ 40) (h2 : nearS a = true) (h3 : nearS b = false) :
    PureC PR n_L42_StreamJoins [.sl (l.map eDc) 0, eAn a, eAn b] (.bool true) := by
  have d1 : decide ((l.length : Int) > 40) = false := decide_eq_false (by omega)
  refine pure_of_wp m_L42_StreamJoins rfl (by simp [argOk, eAn, VV.noHnd, VV.noHnd0, VV.ids, idsL]) ?_
  unfold FnW
  have hv : v_L42_StreamJoins.body = v_L42_StreamJoins.body := rfl
  conv at hv => rhs; unfold v_L42_StreamJoins
  rw [hv]
  clear hv
  have hres : v_L42_StreamJoins.results = [(6, none)] := rfl
  have hfr : v_L42_StreamJoins.fresh = none := rfl
  have qa := c_near a
  have qb := c_near b
  simp only [go_sem, eAn] at qa qb
  simp only [go_sem, eAn]
  refine callW_pure alive (by simp only [go_sem]) (by simp only [go_sem]) ?_
  rw [h2] at qa
  rw [h3] at qb
  simp only [go_sem, Bool.not_true, d1]
  refine callW_pure qa (by simp only [go_sem]) (by simp only [go_sem]) ?_
  simp only [go_sem, Bool.not_true]
  refine callW_pure qb (by simp only [go_sem]) (by simp only [go_sem]) ?_
  simp only [go_sem, Bool.not_false]
  simp only [go_sem, hres, hfr]
theorem law_Joins4 (alive : PureC PR n_L42_alive [] (.bool true)) (l : List Dc) (hl : l.length ≤ maxLen) (a b : An) (sa : spOk a.rs) (sb : spOk b.rs) (h1 : l.length ≤ 40) (h2 : nearS a = true) (h3 : nearS b = true) :
    PureC PR n_L42_StreamJoins [.sl (l.map eDc) 0, eAn a, eAn b] (.bool true) := by
  have d1 : decide ((l.length : Int) > 40) = false := decide_eq_false (by omega)
  obtain ⟨la, pa⟩ := near_len h2
  obtain ⟨lb, pb⟩ := near_len h3
  have q1 := c_Account a (by omega)
  have q2 := c_R42_Account a (by omega)
  have q3 := c_Join l hl a b (by omega) (by omega) (by omega) (by omega)
  have q4 := c_R42_Join l hl a b (by omega) (by omega) (by omega) (by omega)
  have hk := accAt_len (a := a) (b := b) (by omega) (by omega) 2
  have hjl : (joinS l a b).rs.length ≤ 1000000 := by
    show (stS (lessR l) (accAt a b 2)).length ≤ 1000000
    rw [stS_len]; omega
  have hjp : (joinS l a b).ps.length ≤ 1000000 := by
    show (a.ps ++ b.ps).length ≤ 1000000
    rw [List.length_append]; omega
  have hjs : ∀ r ∈ (joinS l a b).rs, r.sp.length ≤ maxLen := fun r h => sp_acc sa sb 2 r (((stS_ok (lessR_wk l) (accAt a b 2)).2.mem (lessR_wk l)).1 h)
  have q5 := c_SameA (joinS l a b) hjl hjp hjs
  generalize joinS l a b = J at *
  generalize accS a.ps (0, 0, 0) = T at *
  simp only [go_sem, eAn, accV] at q1 q2 q3 q4 q5
  refine pure_of_wp m_L42_StreamJoins rfl (by simp [argOk, eAn, VV.noHnd, VV.noHnd0, VV.ids, idsL]) ?_
  unfold FnW
  have hv : v_L42_StreamJoins.body = v_L42_StreamJoins.body := rfl
  conv at hv => rhs; unfold v_L42_StreamJoins
  rw [hv]
  clear hv
  have hres : v_L42_StreamJoins.results = [(6, none)] := rfl
  have hfr : v_L42_StreamJoins.fresh = none := rfl
  have qa := c_near a
  have qb := c_near b
  simp only [go_sem, eAn] at qa qb
  simp only [go_sem, eAn]
  refine callW_pure alive (by simp only [go_sem]) (by simp only [go_sem]) ?_
  rw [h2] at qa
  rw [h3] at qb
  simp only [go_sem, Bool.not_true, d1]
  refine callW_pure qa (by simp only [go_sem]) (by simp only [go_sem]) ?_
  simp only [go_sem, Bool.not_true]
  refine callW_pure qb (by simp only [go_sem]) (by simp only [go_sem]) ?_
  simp only [go_sem, Bool.not_true]
  refine callW_pure q1 (by simp only [go_sem]) (by simp only [go_sem]) ?_
  simp only [go_sem]
  refine callW_pure q2 (by simp only [go_sem]) (by simp only [go_sem]) ?_
  simp only [go_sem]
  refine callD_pure q3 (by simp only [go_sem]) (by simp only [go_sem]) ?_
  simp only [go_sem]
  refine callD_pure q4 (by simp only [go_sem]) (by simp only [go_sem]) ?_
  simp only [go_sem]
  refine callD_pure q5 (by simp only [go_sem]) (by simp only [go_sem]) ?_
  simp only [go_sem]
  simp only [go_sem, hres, hfr, beq_self_eq_true]
theorem law_Joins (alive : PureC PR n_L42_alive [] (.bool true)) (l : List Dc) (hl : l.length ≤ maxLen) (a b : An) (sa : spOk a.rs) (sb : spOk b.rs) :
    PureC PR n_L42_StreamJoins [.sl (l.map eDc) 0, eAn a, eAn b] (.bool true) := by
  by_cases h1 : l.length ≤ 40
  · cases h2 : nearS a with
    | true =>
      cases h3 : nearS b with
      | true => exact law_Joins4 alive l hl a b sa sb h1 h2 h3
      | false => exact law_Joins3 alive l hl a b sa sb h1 h2 h3
    | false => exact law_Joins2 alive l hl a b sa sb h1 h2
  · exact law_Joins1 alive l hl a b sa sb h1
end Go.Proofs
