/- V, proofs: the law EvalPages, on data. Conditions: the spans' lists fit. -/
import Derived.Test.YtglabjcjfjlkoaaGreatDoorEVb
set_option linter.unusedVariables false
set_option linter.unusedSimpArgs false
namespace Go.Proofs
open Go.V Go.RowKit

theorem pageL_mem {r : List Rs} {f n : Int} {x : Rs} (h : x ∈ pageL r f n) : x ∈ r := by
  unfold pageL at h
  split at h
  · exact List.mem_of_mem_drop (List.mem_of_mem_take h)
  · simp at h
theorem pageL_len (r : List Rs) (f n : Int) : (pageL r f n).length ≤ r.length := by
  unfold pageL
  split
  · rw [List.length_take, List.length_drop]; omega
  · simp
theorem law_Pages (alive : PureC PR n_L41_alive [] (.bool true)) (r : List Rs) (hs : ∀ x ∈ r, x.sp.length ≤ maxLen) (f n : Int) (hl : r.length ≤ maxLen) :
    PureC PR n_L41_EvalPages [.sl (r.map eRs) 0, .int .i64 f, .int .i64 n] (.bool true) := by
  refine pure_of_wp m_L41_EvalPages rfl (by simp [argOk_sl, argOk_int]) ?_
  unfold FnW
  have hv : v_L41_EvalPages.body = v_L41_EvalPages.body := rfl
  conv at hv => rhs; unfold v_L41_EvalPages
  rw [hv]
  clear hv
  have hres : v_L41_EvalPages.results = [(6, none)] := rfl
  have hfr : v_L41_EvalPages.fresh = none := rfl
  by_cases h0 : 100 < r.length
  · have d0 : decide ((r.length : Int) > 100) = true := decide_eq_true (by omega)
    simp only [go_sem]
    refine callW_pure alive (by simp only [go_sem]) (by simp only [go_sem]) ?_
    simp only [go_sem, d0]
    simp only [go_sem, hres, hfr]
  have hr : r.length ≤ 100 := by omega
  have d0 : decide ((r.length : Int) > 100) = false := decide_eq_false (by omega)
  have hsame := c_RSame (pageL r f n) (pageL r f n) (by have := pageL_len r f n; omega) fun x hx => hs x (pageL_mem hx)
  rw [decide_eq_true rfl] at hsame
  have dn : ((r.length : Int) != (r.length : Int)) = false := by simp
  have p1 := c_Page r hr f n
  have p2 := c_RPage r hr f n
  by_cases h1 : n < 1
  · have d1 : decide (n < 1) = true := decide_eq_true h1
    simp only [go_sem]
    refine callW_pure alive (by simp only [go_sem]) (by simp only [go_sem]) ?_
    simp only [go_sem, d0]
    refine callW_pure p1 (by simp only [go_sem]) (by simp only [go_sem]) ?_
    simp only [go_sem]
    refine callW_pure p2 (by simp only [go_sem]) (by simp only [go_sem]) ?_
    simp only [go_sem, dn]
    refine callW_pure hsame (by simp only [go_sem]) (by simp only [go_sem]) ?_
    simp only [go_sem, d1]
    simp only [go_sem, hres, hfr]
  have d1 : decide (n < 1) = false := decide_eq_false h1
  obtain ⟨k, rfl⟩ : ∃ k : Nat, n = k := ⟨n.toNat, by omega⟩
  have hk : 0 < k := by omega
  have hend := c_RSame r r (by omega) hs
  rw [decide_eq_true rfl] at hend
  simp only [go_sem]
  refine callW_pure alive (by simp only [go_sem]) (by simp only [go_sem]) ?_
  simp only [go_sem, d0]
  refine callW_pure p1 (by simp only [go_sem]) (by simp only [go_sem]) ?_
  simp only [go_sem]
  refine callW_pure p2 (by simp only [go_sem]) (by simp only [go_sem]) ?_
  simp only [go_sem, dn]
  refine callW_pure hsame (by simp only [go_sem]) (by simp only [go_sem]) ?_
  simp only [go_sem, d1]
  generalize hP : (VV.sl ((pageL r f k).map eRs) 0) = P
  have hPi : P.ids 3 = true := by subst hP; simp [VV.ids]
  refine v_for (α := Nat) (base := 0) (marks := []) (pu := true) (good := fun j => j ≤ r.length) (m := fun j => r.length - j)
    (E := fun j => [(0, .sl (r.map eRs) 0), (2, .int .i64 (k : Nat)), (9, .sl ((r.take j).map eRs) 4), (10, .int .i64 (j : Nat))])
    (O := fun j => [.cells [.int .i64 r.length, P], .cells [.int .i64 r.length, P], .tok (r.take j).length 3])
    (by intro j _; simp [go_sem, Obj.idsB, hPi]) rfl ?_ 0 _ (Nat.zero_le _) rfl rfl rfl rfl rfl
  intro j hj
  by_cases q1 : j < r.length
  · have c1 : decide ((j : Int) < (r.length : Int)) = true := decide_eq_true (by omega)
    have pj := c_Page r hr j k
    rw [pageL_in q1 hk] at pj
    obtain ⟨m, hm⟩ : ∃ m, m = min k (r.length - j) := ⟨_, rfl⟩
    rw [← hm] at pj
    have hpl : ((r.drop j).take m).length = m := by rw [List.length_take, List.length_drop]; omega
    have c2 : (((((r.drop j).take m).length : Nat) : Int) == 0) = false := by rw [hpl, beq_eq_false_iff_ne]; omega
    have hcap : (r.take (j + m)).length * 40 ≤ 35184372088832 := by rw [List.length_take]; omega
    have happ : (r.take j).map eRs ++ ((r.drop j).take m).map eRs = (r.take (j + m)).map eRs := by rw [← List.map_append, ← List.take_add]
    have hln : (r.take j).length + ((r.drop j).take m).length = (r.take (j + m)).length := by rw [hpl, List.length_take, List.length_take]; omega
    have wi : IntKind.i64.wrap ((j : Int) + ((((r.drop j).take m).length : Nat) : Int)) = ((j + m : Nat) : Int) := by
      rw [hpl]
      exact wrap_nat (n := j + m) (by omega)
    simp only [go_sem, c1]
    refine callW_pure pj (by simp only [go_sem]) (by simp only [go_sem]) ?_
    simp only [go_sem, c2, hcap, happ, hln, wi]
    exact ⟨j + m, by omega, by simp only; omega, by simp only [go_sem], rfl, rfl, rfl, rfl⟩
  · have c1 : decide ((j : Int) < (r.length : Int)) = false := decide_eq_false (by omega)
    have ht : r.take j = r := List.take_of_length_le (by omega)
    simp only [go_sem, c1, ht]
    refine callW_pure hend (by simp only [go_sem]) (by simp only [go_sem]) ?_
    simp only [go_sem, hres, hfr]
end Go.Proofs
