/- V, proofs: the document's Page. Conditions: at most 100 results; a number that fits. -/
import Derived.Test.YtglabjcjfjlkoaaGreatDoorEV9
set_option linter.unusedVariables false
set_option linter.unusedSimpArgs false
namespace Go.Proofs
open Go.V Go.RowKit

theorem pageL_no {r : List Rs} {f n : Int} (h : ¬ (0 ≤ f ∧ f < r.length ∧ 0 < n)) : pageL r f n = [] := if_neg h
theorem c_RPage (r : List Rs) (hr : r.length ≤ 100) (f n : Int) : PureC PR n_R41_Page [.sl (r.map eRs) 0, .int .i64 f, .int .i64 n] (.agg [.int .i64 r.length, .sl ((pageL r f n).map eRs) 0]) := by
  refine pure_of_wp m_R41_Page rfl (by simp [argOk_sl, argOk_int]) ?_
  unfold FnW
  have hv : v_R41_Page.body = v_R41_Page.body := rfl
  conv at hv => rhs; unfold v_R41_Page
  rw [hv]
  clear hv
  have hres : v_R41_Page.results = [(6, some 2)] := rfl
  have hfr : v_R41_Page.fresh = none := rfl
  by_cases h1 : f < 0
  · have d1 : decide (f < 0) = true := decide_eq_true h1
    have hp : pageL r f n = [] := pageL_no (fun h => by omega)
    simp only [go_sem, d1]
    simp only [go_sem, hres, hfr, hp]
  have d1 : decide (f < 0) = false := decide_eq_false h1
  by_cases h2 : f < r.length
  rotate_left
  · have d2 : decide (f ≥ (r.length : Int)) = true := decide_eq_true (by omega)
    have hp : pageL r f n = [] := pageL_no (fun h => by omega)
    simp only [go_sem, d1, d2]
    simp only [go_sem, hres, hfr, hp]
  have d2 : decide (f ≥ (r.length : Int)) = false := decide_eq_false (by omega)
  by_cases h3 : n < 1
  · have d3 : decide (n < 1) = true := decide_eq_true h3
    have hp : pageL r f n = [] := pageL_no (fun h => by omega)
    simp only [go_sem, d1, d2, d3]
    simp only [go_sem, hres, hfr, hp]
  have d3 : decide (n < 1) = false := decide_eq_false h3
  obtain ⟨i, rfl⟩ : ∃ i : Nat, f = i := ⟨f.toNat, by omega⟩
  obtain ⟨k, rfl⟩ : ∃ k : Nat, n = k := ⟨n.toNat, by omega⟩
  have hi : i < r.length := by omega
  have hp := pageL_in hi (show 0 < k by omega)
  simp only [go_sem, d1, d2, d3]
  refine v_for (α := Nat) (base := 0) (marks := []) (pu := true) (good := fun j => j ≤ k ∧ i + j ≤ r.length) (m := fun j => r.length - (i + j))
    (E := fun j => [(0, .sl (r.map eRs) 0), (1, .int .i64 (i : Nat)), (2, .int .i64 (k : Nat)), (6, .ptr 0 0), (7, .ptr 1 0), (8, .int .i64 ((i + j : Nat) : Int))])
    (O := fun j => [.cells [.int .i64 0, .nils], .cells [.int .i64 r.length, .sl (((r.drop i).take j).map eRs) 4], .tok ((r.drop i).take j).length 3])
    (by intro j _; simp [go_sem, Obj.idsB]) rfl ?_ 0 _ ⟨Nat.zero_le _, by omega⟩ rfl rfl rfl rfl rfl
  rintro j ⟨hj1, hj2⟩
  have hw : IntKind.i64.wrap (((i + j : Nat) : Int) - (i : Int)) = (j : Int) := by
    have e : ((i + j : Nat) : Int) - (i : Int) = (j : Int) := by omega
    rw [e]
    exact wrap_nat (by omega)
  by_cases q1 : i + j < r.length
  · have c1 : decide (((i + j : Nat) : Int) < (r.length : Int)) = true := decide_eq_true (by omega)
    by_cases q2 : j < k
    · have c2 : decide ((j : Int) < (k : Int)) = true := decide_eq_true (by omega)
      have ga := get_map eRs q1
      have wi : IntKind.i64.wrap (((i + j : Nat) : Int) + 1) = ((i + j + 1 : Nat) : Int) := wrap_succ (by omega)
      have hjl : ((r.drop i).take j).length = j := by rw [List.length_take, List.length_drop]; omega
      have hcap : (((r.drop i).take j).length + 1) * 40 ≤ 35184372088832 := by omega
      have hst : ((r.drop i).take j).map eRs ++ [eRs r[i + j]] = ((r.drop i).take (j + 1)).map eRs := by
        have hd : j < (r.drop i).length := by rw [List.length_drop]; omega
        rw [take_succ hd, List.map_append, List.getElem_drop]
        rfl
      have hln : ((r.drop i).take j).length + 1 = ((r.drop i).take (j + 1)).length := by rw [hjl, List.length_take, List.length_drop]; omega
      simp only [go_sem, c1, c2, hw, ga, hcap, eRs_box]
      exact ⟨j + 1, ⟨by omega, by omega⟩, by simp only; omega, by simp only [go_sem, wi, Nat.add_assoc], by rw [hst, hln]; rfl, rfl, rfl, rfl⟩
    · have c2 : decide ((j : Int) < (k : Int)) = false := decide_eq_false (by omega)
      have hjk : j = k := by omega
      have hmn : min k (r.length - i) = j := by omega
      simp only [go_sem, c1, c2, hw]
      simp only [go_sem, hres, hfr, hp, hmn]
  · have c1 : decide (((i + j : Nat) : Int) < (r.length : Int)) = false := decide_eq_false (by omega)
    have hmn : min k (r.length - i) = j := by omega
    simp only [go_sem, c1]
    simp only [go_sem, hres, hfr, hp, hmn]
end Go.Proofs
