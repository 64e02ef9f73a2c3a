/- V, proofs: Page of the program and of the document. Conditions: at most 100 results. -/
import Derived.Test.YtglabjcjfjlkoaaGreatDoorEV8
set_option linter.unusedVariables false
set_option linter.unusedSimpArgs false
namespace Go.Proofs
open Go.V Go.RowKit

/-- the part of a list that a page shows -/
def pageL (r : List Rs) (f n : Int) : List Rs := if 0 ≤ f ∧ f < r.length ∧ 0 < n then (r.drop f.toNat).take (min n.toNat (r.length - f.toNat)) else []
theorem pageL_in {r : List Rs} {i n : Nat} (hi : i < r.length) (hn : 0 < n) : pageL r i n = (r.drop i).take (min n (r.length - i)) := by
  unfold pageL
  rw [if_pos ⟨by omega, by omega, by omega⟩]
  simp
theorem c_Page (r : List Rs) (hr : r.length ≤ 100) (f n : Int) : PureC PR n_eval_Page [.sl (r.map eRs) 0, .int .i64 f, .int .i64 n] (.agg [.int .i64 r.length, .sl ((pageL r f n).map eRs) 0]) := by
  refine pure_of_wp m_eval_Page rfl (by simp [argOk_sl, argOk_int]) ?_
  unfold FnW
  have hv : v_eval_Page.body = v_eval_Page.body := rfl
  conv at hv => rhs; unfold v_eval_Page
  rw [hv]
  clear hv
  have hres : v_eval_Page.results = [(6, some 2)] := rfl
  have hfr : v_eval_Page.fresh = none := rfl
  by_cases h1 : 0 ≤ f
  · by_cases h2 : f < r.length
    · by_cases h3 : 0 < n
      · obtain ⟨i, rfl⟩ : ∃ i : Nat, f = i := ⟨f.toNat, by omega⟩
        obtain ⟨k, rfl⟩ : ∃ k : Nat, n = k := ⟨n.toNat, by omega⟩
        have hi : i < r.length := by omega
        have d1 : decide ((i : Int) ≥ 0) = true := decide_eq_true (by omega)
        have d2 : decide ((i : Int) < (r.length : Int)) = true := decide_eq_true (by omega)
        have d3 : decide ((k : Int) > 0) = true := decide_eq_true (by omega)
        have b1 : boundV r.length (.int .i64 (i : Nat)) = some i := bnd (by omega)
        have hp := pageL_in hi (show 0 < k by omega)
        have hdr : ((r.map eRs).take r.length).drop i = (r.drop i).map eRs := by rw [List.take_of_length_le (by simp), List.map_drop]
        have hmn : (if (k : Int) ≤ ((r.drop i).length : Int) then (k : Int) else ((r.drop i).length : Int)) = ((min k (r.length - i) : Nat) : Int) := by
          simp only [List.length_drop]
          split <;> omega
        have b2 : boundV (r.drop i).length (.int .i64 ((min k (r.length - i) : Nat) : Int)) = some (min k (r.length - i)) := bnd (by simp; omega)
        simp only [go_sem, d1, d2, d3, b1, hdr, hmn, b2, hd_rs]
        simp only [go_sem, hres, hfr, hp, List.map_take]
      · have d1 : decide (f ≥ 0) = true := decide_eq_true (by omega)
        have d2 : decide (f < (r.length : Int)) = true := decide_eq_true (by omega)
        have d3 : decide (n > 0) = false := decide_eq_false (by omega)
        have hp : pageL r f n = [] := by unfold pageL; rw [if_neg (fun h => h3 h.2.2)]
        simp only [go_sem, d1, d2, d3]
        simp only [go_sem, hres, hfr, hp]
    · have d1 : decide (f ≥ 0) = true := decide_eq_true (by omega)
      have d2 : decide (f < (r.length : Int)) = false := decide_eq_false (by omega)
      have hp : pageL r f n = [] := by unfold pageL; rw [if_neg (fun h => h2 h.2.1)]
      simp only [go_sem, d1, d2]
      simp only [go_sem, hres, hfr, hp]
  · have d1 : decide (f ≥ 0) = false := decide_eq_false (by omega)
    have hp : pageL r f n = [] := by unfold pageL; rw [if_neg (fun h => h1 h.1)]
    simp only [go_sem, d1]
    simp only [go_sem, hres, hfr, hp]
end Go.Proofs
