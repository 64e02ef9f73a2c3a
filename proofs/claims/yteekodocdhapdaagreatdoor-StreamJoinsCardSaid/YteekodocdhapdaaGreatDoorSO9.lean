/- V, proofs: the document's Merge, Sort and Same; small. Conditions: the lists' lengths. -/
import Derived.Test.YteekodocdhapdaaGreatDoorSO8
set_option linter.unusedVariables false
set_option linter.unusedSimpArgs false
namespace Go.Proofs
open Go.V Go.RowKit

theorem lt_t {i n : Nat} (h : i < n) : decide ((i : Int) < (n : Int)) = true := decide_eq_true (by omega)
theorem lt_f {i n : Nat} (h : ¬ i < n) : decide ((i : Int) < (n : Int)) = false := decide_eq_false (by omega)
theorem eq_f {i n : Nat} (h : i < n) : ((i : Int) == (n : Int)) = false := by rw [beq_eq_false_iff_ne]; omega
theorem eq_t {i n : Nat} (h : i = n) : ((i : Int) == (n : Int)) = true := by subst h; simp
theorem c_RMerge (l : List Dc) (hl : l.length ≤ maxLen) (a b : List Rs) (ha : a.length ≤ 1000000) (hb : b.length ≤ 1000000) :
    PureC PR n_R40_Merge [.sl (l.map eDc) 0, .sl (a.map eRs) 0, .sl (b.map eRs) 0] (.sl ((mrgS (lessR l) a b).map eRs) 0) := by
  refine pure_of_wp m_R40_Merge rfl (by simp [argOk_sl]) ?_
  unfold FnW
  have hv : v_R40_Merge.body = v_R40_Merge.body := rfl
  conv at hv => rhs; unfold v_R40_Merge
  rw [hv]
  clear hv
  have hres : v_R40_Merge.results = [(6, none)] := rfl
  have hfr : v_R40_Merge.fresh = none := rfl
  generalize hF : mrgS (lessR l) a b = F
  simp only [go_sem]
  refine v_for (α := Nat × Nat × List Rs) (base := 0) (marks := []) (pu := true) (good := fun y => y.1 ≤ a.length ∧ y.2.1 ≤ b.length ∧ y.2.2.length = y.1 + y.2.1 ∧ y.2.2 ++ mrgS (lessR l) (a.drop y.1) (b.drop y.2.1) = F) (m := fun y => (a.length - y.1) + (b.length - y.2.1))
    (E := fun y => [(0, .sl (l.map eDc) 0), (1, .sl (a.map eRs) 0), (2, .sl (b.map eRs) 0), (7, .sl (y.2.2.map eRs) 2), (8, .int .i64 (y.1 : Nat)), (9, .int .i64 (y.2.1 : Nat))]) (O := fun y => [.tok (y.1 + y.2.1) 3])
    (by intro y _; simp [go_sem, Obj.idsB]) rfl ?_ (0, 0, []) _ ⟨Nat.zero_le _, Nat.zero_le _, rfl, hF⟩ rfl rfl rfl rfl rfl
  rintro ⟨i, k, acc⟩ ⟨hi, hk, hn, hg⟩
  simp only at hi hk hn hg
  have wi : IntKind.i64.wrap ((i : Int) + 1) = ((i + 1 : Nat) : Int) := wrap_succ (by omega)
  have wk : IntKind.i64.wrap ((k : Int) + 1) = ((k + 1 : Nat) : Int) := wrap_succ (by omega)
  have hc : (acc.length + 1) * 40 ≤ 35184372088832 := cap_rs (by omega) (by decide)
  have stepA : ∀ (h : i < a.length), (acc ++ [a[i]]) ++ mrgS (lessR l) (a.drop (i + 1)) (b.drop k) = F → ∀ st : St, keepE st.env [0, 1, 2, 7, 8, 9] = [(0, .sl (l.map eDc) 0), (1, .sl (a.map eRs) 0), (2, .sl (b.map eRs) 0), (7, .sl (acc.map eRs ++ [eRs a[i]]) 2), (8, .int .i64 (i + 1 : Nat)), (9, .int .i64 (k : Nat))] → True := fun _ _ _ _ => trivial
  by_cases h1 : i < a.length
  · have ga := get_map eRs h1
    have da := cons_of_get h1
    by_cases h2 : k < b.length
    · have gb := get_map eRs h2
      have db := cons_of_get h2
      rw [da, db, mrg_cons] at hg
      simp only [go_sem, lt_t h1, lt_t h2, eq_f h1, ga, gb, eRs_box]
      refine callD_pure (c_R40_Less l hl b[k] a[i]) (by simp only [go_sem]) (by simp only [go_sem]) ?_
      cases hlt : lessR l b[k] a[i] with
      | true =>
        rw [if_pos hlt, ← da] at hg
        simp only [go_sem, ga, gb, eRs_box, hc, hn, wk]
        rw [← hn]
        simp only [go_sem, ga, gb, eRs_box, hc, wk]
        refine ⟨(i, k + 1, acc ++ [b[k]]), ⟨hi, by simp only; omega, by simp only [List.length_append, List.length_singleton]; omega, by simp only [List.append_assoc]; exact hg⟩, by simp only; omega, ?_, ?_, rfl, rfl, rfl⟩
        · simp only [go_sem, List.map_append, wk]
        · simp only [hn]; rfl
      | false =>
        rw [if_neg (by rw [hlt]; decide), ← db] at hg
        simp only [go_sem, ga, gb, eRs_box]
        rw [← hn]
        simp only [go_sem, ga, gb, eRs_box, hc, wi]
        refine ⟨(i + 1, k, acc ++ [a[i]]), ⟨by simp only; omega, hk, by simp only [List.length_append, List.length_singleton]; omega, by simp only [List.append_assoc]; exact hg⟩, by simp only; omega, ?_, ?_, rfl, rfl, rfl⟩
        · simp only [go_sem, List.map_append, wi]
        · simp only [hn, show i + 1 + k = i + k + 1 by omega]; rfl
    · have hkb : b.drop k = [] := List.drop_eq_nil_of_le (by omega)
      rw [hkb, mrg_nil_r, da] at hg
      simp only [go_sem, lt_t h1, lt_f h2, eq_f h1, ga, eRs_box]
      rw [← hn]
      simp only [go_sem, ga, eRs_box, hc, wi]
      refine ⟨(i + 1, k, acc ++ [a[i]]), ⟨by simp only; omega, hk, by simp only [List.length_append, List.length_singleton]; omega, by simp only [List.append_assoc, hkb, mrg_nil_r]; exact hg⟩, by simp only; omega, ?_, ?_, rfl, rfl, rfl⟩
      · simp only [go_sem, List.map_append, wi]
      · simp only [hn, show i + 1 + k = i + k + 1 by omega]; rfl
  · have hia : i = a.length := by omega
    have had : a.drop i = [] := List.drop_eq_nil_of_le (by omega)
    by_cases h2 : k < b.length
    · have gb := get_map eRs h2
      have db := cons_of_get h2
      rw [had, mrg_nil_l, db] at hg
      simp only [go_sem, lt_f h1, lt_t h2, eq_t hia, gb, eRs_box]
      rw [← hn]
      simp only [go_sem, gb, eRs_box, hc, wk]
      refine ⟨(i, k + 1, acc ++ [b[k]]), ⟨hi, by simp only; omega, by simp only [List.length_append, List.length_singleton]; omega, by simp only [List.append_assoc, had, mrg_nil_l]; exact hg⟩, by simp only; omega, ?_, ?_, rfl, rfl, rfl⟩
      · simp only [go_sem, List.map_append, wk]
      · simp only [hn]; rfl
    · have hkb : b.drop k = [] := List.drop_eq_nil_of_le (by omega)
      rw [had, hkb, mrg_nil_l, List.append_nil] at hg
      subst hg
      simp only [go_sem, lt_f h1, lt_f h2]
      simp only [go_sem, hres, hfr]
theorem c_RSortR (l : List Dc) (hl : l.length ≤ maxLen) (r : List Rs) (hr : r.length ≤ 1000000) :
    PureC PR n_R40_Sort [.sl (l.map eDc) 0, .sl (r.map eRs) 0] (.sl ((insS (lessR l) [] r).map eRs) 0) := by
  refine pure_of_wp m_R40_Sort rfl (by simp [argOk_sl]) ?_
  unfold FnW
  have hv : v_R40_Sort.body = v_R40_Sort.body := rfl
  conv at hv => rhs; unfold v_R40_Sort
  rw [hv]
  clear hv
  have hres : v_R40_Sort.results = [(4, none)] := rfl
  have hfr : v_R40_Sort.fresh = none := rfl
  generalize hF : insS (lessR l) [] r = F
  simp only [go_sem]
  refine v_for (α := Nat × List Rs) (base := 0) (marks := []) (pu := true) (good := fun y => y.1 ≤ r.length ∧ y.2.length = y.1 ∧ insS (lessR l) y.2 (r.drop y.1) = F) (m := fun y => r.length - y.1)
    (E := fun y => [(0, .sl (l.map eDc) 0), (1, .sl (r.map eRs) 0), (5, if y.1 = 0 then .nils else .sl (y.2.map eRs) 0), (6, .int .i64 (y.1 : Nat))]) (O := fun _ => [])
    (by rintro ⟨i, y⟩ _; by_cases h : i = 0 <;> simp [go_sem, Obj.idsB, h]) rfl ?_ (0, []) _ ⟨Nat.zero_le _, rfl, hF⟩ rfl rfl rfl rfl rfl
  rintro ⟨i, acc⟩ ⟨hi, hn, hg⟩
  simp only at hi hn hg
  have wi : IntKind.i64.wrap ((i : Int) + 1) = ((i + 1 : Nat) : Int) := wrap_succ (by omega)
  have hne : (i + 1 = 0) = False := eq_false (by omega)
  by_cases h1 : i < r.length
  · have ga := get_map eRs h1
    have da := cons_of_get h1
    rw [da, insS] at hg
    have q := c_RMerge l hl acc [r[i]] (by omega) (by simp)
    have hml : (mrgS (lessR l) acc [r[i]]).length = i + 1 := by rw [mrg_len _ _ _ (Nat.le_refl _), hn]; rfl
    cases i with
    | zero =>
      have : acc = [] := List.eq_nil_of_length_eq_zero hn
      subst this
      have h0 : decide ((0 : Int) < (r.length : Int)) = true := decide_eq_true (by omega)
      simp only [List.map_nil, List.map_cons] at q
      simp only [go_sem, h0, ga, eRs_box]
      refine callW_pure q (by simp only [go_sem]) (by simp only [go_sem]) ?_
      simp only [go_sem]
      exact ⟨(0 + 1, mrgS (lessR l) [] [r[0]]), ⟨by simp only; omega, hml, hg⟩, by simp only; omega, by simp only [go_sem, wi, hne], rfl, rfl, rfl, rfl⟩
    | succ i =>
      have hz : (i + 1 = 0) = False := eq_false (by omega)
      simp only [go_sem, lt_t h1, ga, eRs_box, hz]
      refine callW_pure q (by simp only [go_sem]) (by simp only [go_sem]) ?_
      simp only [go_sem]
      exact ⟨(i + 1 + 1, mrgS (lessR l) acc [r[i + 1]]), ⟨by simp only; omega, hml, hg⟩, by simp only; omega, by simp only [go_sem, wi, hne], rfl, rfl, rfl, rfl⟩
  · have hrd : r.drop i = [] := List.drop_eq_nil_of_le (by omega)
    rw [hrd, insS] at hg
    subst hg
    cases i with
    | zero =>
      have : acc = [] := List.eq_nil_of_length_eq_zero hn
      subst this
      have h0 : decide ((0 : Int) < (r.length : Int)) = false := decide_eq_false (by omega)
      simp only [go_sem, h0]
      simp only [go_sem, hres, hfr]
    | succ i =>
      have hz : (i + 1 = 0) = False := eq_false (by omega)
      simp only [go_sem, lt_f h1, hz]
      simp only [go_sem, hres, hfr]
end Go.Proofs
