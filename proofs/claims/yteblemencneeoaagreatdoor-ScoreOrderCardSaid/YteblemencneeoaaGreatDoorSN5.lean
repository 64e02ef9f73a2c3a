/- The law ScoreOrder, on data. Conditions: the documents' number, the spans' numbers. -/
import Derived.Test.YteblemencneeoaaGreatDoorSN7
set_option linter.unusedVariables false
set_option linter.unusedSimpArgs false
namespace Go.Proofs
open Go.V Go.RowKit

theorem lt_lit {i k : Nat} (h : i < k) : decide ((i : Int) < ((k : Nat) : Int)) = true := decide_eq_true (by omega)
theorem cnt_sort (l : List Dc) (r : List Rs) (x : Rs) : ((stS (lessR l) r).filter (fun y => decide (y = x))).length = (r.filter (fun y => decide (y = x))).length :=
  count_stb (stS_ok (lessR_wk l) r).2 (x := x) (p := fun y => decide (y = x)) fun y h => by
    have e : y = x := of_decide_eq_true h
    subst e
    unfold eqw
    rw [(lessR_wk l).irr y]
    rfl
theorem srtR_at {l : List Dc} {s : List Rs} (h : srt (lessR l) s) {i k : Nat} (hi : i < s.length) (hk : k < i) : lessR l s[i] (s[k]'(by omega)) = false := List.pairwise_iff_getElem.1 h k i (by omega) hi hk
theorem law_Order1 (alive : PureC PR n_L40_alive [] (.bool true)) (l : List Dc) (hl : l.length ≤ maxLen) (r : List Rs) (sr : spOk r) (h1 : ¬ l.length ≤ 60) :
    PureC PR n_L40_ScoreOrder [.sl (l.map eDc) 0, .sl (r.map eRs) 0] (.bool true) := by
  have d1 : decide ((l.length : Int) > 60) = true := decide_eq_true (by omega)
  refine pure_of_wp m_L40_ScoreOrder rfl (by simp [argOk_sl]) ?_
  unfold FnW
  have hv : v_L40_ScoreOrder.body = v_L40_ScoreOrder.body := rfl
  conv at hv => rhs; unfold v_L40_ScoreOrder
  rw [hv]
  clear hv
  have hres : v_L40_ScoreOrder.results = [(4, none)] := rfl
  have hfr : v_L40_ScoreOrder.fresh = none := rfl
  simp only [go_sem]
  refine callW_pure alive (by simp only [go_sem]) (by simp only [go_sem]) ?_
  simp only [go_sem, Bool.not_true, d1]
  simp only [go_sem, hres, hfr]
theorem law_Order2 (alive : PureC PR n_L40_alive [] (.bool true)) (l : List Dc) (hl : l.length ≤ maxLen) (r : List Rs) (sr : spOk r) (h1 : l.length ≤ 60) (h2 : ¬ r.length ≤ 60) :
    PureC PR n_L40_ScoreOrder [.sl (l.map eDc) 0, .sl (r.map eRs) 0] (.bool true) := by
  have d1 : decide ((l.length : Int) > 60) = false := decide_eq_false (by omega)
  have d2 : decide ((r.length : Int) ≤ 60) = false := decide_eq_false (by omega)
  refine pure_of_wp m_L40_ScoreOrder rfl (by simp [argOk_sl]) ?_
  unfold FnW
  have hv : v_L40_ScoreOrder.body = v_L40_ScoreOrder.body := rfl
  conv at hv => rhs; unfold v_L40_ScoreOrder
  rw [hv]
  clear hv
  have hres : v_L40_ScoreOrder.results = [(4, none)] := rfl
  have hfr : v_L40_ScoreOrder.fresh = none := rfl
  simp only [go_sem]
  refine callW_pure alive (by simp only [go_sem]) (by simp only [go_sem]) ?_
  simp only [go_sem, Bool.not_true, d1]
  refine callW_pure (c_small r) (by simp only [go_sem]) (by simp only [go_sem]) ?_
  simp only [go_sem, d2, Bool.not_false]
  simp only [go_sem, hres, hfr]
theorem law_Order3 (alive : PureC PR n_L40_alive [] (.bool true)) (l : List Dc) (hl : l.length ≤ maxLen) (r : List Rs) (sr : spOk r) (h1 : l.length ≤ 60) (h2 : r.length ≤ 60) :
    PureC PR n_L40_ScoreOrder [.sl (l.map eDc) 0, .sl (r.map eRs) 0] (.bool true) := by
  have d1 : decide ((l.length : Int) > 60) = false := decide_eq_false (by omega)
  have d2 : decide ((r.length : Int) ≤ 60) = true := decide_eq_true (by omega)
  have W := lessR_wk l
  have hS := c_Sort l hl r (by omega)
  have kS := stS_len (lt := lessR l) r
  have sS : spOk (stS (lessR l) r) := sp_sort sr
  have cS := cnt_sort l r
  have oS := (stS_ok W r).1
  have aS := c_Sort l hl (stS (lessR l) r) (by omega)
  rw [sorts_again W] at aS
  generalize stS (lessR l) r = S at *
  have zS := c_same_self S (by omega) sS
  refine pure_of_wp m_L40_ScoreOrder rfl (by simp [argOk_sl]) ?_
  unfold FnW
  have hv : v_L40_ScoreOrder.body = v_L40_ScoreOrder.body := rfl
  conv at hv => rhs; unfold v_L40_ScoreOrder
  rw [hv]
  clear hv
  have hres : v_L40_ScoreOrder.results = [(4, none)] := rfl
  have hfr : v_L40_ScoreOrder.fresh = none := rfl
  simp only [go_sem]
  refine callW_pure alive (by simp only [go_sem]) (by simp only [go_sem]) ?_
  simp only [go_sem, Bool.not_true, d1]
  refine callW_pure (c_small r) (by simp only [go_sem]) (by simp only [go_sem]) ?_
  simp only [go_sem, d2, Bool.not_true]
  refine v_for (α := Nat) (base := 0) (marks := []) (pu := true) (good := fun i => i ≤ r.length) (m := fun i => r.length - i)
    (E := fun i => [(0, .sl (l.map eDc) 0), (1, .sl (r.map eRs) 0), (5, .int .i64 (i : Nat))]) (O := fun _ => [])
    (by intro i _; simp [go_sem, Obj.idsB]) rfl ?_ 0 _ (Nat.zero_le _) rfl rfl rfl rfl rfl
  intro i hi
  by_cases hir : i < r.length
  · by_cases hi3 : i < 3
    · have hi3' : decide ((i : Int) < 3) = true := decide_eq_true (by omega)
      have ga := get_map eRs hir
      have wi : IntKind.i64.wrap ((i : Int) + 1) = ((i + 1 : Nat) : Int) := wrap_succ (by omega)
      simp only [go_sem, lt_t hir, hi3']
      refine v_for (α := Nat) (base := 0) (marks := []) (pu := true) (good := fun j => j ≤ r.length) (m := fun j => r.length - j)
        (E := fun j => [(0, .sl (l.map eDc) 0), (1, .sl (r.map eRs) 0), (5, .int .i64 (i : Nat)), (6, .int .i64 (j : Nat))]) (O := fun _ => [])
        (by intro i _; simp [go_sem, Obj.idsB]) rfl ?_ 0 _ (Nat.zero_le _) rfl rfl rfl rfl rfl
      intro j hj
      by_cases hjr : j < r.length
      · by_cases hj8 : j < 8
        · have hj8' : decide ((j : Int) < 8) = true := decide_eq_true (by omega)
          have gb := get_map eRs hjr
          have wj : IntKind.i64.wrap ((j : Int) + 1) = ((j + 1 : Nat) : Int) := wrap_succ (by omega)
          have qij := c_Less l hl r[i] r[j]
          have qji := c_Less l hl r[j] r[i]
          cases e1 : lessR l r[i] r[j] with
          | true =>
            have e2 : lessR l r[j] r[i] = false := W.asym _ _ e1
            rw [e1] at qij
            rw [e2] at qji
            simp only [go_sem, lt_t hjr, hj8', ga, gb, eRs_box]
            refine callD_pure qij (by simp only [go_sem]) (by simp only [go_sem]) ?_
            simp only [go_sem, ga, gb, eRs_box]
            refine callD_pure qji (by simp only [go_sem]) (by simp only [go_sem]) ?_
            simp only [go_sem]
            refine v_for (α := Nat) (base := 0) (marks := []) (pu := true) (good := fun k => k ≤ r.length) (m := fun k => r.length - k)
              (E := fun k => [(0, .sl (l.map eDc) 0), (1, .sl (r.map eRs) 0), (5, .int .i64 (i : Nat)), (6, .int .i64 (j : Nat)), (7, .int .i64 (k : Nat))]) (O := fun _ => [])
              (by intro i _; simp [go_sem, Obj.idsB]) rfl ?_ 0 _ (Nat.zero_le _) rfl rfl rfl rfl rfl
            intro k hk
            by_cases hkr : k < r.length
            · by_cases hk8 : k < 8
              · have hk8' : decide ((k : Int) < 8) = true := decide_eq_true (by omega)
                have gc := get_map eRs hkr
                have wk : IntKind.i64.wrap ((k : Int) + 1) = ((k + 1 : Nat) : Int) := wrap_succ (by omega)
                have qjk := c_Less l hl r[j] r[k]
                have qik := c_Less l hl r[i] r[k]
                cases e3 : lessR l r[j] r[k] with
                | true =>
                  have e4 : lessR l r[i] r[k] = true := W.tr e1 e3
                  rw [e3] at qjk
                  rw [e4] at qik
                  simp only [go_sem, lt_t hkr, hk8', ga, gb, gc, eRs_box]
                  refine callD_pure qij (by simp only [go_sem]) (by simp only [go_sem]) ?_
                  simp only [go_sem, ga, gb, gc, eRs_box]
                  refine callD_pure qjk (by simp only [go_sem]) (by simp only [go_sem]) ?_
                  simp only [go_sem, ga, gb, gc, eRs_box]
                  refine callD_pure qik (by simp only [go_sem]) (by simp only [go_sem]) ?_
                  simp only [go_sem, Bool.not_true]
                  exact ⟨k + 1, by omega, by simp only; omega, by simp only [go_sem, wk], rfl, rfl, rfl, rfl⟩
                | false =>
                  rw [e3] at qjk
                  simp only [go_sem, lt_t hkr, hk8', ga, gb, gc, eRs_box]
                  refine callD_pure qij (by simp only [go_sem]) (by simp only [go_sem]) ?_
                  simp only [go_sem, ga, gb, gc, eRs_box]
                  refine callD_pure qjk (by simp only [go_sem]) (by simp only [go_sem]) ?_
                  simp only [go_sem]
                  exact ⟨k + 1, by omega, by simp only; omega, by simp only [go_sem, wk], rfl, rfl, rfl, rfl⟩
              · have hk8' : decide ((k : Int) < 8) = false := decide_eq_false (by omega)
                simp only [go_sem, lt_t hkr, hk8']
                exact ⟨j + 1, by omega, by simp only; omega, by simp only [go_sem, wj], rfl, rfl, rfl, rfl⟩
            · simp only [go_sem, lt_f hkr]
              exact ⟨j + 1, by omega, by simp only; omega, by simp only [go_sem, wj], rfl, rfl, rfl, rfl⟩
          | false =>
            rw [e1] at qij
            simp only [go_sem, lt_t hjr, hj8', ga, gb, eRs_box]
            refine callD_pure qij (by simp only [go_sem]) (by simp only [go_sem]) ?_
            simp only [go_sem]
            refine v_for (α := Nat) (base := 0) (marks := []) (pu := true) (good := fun k => k ≤ r.length) (m := fun k => r.length - k)
              (E := fun k => [(0, .sl (l.map eDc) 0), (1, .sl (r.map eRs) 0), (5, .int .i64 (i : Nat)), (6, .int .i64 (j : Nat)), (7, .int .i64 (k : Nat))]) (O := fun _ => [])
              (by intro i _; simp [go_sem, Obj.idsB]) rfl ?_ 0 _ (Nat.zero_le _) rfl rfl rfl rfl rfl
            intro k hk
            by_cases hkr : k < r.length
            · by_cases hk8 : k < 8
              · have hk8' : decide ((k : Int) < 8) = true := decide_eq_true (by omega)
                have gc := get_map eRs hkr
                have wk : IntKind.i64.wrap ((k : Int) + 1) = ((k + 1 : Nat) : Int) := wrap_succ (by omega)
                simp only [go_sem, lt_t hkr, hk8', ga, gb, gc, eRs_box]
                refine callD_pure qij (by simp only [go_sem]) (by simp only [go_sem]) ?_
                simp only [go_sem]
                exact ⟨k + 1, by omega, by simp only; omega, by simp only [go_sem, wk], rfl, rfl, rfl, rfl⟩
              · have hk8' : decide ((k : Int) < 8) = false := decide_eq_false (by omega)
                simp only [go_sem, lt_t hkr, hk8']
                exact ⟨j + 1, by omega, by simp only; omega, by simp only [go_sem, wj], rfl, rfl, rfl, rfl⟩
            · simp only [go_sem, lt_f hkr]
              exact ⟨j + 1, by omega, by simp only; omega, by simp only [go_sem, wj], rfl, rfl, rfl, rfl⟩
        · have hj8' : decide ((j : Int) < 8) = false := decide_eq_false (by omega)
          simp only [go_sem, lt_t hjr, hj8']
          exact ⟨i + 1, by omega, by simp only; omega, by simp only [go_sem, wi], rfl, rfl, rfl, rfl⟩
      · simp only [go_sem, lt_f hjr]
        exact ⟨i + 1, by omega, by simp only; omega, by simp only [go_sem, wi], rfl, rfl, rfl, rfl⟩
    · have hi3' : decide ((i : Int) < 3) = false := decide_eq_false (by omega)
      simp only [go_sem, lt_t hir, hi3']
      refine callW_pure hS (by simp only [go_sem]) (by simp only [go_sem]) ?_
      simp only [go_sem, ne_f (show ((S.length : Nat) : Int) = (r.length : Nat) by omega)]
      refine v_for (α := Nat) (base := 0) (marks := []) (pu := true) (good := fun i => i ≤ r.length) (m := fun i => r.length - i)
        (E := fun i => [(0, .sl (l.map eDc) 0), (1, .sl (r.map eRs) 0), (8, .sl (S.map eRs) 0), (9, .int .i64 (i : Nat))]) (O := fun _ => [])
        (by intro i _; simp [go_sem, Obj.idsB]) rfl ?_ 0 _ (Nat.zero_le _) rfl rfl rfl rfl rfl
      intro i hi
      by_cases hir : i < r.length
      · have hiS : i < S.length := by omega
        have ga := get_map eRs hir
        have gs := get_map eRs hiS
        have wi : IntKind.i64.wrap ((i : Int) + 1) = ((i + 1 : Nat) : Int) := wrap_succ (by omega)
        have c1 := c_count S r[i] (by omega) sS
        rw [cS] at c1
        have c2 := c_count r r[i] (by omega) sr
        simp only [go_sem, lt_t hir, ga, eRs_box]
        refine callD_pure c1 (by simp only [go_sem]) (by simp only [go_sem]) ?_
        simp only [go_sem, ga, eRs_box]
        refine callD_pure c2 (by simp only [go_sem]) (by simp only [go_sem]) ?_
        simp only [go_sem, bne_self_eq_false]
        refine v_for (α := Nat) (base := 0) (marks := []) (pu := true) (good := fun k => k ≤ i) (m := fun k => i - k)
          (E := fun k => [(0, .sl (l.map eDc) 0), (1, .sl (r.map eRs) 0), (8, .sl (S.map eRs) 0), (9, .int .i64 (i : Nat)), (10, .int .i64 (k : Nat))]) (O := fun _ => [])
          (by intro i _; simp [go_sem, Obj.idsB]) rfl ?_ 0 _ (Nat.zero_le _) rfl rfl rfl rfl rfl
        intro k hk
        by_cases hki : k < i
        · have hkS : k < S.length := by omega
          have gk := get_map eRs hkS
          have wk : IntKind.i64.wrap ((k : Int) + 1) = ((k + 1 : Nat) : Int) := wrap_succ (by omega)
          have qs := c_Less l hl S[i] S[k]
          rw [srtR_at oS hiS hki] at qs
          simp only [go_sem, lt_t hki, gs, gk, eRs_box]
          refine callD_pure qs (by simp only [go_sem]) (by simp only [go_sem]) ?_
          simp only [go_sem]
          exact ⟨k + 1, by omega, by simp only; omega, by simp only [go_sem, wk], rfl, rfl, rfl, rfl⟩
        · simp only [go_sem, lt_f hki]
          exact ⟨i + 1, by omega, by simp only; omega, by simp only [go_sem, wi], rfl, rfl, rfl, rfl⟩
      · simp only [go_sem, lt_f hir]
        refine callW_pure aS (by simp only [go_sem]) (by simp only [go_sem]) ?_
        simp only [go_sem]
        refine callW_pure zS (by simp only [go_sem]) (by simp only [go_sem]) ?_
        simp only [go_sem, hres, hfr]
  · simp only [go_sem, lt_f hir]
    refine callW_pure hS (by simp only [go_sem]) (by simp only [go_sem]) ?_
    simp only [go_sem, ne_f (show ((S.length : Nat) : Int) = (r.length : Nat) by omega)]
    refine v_for (α := Nat) (base := 0) (marks := []) (pu := true) (good := fun i => i ≤ r.length) (m := fun i => r.length - i)
      (E := fun i => [(0, .sl (l.map eDc) 0), (1, .sl (r.map eRs) 0), (8, .sl (S.map eRs) 0), (9, .int .i64 (i : Nat))]) (O := fun _ => [])
      (by intro i _; simp [go_sem, Obj.idsB]) rfl ?_ 0 _ (Nat.zero_le _) rfl rfl rfl rfl rfl
    intro i hi
    by_cases hir : i < r.length
    · have hiS : i < S.length := by omega
      have ga := get_map eRs hir
      have gs := get_map eRs hiS
      have wi : IntKind.i64.wrap ((i : Int) + 1) = ((i + 1 : Nat) : Int) := wrap_succ (by omega)
      have c1 := c_count S r[i] (by omega) sS
      rw [cS] at c1
      have c2 := c_count r r[i] (by omega) sr
      simp only [go_sem, lt_t hir, ga, eRs_box]
      refine callD_pure c1 (by simp only [go_sem]) (by simp only [go_sem]) ?_
      simp only [go_sem, ga, eRs_box]
      refine callD_pure c2 (by simp only [go_sem]) (by simp only [go_sem]) ?_
      simp only [go_sem, bne_self_eq_false]
      refine v_for (α := Nat) (base := 0) (marks := []) (pu := true) (good := fun k => k ≤ i) (m := fun k => i - k)
        (E := fun k => [(0, .sl (l.map eDc) 0), (1, .sl (r.map eRs) 0), (8, .sl (S.map eRs) 0), (9, .int .i64 (i : Nat)), (10, .int .i64 (k : Nat))]) (O := fun _ => [])
        (by intro i _; simp [go_sem, Obj.idsB]) rfl ?_ 0 _ (Nat.zero_le _) rfl rfl rfl rfl rfl
      intro k hk
      by_cases hki : k < i
      · have hkS : k < S.length := by omega
        have gk := get_map eRs hkS
        have wk : IntKind.i64.wrap ((k : Int) + 1) = ((k + 1 : Nat) : Int) := wrap_succ (by omega)
        have qs := c_Less l hl S[i] S[k]
        rw [srtR_at oS hiS hki] at qs
        simp only [go_sem, lt_t hki, gs, gk, eRs_box]
        refine callD_pure qs (by simp only [go_sem]) (by simp only [go_sem]) ?_
        simp only [go_sem]
        exact ⟨k + 1, by omega, by simp only; omega, by simp only [go_sem, wk], rfl, rfl, rfl, rfl⟩
      · simp only [go_sem, lt_f hki]
        exact ⟨i + 1, by omega, by simp only; omega, by simp only [go_sem, wi], rfl, rfl, rfl, rfl⟩
    · simp only [go_sem, lt_f hir]
      refine callW_pure aS (by simp only [go_sem]) (by simp only [go_sem]) ?_
      simp only [go_sem]
      refine callW_pure zS (by simp only [go_sem]) (by simp only [go_sem]) ?_
      simp only [go_sem, hres, hfr]
theorem law_Order (alive : PureC PR n_L40_alive [] (.bool true)) (l : List Dc) (hl : l.length ≤ maxLen) (r : List Rs) (sr : spOk r) :
    PureC PR n_L40_ScoreOrder [.sl (l.map eDc) 0, .sl (r.map eRs) 0] (.bool true) := by
  by_cases h1 : l.length ≤ 60
  · by_cases h2 : r.length ≤ 60
    · exact law_Order3 alive l hl r sr h1 h2
    · exact law_Order2 alive l hl r sr h1 h2
  · exact law_Order1 alive l hl r sr h1
end Go.Proofs
