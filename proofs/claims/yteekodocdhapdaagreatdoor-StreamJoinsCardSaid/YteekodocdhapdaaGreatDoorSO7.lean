/- V, proofs: slices.Clone on results, score.Sort. Conditions: the lists' lengths. -/
import Derived.Test.YteekodocdhapdaaGreatDoorSO6
import Derived.Test.YteekodocdhapdaaGreatDoorSE3
set_option linter.unusedVariables false
set_option linter.unusedSimpArgs false
namespace Go.Proofs
open Go.V Go.RowKit

theorem rs_flat (l : List Rs) : (l.map eRs).flatMap VV.cells = l.flatMap rc := by
  induction l with
  | nil => rfl
  | cons b r ih => simp only [List.map_cons, List.flatMap_cons, ih, eRs, VV.cells]
theorem hd_rs (l : List Rs) : hdSz (l.map eRs) 3 = true := hd_maps' (f := eRs) (n := 3) (fun _ => rfl) l
theorem rs_canon (l : List Rs) : (l.map eRs).all VV.canon = true := by
  rw [List.all_eq_true]
  intro v hv
  obtain ⟨x, _, rfl⟩ := List.mem_map.1 hv
  rfl
theorem cap_rs {n k : Nat} (h : n ≤ 2000000000) (hk : k ≤ 1000) : n * k ≤ 35184372088832 := Nat.le_trans (Nat.mul_le_mul h hk) (by decide)
theorem frz_rs (l : List Rs) : frzEs 3 0 l.length (l.flatMap rc) = l.map eRs := by
  simp only [frzEs, if_neg (show ¬ (3 = 0) by omega)]
  apply List.ext_getElem
  · simp
  · intro i h1 h2
    have hi : i < l.length := by simpa using h2
    simp only [List.getElem_map, List.getElem_range, Nat.zero_add]
    rw [rc_at l i hi, getElem!_pos l i hi]
    rfl
theorem c_Clone_nil : ImpC PR n_slices_Clone_Result_Result [.sl [] 0] [] (fun r ob' => r = .sl [] 0 ∧ ob' = []) := by
  refine imp_of_wp m_slices_Clone_Result_Result rfl ?_
  unfold FnI
  have hv : v_slices_Clone_Result_Result.body = v_slices_Clone_Result_Result.body := rfl
  conv at hv => rhs; unfold v_slices_Clone_Result_Result
  rw [hv]
  clear hv
  simp only [go_sem]
  intro b
  have he : emptyO [Obj.tok 0 3] (VV.sl [] 2) = true := rfl
  cases b
  · simp only [go_sem, he, List.isEmpty_nil]
    refine endI_of 0 (.sl [] 0) (Nat.le_refl _) (Nat.zero_le _) rfl ?_ rfl ⟨rfl, rfl⟩
    rfl
  · simp only [go_sem]
    refine endI_of 0 (.sl [] 0) (Nat.le_refl _) (Nat.zero_le _) rfl ?_ rfl ⟨rfl, rfl⟩
    rfl
theorem c_Clone_rs (x : Rs) (r : List Rs) (hl : r.length < 1000000) : ImpC PR n_slices_Clone_Result_Result [.sl ((x :: r).map eRs) 0] [] (fun v o => v = .row 1 0 (r.length + 1) ∧ o = [.tok 0 3, .cells ((x :: r).flatMap rc)]) := by
  refine imp_of_wp m_slices_Clone_Result_Result rfl ?_
  unfold FnI
  have hv : v_slices_Clone_Result_Result.body = v_slices_Clone_Result_Result.body := rfl
  conv at hv => rhs; unfold v_slices_Clone_Result_Result
  rw [hv]
  clear hv
  have he : emptyO [Obj.tok 0 3] (VV.sl [] 2) = true := rfl
  have hh := hd_rs (x :: r)
  have hf := rs_flat (x :: r)
  have hc : (r.length + 1) * 40 ≤ 35184372088832 := cap_rs (by omega) (by decide)
  simp only [List.map_cons] at hh hf
  have hem : (eRs x :: r.map eRs).isEmpty = false := rfl
  simp only [go_sem, he, hem, hh, hc, hf]
  refine endI_of 2 (.row 1 0 (r.length + 1)) (Nat.zero_le _) (Nat.le_refl _) ?_ rfl (by simp [VV.ids]) ⟨rfl, rfl⟩
  simp only [List.take_succ_cons, List.take_zero, List.all_cons, List.all_nil, Bool.and_true, Obj.idsB, rc_ids]
theorem fin_bx {vf : VF} (hv : vf.results = []) {env : List (Nat × VV)} {bx : List VV} (hb : idsL 1 bx = true) :
    EndI vf 1 (fun r ob' => r = .tup [] ∧ ob' = [.cells bx]) .nrm ⟨⟨env, [.cells bx]⟩, 1, [], false⟩ := by
  refine endI_nrm 1 (.tup []) (Nat.le_refl _) (Nat.le_refl _) ?_ (by rw [hv]; rfl) rfl ⟨rfl, rfl⟩
  simp only [List.take_succ_cons, List.take_zero, List.all_cons, List.all_nil, Bool.and_true, Obj.idsB, hb]
theorem c_ins_nil {c : Nat} {bx : List VV} (hb : idsL 1 bx = true) : ImpC PR n_slices_insertionSortCmpFunc_Result [.sl [] 0, .int .i64 0, .int .i64 0, .fn c [.ptr 0 0]] [.cells bx] (fun r ob' => r = .tup [] ∧ ob' = [.cells bx]) := by
  refine imp_of_wp m_slices_insertionSortCmpFunc_Result rfl ?_
  unfold FnI
  have hv : v_slices_insertionSortCmpFunc_Result.body = v_slices_insertionSortCmpFunc_Result.body := rfl
  conv at hv => rhs; unfold v_slices_insertionSortCmpFunc_Result
  rw [hv]
  clear hv
  simp only [go_sem]
  refine v_for (α := Unit) (base := 1) (marks := []) (pu := false) (good := fun _ => True) (m := fun _ => 0)
    (E := fun _ => [(0, .sl [] 0), (1, .int .i64 0), (2, .int .i64 0), (3, .fn c [.ptr 0 0]), (8, .int .i64 1)]) (O := fun _ => [.cells bx])
    (by intro y _; simp [go_sem, Obj.idsB, hb]) rfl ?_ () _ trivial rfl rfl rfl rfl rfl
  intro _ _
  have d : decide ((1 : Int) < 0) = false := by decide
  simp only [go_sem, d]
  exact fin_bx rfl hb
theorem c_stable_nil {c : Nat} {bx : List VV} (hb : idsL 1 bx = true) : ImpC PR n_slices_stableCmpFunc_Result [.sl [] 0, .int .i64 0, .fn c [.ptr 0 0]] [.cells bx] (fun r ob' => r = .tup [] ∧ ob' = [.cells bx]) := by
  refine imp_of_wp m_slices_stableCmpFunc_Result rfl ?_
  unfold FnI
  have hv : v_slices_stableCmpFunc_Result.body = v_slices_stableCmpFunc_Result.body := rfl
  conv at hv => rhs; unfold v_slices_stableCmpFunc_Result
  rw [hv]
  clear hv
  have d1 : decide ((20 : Int) ≤ 0) = false := by decide
  have d2 : decide ((20 : Int) < 0) = false := by decide
  simp only [go_sem]
  refine v_for (α := Unit) (base := 1) (marks := []) (pu := false) (good := fun _ => True) (m := fun _ => 0)
    (E := fun _ => [(0, .sl [] 0), (1, .int .i64 0), (2, .fn c [.ptr 0 0]), (6, .int .i64 20), (7, .int .i64 0), (8, .int .i64 20)]) (O := fun _ => [.cells bx])
    (by intro y _; simp [go_sem, Obj.idsB, hb]) rfl ?_ () _ trivial rfl rfl rfl rfl rfl
  intro _ _
  simp only [go_sem, d1]
  refine callW_det (c_ins_nil (c := c) hb) (by simp only [go_sem]) (by simp only [go_sem]) (.inl rfl) ?_
  simp only [go_sem]
  refine v_for (α := Unit) (base := 1) (marks := []) (pu := false) (good := fun _ => True) (m := fun _ => 0)
    (E := fun _ => [(0, .sl [] 0), (1, .int .i64 0), (2, .fn c [.ptr 0 0]), (6, .int .i64 20)]) (O := fun _ => [.cells bx])
    (by intro y _; simp [go_sem, Obj.idsB, hb]) rfl ?_ () _ trivial rfl rfl rfl rfl rfl
  intro _ _
  simp only [go_sem, d2]
  exact fin_bx rfl hb
theorem c_ssf_nil {c : Nat} {bx : List VV} (hb : idsL 1 bx = true) : ImpC PR n_slices_SortStableFunc_Result_Result [.sl [] 0, .fn c [.ptr 0 0]] [.cells bx] (fun r ob' => r = .tup [] ∧ ob' = [.cells bx]) := by
  refine imp_of_wp m_slices_SortStableFunc_Result_Result rfl ?_
  unfold FnI
  have hv : v_slices_SortStableFunc_Result_Result.body = v_slices_SortStableFunc_Result_Result.body := rfl
  conv at hv => rhs; unfold v_slices_SortStableFunc_Result_Result
  rw [hv]
  clear hv
  simp only [go_sem]
  refine callW_det (c_stable_nil (c := c) hb) (by simp only [go_sem]) (by simp only [go_sem]) (.inl rfl) ?_
  simp only [go_sem]
  exact fin_bx rfl hb
theorem ltC_less (l : List Dc) : ltC (cmpR l) = lessR l := by
  funext a b
  exact cmpR_less l a b
theorem c_Sort (l : List Dc) (hl : l.length ≤ maxLen) (r : List Rs) (hr : r.length ≤ 1000000) : PureC PR n_score_Sort [.sl (l.map eDc) 0, .sl (r.map eRs) 0] (.sl ((stS (lessR l) r).map eRs) 0) := by
  refine pure_of_wp m_score_Sort rfl (by simp [argOk_sl]) ?_
  unfold FnW
  have hv : v_score_Sort.body = v_score_Sort.body := rfl
  conv at hv => rhs; unfold v_score_Sort
  rw [hv]
  clear hv
  have hres : v_score_Sort.results = [(4, none)] := rfl
  have hfr : v_score_Sort.fresh = none := rfl
  have hbx : ∀ n, idsL n [VV.sl (l.map eDc) 0] = true := fun n => by simp [idsL, VV.ids]
  cases r with
  | nil =>
    simp only [go_sem]
    refine callW_det c_Clone_nil (by simp only [go_sem]) (by simp only [go_sem]) (.inr rfl) ?_
    simp only [go_sem]
    refine callW_det (c_compare l (ob := []) rfl) (by simp only [go_sem]) (by simp only [go_sem]) (.inr rfl) ?_
    simp only [go_sem]
    refine callW_det (c_ssf_nil (c := n_score_compare_1) (hbx 1)) (by simp only [go_sem]) (by simp only [go_sem]) (.inl rfl) ?_
    simp only [go_sem, hres, hfr]
    rfl
  | cons x r =>
    have hc : CmpOk n_score_compare_1 [.sl (l.map eDc) 0] (cmpR l) := ⟨hbx 3, fun D a b => c_cmp_row hl a b (X := D.flatMap rc) (rc_ids 3 D)⟩
    have hS : (stS (lessR l) (x :: r)).length = r.length + 1 := by rw [stS_len]; rfl
    have q := c_ssf hc (x :: r) hr
    rw [ltC_less] at q
    simp only [go_sem]
    refine callW_det (c_Clone_rs x r (by simp at hr; omega)) (by simp only [go_sem]) (by simp only [go_sem]) (.inr rfl) ?_
    simp only [go_sem]
    refine callW_det (c_compare l (ob := [.tok 0 3, .cells ((x :: r).flatMap rc)]) (by simp only [List.all_cons, List.all_nil, Bool.and_true, Obj.idsB, rc_ids])) (by simp only [go_sem]) (by simp only [go_sem]) (.inr rfl) ?_
    simp only [go_sem]
    refine callW_det q (by simp only [go_sem]) (by simp only [go_sem]) (.inl rfl) ?_
    simp only [go_sem]
    generalize hD : stS (lessR l) (x :: r) = D at *
    have hfz := frz_rs D
    rw [hS] at hfz
    refine frz_row rfl (by rw [rc_flat, hS]; simp) (by rw [hfz]; exact rs_canon D) ?_
    rw [hfz]
    simp only [go_sem, hres, hfr]
end Go.Proofs
