/- V, proofs: score.Merge, the document's Merge and Sort. Conditions: the lists' lengths. -/
import Derived.Test.YteblemencneeoaaGreatDoorSO7
set_option linter.unusedVariables false
set_option linter.unusedSimpArgs false
namespace Go.Proofs
open Go.V Go.RowKit

theorem eRs_cells (r : Rs) : (eRs r).cells = [.int .i64 r.doc, .int .i64 r.sc, .sl (r.sp.map eSp) 0] := byRfl rfl
theorem eRs_strip (g : Rs) : (eRs g).strip = eRs g := byRfl rfl
theorem eRs_canon (g : Rs) : (eRs g).canon = true := byRfl rfl
theorem eRs_noTup (g : Rs) : (eRs g).noTup = true := byRfl rfl
theorem eRs_ids (g : Rs) (n : Nat) : (eRs g).ids n = true := by simp [eRs, rc, VV.ids, idsL]
theorem eRs_box (r : Rs) : VV.agg [.int .i64 r.doc, .int .i64 r.sc, .sl (r.sp.map eSp) 0] = eRs r := byRfl rfl
attribute [go_sem] eRs_cells eRs_strip eRs_canon eRs_noTup eRs_ids hd_rs
theorem gt0 {n : Nat} : decide (((n + 1 : Nat) : Int) > 0) = true := decide_eq_true (by omega)
theorem gt00 : decide (((0 : Nat) : Int) > 0) = false := by decide
theorem eq0n {n : Nat} : (((n + 1 : Nat) : Int) == 0) = false := by
  rw [beq_eq_false_iff_ne]; omega
theorem eq00 : (((0 : Nat) : Int) == 0) = true := rfl
theorem tk_map {α β : Type} {f : α → β} (l : List α) : (l.map f).take l.length = l.map f := List.take_of_length_le (by simp)
theorem z_lt {n : Nat} : (0 : Int) < ((n + 1 : Nat) : Int) := by omega

theorem c_Merge (l : List Dc) (hl : l.length ≤ maxLen) (a b : List Rs) (ha : a.length ≤ 1000000) (hb : b.length ≤ 1000000) :
    PureC PR n_score_Merge [.sl (l.map eDc) 0, .sl (a.map eRs) 0, .sl (b.map eRs) 0] (.sl ((mrgS (lessR l) a b).map eRs) 0) := by
  refine pure_of_wp m_score_Merge rfl (by simp [argOk_sl]) ?_
  unfold FnW
  have hv : v_score_Merge.body = v_score_Merge.body := rfl
  conv at hv => rhs; unfold v_score_Merge
  rw [hv]
  clear hv
  have hres : v_score_Merge.results = [(6, none)] := rfl
  have hfr : v_score_Merge.fresh = none := rfl
  generalize hF : mrgS (lessR l) a b = F
  simp only [go_sem]
  refine callW_det (c_compare l (ob := []) rfl) (by simp only [go_sem]) (by simp only [go_sem]) (.inr rfl) ?_
  simp only [go_sem]
  refine v_forN (α := List Rs × List Rs × List Rs) (base := 0) (marks := []) (pu := true) (good := fun y => y.1.length + y.2.1.length + y.2.2.length ≤ 2000000 ∧ y.1 ++ mrgS (lessR l) y.2.1 y.2.2 = F) (m := fun y => y.2.1.length + y.2.2.length)
    (E := fun y => [(1, .sl (y.2.1.map eRs) 0), (2, .sl (y.2.2.map eRs) 0), (7, .fn n_score_compare_1 [.ptr 0 0]), (8, .sl (y.1.map eRs) 3)]) (O := fun y => [.cells [.sl (l.map eDc) 0], .tok y.1.length 3])
    ?_ ([], a, b) _ ⟨by simp only [List.length_nil]; omega, hF⟩ rfl rfl rfl rfl rfl
  rintro ⟨acc, x, y⟩ ⟨hn, hg⟩
  simp only at hn hg
  cases x with
  | nil =>
    cases y with
    | nil =>
      rw [mrg_nil_l, List.append_nil] at hg
      subst hg
      simp only [go_sem, gt00]
      simp only [go_sem, hres, hfr]
    | cons y0 y =>
      rw [mrg_nil_l] at hg
      have hc : (acc.length + 1) * 40 ≤ 35184372088832 := cap_rs (by simp at hn; omega) (by decide)
      have b1 : boundV (y.length + 1) (.int .i64 1) = some 1 := bnd_lit rfl (by omega)
      simp only [go_sem, gt00, gt0, eq00, beq_self_eq_true, z_lt, eRs_box, hc, b1]
      refine ⟨(acc ++ [y0], [], y), ⟨by simp at hn ⊢; omega, by rw [mrg_nil_l, List.append_assoc]; exact hg⟩, by simp only [List.length_cons, List.length_nil]; omega, ?_, ?_, rfl, rfl, rfl⟩
      · simp only [go_sem, List.map_append, tk_map]
      · simp only [List.length_append]; rfl
  | cons x0 x =>
    cases y with
    | nil =>
      rw [mrg_nil_r] at hg
      have hc : (acc.length + 1) * 40 ≤ 35184372088832 := cap_rs (by simp at hn; omega) (by decide)
      have b1 : boundV (x.length + 1) (.int .i64 1) = some 1 := bnd_lit rfl (by omega)
      simp only [go_sem, gt00, gt0, eq0n, z_lt, eRs_box, hc, b1]
      refine ⟨(acc ++ [x0], x, []), ⟨by simp at hn ⊢; omega, by rw [mrg_nil_r, List.append_assoc]; exact hg⟩, by simp only [List.length_cons, List.length_nil]; omega, ?_, ?_, rfl, rfl, rfl⟩
      · simp only [go_sem, List.map_append, tk_map]
      · simp only [List.length_append]; rfl
    | cons y0 y =>
      rw [mrg_cons] at hg
      have hc : (acc.length + 1) * 40 ≤ 35184372088832 := cap_rs (by simp at hn; omega) (by decide)
      have b1 : boundV (x.length + 1) (.int .i64 1) = some 1 := bnd_lit rfl (by omega)
      have b2 : boundV (y.length + 1) (.int .i64 1) = some 1 := bnd_lit rfl (by omega)
      simp only [go_sem, gt0, eq0n, z_lt, eRs_box]
      refine callD_det (c_cmp_tok hl y0 x0 acc.length) (by simp only [go_sem]) (by simp only [go_sem]) rfl (fun h => by cases h) ?_
      have hcl := cmpR_less l y0 x0
      cases hlt : lessR l y0 x0 with
      | true =>
        rw [hlt] at hcl
        rw [if_pos hlt] at hg
        simp only [go_sem, hcl, gt0, eq0n, z_lt, eRs_box, hc, b2]
        refine ⟨(acc ++ [y0], x0 :: x, y), ⟨by simp at hn ⊢; omega, by rw [List.append_assoc]; exact hg⟩, by simp only [List.length_cons]; omega, ?_, ?_, rfl, rfl, rfl⟩
        · simp only [go_sem, List.map_append, tk_map]
        · simp only [List.length_append]; rfl
      | false =>
        rw [hlt] at hcl
        rw [if_neg (by rw [hlt]; decide)] at hg
        simp only [go_sem, hcl, gt0, eq0n, z_lt, eRs_box, hc, b1]
        refine ⟨(acc ++ [x0], x, y0 :: y), ⟨by simp at hn ⊢; omega, by rw [List.append_assoc]; exact hg⟩, by simp only [List.length_cons]; omega, ?_, ?_, rfl, rfl, rfl⟩
        · simp only [go_sem, List.map_append, tk_map]
        · simp only [List.length_append]; rfl
end Go.Proofs
