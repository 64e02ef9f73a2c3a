/- V, proofs: the examples of chapter 41 hold: the run of alive. Conditions: none. -/
import Derived.Test.YtglabjcjfjlkoaaGreatDoorEV6
import Derived.Test.YtglabjcjfjlkoaaGreatDoorSL4
set_option linter.unusedVariables false
set_option linter.unusedSimpArgs false
namespace Go.Proofs
open Go.V Go.RowKit

def wE : VV := .agg [.sl [] 0, .sl [] 0, .sl [] 0, .sl [] 0, .sl [] 0]
def qE : VV := .agg [.int .i64 6, .str [102, 111, 111], .bool true, .int .i64 0, .int .i64 0, .sl [] 0]
def spE1 (a b : Int) : VV := .agg [.int .i64 a, .int .i64 b]
theorem c_HoE1 : PureC PR n_filter_Holds [wE, qE, dE1] (.bool true) := runF_ok (n := 200) (tabE_ok noXq_ok) (isV_eq (by decide +kernel))
theorem c_HoE2 : PureC PR n_filter_Holds [wE, qE, dE2] (.bool true) := runF_ok (n := 200) (tabE_ok noXq_ok) (isV_eq (by decide +kernel))
theorem c_Sf1 : ImpC PR n_filter_Spans_1 [qE, .ptr 0 0, .ptr 2 0, .ptr 4 0, .ptr 3 0]
    [.cells wE.cells, .cells qE.cells, .cells dE1.cells, .cells [.nils], .cells [.fn n_filter_Spans_1 [.ptr 0 0, .ptr 2 0, .ptr 4 0, .ptr 3 0]]]
    (fun v o => v = .tup [] ∧ o = [.cells wE.cells, .cells qE.cells, .cells dE1.cells, .cells [.sl [.agg [.int .i64 0, .int .i64 3]] 8], .cells [.fn n_filter_Spans_1 [.ptr 0 0, .ptr 2 0, .ptr 4 0, .ptr 3 0]], .cells qE.cells, .tok 1 2]) :=
  impQ_run (tabE_ok noXq_ok) (n := 200) (by kernel_rfl)
theorem c_Sf2 : ImpC PR n_filter_Spans_1 [qE, .ptr 0 0, .ptr 2 0, .ptr 4 0, .ptr 3 0]
    [.cells wE.cells, .cells qE.cells, .cells dE2.cells, .cells [.nils], .cells [.fn n_filter_Spans_1 [.ptr 0 0, .ptr 2 0, .ptr 4 0, .ptr 3 0]]]
    (fun v o => v = .tup [] ∧ o = [.cells wE.cells, .cells qE.cells, .cells dE2.cells, .cells [.sl [.agg [.int .i64 0, .int .i64 3], .agg [.int .i64 4, .int .i64 7]] 8], .cells [.fn n_filter_Spans_1 [.ptr 0 0, .ptr 2 0, .ptr 4 0, .ptr 3 0]], .cells qE.cells, .tok 2 2]) :=
  impQ_run (tabE_ok noXq_ok) (n := 200) (by kernel_rfl)
theorem c_Cp1 : ImpC PR n_slices_Compact_Span_Span [.row 6 0 1] [.gone, .gone, .gone, .cells [.row 6 0 1], .gone, .gone, .cells [.int .i64 0, .int .i64 3]]
    (fun v o => v = .row 6 0 1 ∧ o = [.gone, .gone, .gone, .cells [.row 6 0 1], .gone, .gone, .cells [.int .i64 0, .int .i64 3]]) :=
  impQ_run (tabE_ok noXq_ok) (n := 200) (by kernel_rfl)
theorem c_Cp2 : ImpC PR n_slices_Compact_Span_Span [.row 6 0 2] [.gone, .gone, .gone, .cells [.row 6 0 2], .gone, .gone, .cells [.int .i64 0, .int .i64 3, .int .i64 4, .int .i64 7]]
    (fun v o => v = .row 6 0 2 ∧ o = [.gone, .gone, .gone, .cells [.row 6 0 2], .gone, .gone, .cells [.int .i64 0, .int .i64 3, .int .i64 4, .int .i64 7]]) :=
  impQ_run (tabE_ok noXq_ok) (n := 200) (by kernel_rfl)
theorem perm_two {l : List (Int × Int)} (hp : l.Perm [(0, 3), (4, 7)]) (hs : l.Pairwise (fun x y => ltSp y x = false)) : l = [(0, 3), (4, 7)] := by
  have hlen := hp.length_eq
  match l, hlen with
  | [x, y], _ =>
    have hx : x ∈ [((0 : Int), (3 : Int)), (4, 7)] := hp.mem_iff.1 (by simp)
    have hy : y ∈ [((0 : Int), (3 : Int)), (4, 7)] := hp.mem_iff.1 (by simp)
    have hnd : ([x, y] : List (Int × Int)).Nodup := hp.nodup_iff.2 (by decide)
    have hne : x ≠ y := by
      intro e; subst e; simp at hnd
    have hs' : ltSp y x = false := by
      have := List.pairwise_cons.1 hs
      exact this.1 y (by simp)
    simp only [List.mem_cons, List.not_mem_nil, or_false] at hx hy
    rcases hx with rfl | rfl <;> rcases hy with rfl | rfl
    · exact absurd rfl hne
    · rfl
    · exact absurd hs' (by decide)
    · exact absurd rfl hne
theorem callW_some' {P : Program} {st : St} {k : St → Prop} {f : Nat} {args args' : List VV} {own : Option (Option Nat × Nat)} {d : Option Nat} {R : VV → List V.Obj → Prop} (h : ImpC P f args' st.ob R) (ha : args.map VV.strip = args') (hn : args.all VV.noTup = true) (ho : own = none ∨ (markOf own).isSome = true)
    (hk : ∀ r o, R r o → k { st with env := putD st.env d r, ob := o }) : CallW P f args own d st k := by
  subst ha
  exact Or.inr ⟨ho, hn, h.mono hk⟩
theorem c_SpE1 : PureC PR n_filter_Spans [wE, qE, dE1] (.sl [.agg [.int .i64 0, .int .i64 3]] 0) := by
  refine pure_of_wp m_filter_Spans rfl (by decide) ?_
  unfold FnW
  have hv : v_filter_Spans.body = v_filter_Spans.body := rfl
  conv at hv => rhs; unfold v_filter_Spans
  rw [hv]
  clear hv
  have h1 := c_HoE1
  have h2 := c_Sf1
  simp only [wE, qE, dE1, VV.cells] at h1 h2
  simp only [go_sem, wE, qE, dE1]
  refine callW_pure h1 (by simp only [go_sem]) (by simp only [go_sem]) ?_
  simp only [go_sem]
  refine callW_det h2 (by simp only [go_sem]) (by simp only [go_sem]) (.inl rfl) ?_
  simp only [go_sem]
  refine e_thaw (st' := _) rfl ?_
  simp only [go_sem]
  refine callW_det (c_slice1 (t := 6) (off := 0) (cap := [.ptr 3 0])) (by simp only [go_sem]) (by simp only [go_sem]) (.inl rfl) ?_
  simp only [go_sem]
  refine callW_det c_Cp1 (by simp only [go_sem]) (by simp only [go_sem]) (.inl rfl) ?_
  simp only [go_sem]
  refine frz_row (h := ?_) rfl (by decide) (by decide) 
  show Wp PR .ret _ _
  refine ⟨trivial, ?_⟩
  rfl
theorem c_SpE2 : PureC PR n_filter_Spans [wE, qE, dE2] (.sl [.agg [.int .i64 0, .int .i64 3], .agg [.int .i64 4, .int .i64 7]] 0) := by
  refine pure_of_wp m_filter_Spans rfl (by decide) ?_
  unfold FnW
  have hv : v_filter_Spans.body = v_filter_Spans.body := rfl
  conv at hv => rhs; unfold v_filter_Spans
  rw [hv]
  clear hv
  have h1 := c_HoE2
  have h2 := c_Sf2
  simp only [wE, qE, dE2, VV.cells] at h1 h2
  simp only [go_sem, wE, qE, dE2]
  refine callW_pure h1 (by simp only [go_sem]) (by simp only [go_sem]) ?_
  simp only [go_sem]
  refine callW_det h2 (by simp only [go_sem]) (by simp only [go_sem]) (.inl rfl) ?_
  simp only [go_sem]
  refine e_thaw (st' := _) rfl ?_
  simp only [go_sem]
  refine callW_some' (c_slice (o := 3) (t := 6) (l := [(0, 3), (4, 7)]) (by decide) (by decide) rfl rfl) (by simp only [go_sem]) (by simp only [go_sem]) (.inl rfl) ?_
  rintro v o ⟨rfl, l', hp, hs, rfl⟩
  obtain rfl := perm_two hp hs
  simp only [go_sem, spc, List.flatMap_cons, List.flatMap_nil]
  refine callW_det c_Cp2 (by simp only [go_sem]) (by simp only [go_sem]) (.inl rfl) ?_
  simp only [go_sem]
  refine frz_row (h := ?_) rfl (by decide) (by decide) 
  show Wp PR .ret _ _
  refine ⟨trivial, ?_⟩
  rfl
def sE : VV := .agg [.sl [dE1, dE2] 0, .sl (gS3.map eG) 0]
def TA : List (Nat × List VV × VV) := [
  (n_segment_Build, [.sl [dE1, dE2] 0], .tup [sE, .int .i64 0]),
  (n_filter_Holds, [wE, qE, dE1], .bool true),
  (n_filter_Holds, [wE, qE, dE2], .bool true),
  (n_filter_Spans, [wE, qE, dE1], .sl [.agg [.int .i64 0, .int .i64 3]] 0),
  (n_filter_Spans, [wE, qE, dE2], .sl [.agg [.int .i64 0, .int .i64 3], .agg [.int .i64 4, .int .i64 7]] 0),
  (n_posting_unique_int, [.sl [] 0], .sl [] 0),
  (n_posting_unique_int, [.sl [.int .i64 2] 0], .sl [.int .i64 2] 0)]
theorem TA_ok : AllC TA := allC_cons (c_Build c_Right) (allC_cons c_HoE1 (allC_cons c_HoE2 (allC_cons c_SpE1 (allC_cons c_SpE2 (allC_cons c_unique0 (allC_cons c_unique2 allC_nil))))))
theorem c_Ca : PureC PR n_plan_Candidates [qE, sE] (.sl [.int .i64 1, .int .i64 2] 0) := runF_ok (n := 300) (tabE_ok (extT_ok TA_ok)) (isV_eq (by decide +kernel))
theorem c_Sc1 : PureC PR n_score_Score [wE, qE, dE1] (.int .i64 4) := runF_ok (n := 300) (tabE_ok (extT_ok TA_ok)) (isV_eq (by decide +kernel))
theorem c_Sc2 : PureC PR n_score_Score [wE, qE, dE2] (.int .i64 27) := runF_ok (n := 300) (tabE_ok (extT_ok TA_ok)) (isV_eq (by decide +kernel))
def TA2 : List (Nat × List VV × VV) := (n_plan_Candidates, [qE, sE], .sl [.int .i64 1, .int .i64 2] 0) :: (n_score_Score, [wE, qE, dE1], .int .i64 4) :: (n_score_Score, [wE, qE, dE2], .int .i64 27) :: TA
theorem TA2_ok : AllC TA2 := allC_cons c_Ca (allC_cons c_Sc1 (allC_cons c_Sc2 TA_ok))
theorem aliveE : PureC PR n_L41_alive [] (.bool true) := runF_ok (n := 300) (tabE_ok (extT_ok TA2_ok)) (isV_eq (by decide +kernel))
end Go.Proofs
