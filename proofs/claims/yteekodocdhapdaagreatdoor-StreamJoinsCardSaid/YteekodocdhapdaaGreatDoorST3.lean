/- V, proofs: the examples of chapter 42 hold (alive): filter.Spans by hand, answers known by tables, the rest run by the kernel. Conditions: none. -/
import Derived.Test.YteekodocdhapdaaGreatDoorSE3
import Derived.Test.YteekodocdhapdaaGreatDoorSL3
import Derived.Test.YteekodocdhapdaaGreatDoorSO9
import Derived.Test.YteekodocdhapdaaGreatDoorA4
set_option linter.unusedVariables false
set_option linter.unusedSimpArgs false
namespace Go.Proofs
open Go.V Go.RowKit

def tabQ : Nat → Option VF
  | 3 => some v_L42_StreamJoins
  | 4 => some v_L42_alive
  | 5 => some v_L42_near
  | 6 => some v_stream_Account
  | 7 => some v_R42_Account
  | 8 => some v_R42_Same
  | 9 => some v_stream_Join
  | 10 => some v_R42_Join
  | 11 => some v_stream_Shard
  | 12 => some v_stream_Run
  | 13 => some v_stream_Need
  | 14 => some v_R42_Docs
  | 15 => some v_R42_SameResults
  | 16 => some v_score_Sort
  | 17 => some v_R40_Sort
  | 18 => some v_stream_examine
  | 19 => some v_stream_costs
  | 20 => some v_R01_Spans
  | 21 => some v_slices_Clone_Result_Result
  | 22 => some v_slices_SortStableFunc_Result_Result
  | 23 => some v_score_compare
  | 24 => some v_R40_Merge
  | 25 => some v_filter_Holds
  | 26 => some v_score_Score
  | 27 => some v_filter_Spans
  | 28 => some v_plan_Cost
  | 29 => some v_slices_stableCmpFunc_Result
  | 30 => some v_score_compare_1
  | 31 => some v_docs_Get
  | 32 => some v_cmp_Compare_int
  | 33 => some v_cmp_Or_int
  | 34 => some v_cmp_Compare_string
  | 35 => some v_R40_Less
  | 36 => some v_query_Right
  | 37 => some v_filter_Holds_1
  | 38 => some v_slices_ContainsFunc_Query_Query
  | 39 => some v_filter_leaf
  | 40 => some v_query_Leaves
  | 41 => some v_slices_Contains_string_string
  | 42 => some v_text_Fold
  | 43 => some v_score_stem
  | 44 => some v_text_Words
  | 45 => some v_slices_Contains_Span_Span
  | 46 => some v_filter_Spans_1
  | 47 => some v_filter_places
  | 49 => some v_filter_Spans_2
  | 50 => some v_slices_Compact_Span_Span
  | 51 => some v_plan_leaves
  | 52 => some v_slices_insertionSortCmpFunc_Result
  | 53 => some v_slices_symMergeCmpFunc_Result
  | 54 => some v_cmp_isNaN_int
  | 55 => some v_cmp_isNaN_string
  | 56 => some v_R28_Get
  | 57 => some v_query_shapes
  | 58 => some v_query_leaves
  | 59 => some v_query_size
  | 60 => some v_slices_IndexFunc_Query_Query
  | 61 => some v_locate_Find
  | 72 => some v_query_Leaves_1
  | 73 => some v_query_inner
  | 74 => some v_slices_Index_string_string
  | 75 => some v_glob_Base
  | 76 => some v_strings_LastIndexByte
  | 77 => some v_text_word
  | 78 => some v_slices_Index_Span_Span
  | 87 => some v_slices_rotateCmpFunc_Result
  | 88 => some v_query_shape
  | 89 => some v_query_shapes_1
  | 90 => some v_query_leaf
  | 91 => some v_locate_folded
  | 114 => some v_internal_bytealg_LastIndexByteString
  | 136 => some v_slices_swapRangeCmpFunc_Result
  | 137 => some v_query_formed
  | 191 => some v_query_printable
  | _ => none
theorem tabQ_ok {ext : Nat → List VV → Option VV} (he : ∀ f args r, ext f args = some r → PureC PR f args r) : TabOk PR tabQ ext := by
  refine ⟨fun f vf h => ?_, he⟩
  unfold tabQ at h
  split at h
  · cases h; exact m_L42_StreamJoins
  · cases h; exact m_L42_alive
  · cases h; exact m_L42_near
  · cases h; exact m_stream_Account
  · cases h; exact m_R42_Account
  · cases h; exact m_R42_Same
  · cases h; exact m_stream_Join
  · cases h; exact m_R42_Join
  · cases h; exact m_stream_Shard
  · cases h; exact m_stream_Run
  · cases h; exact m_stream_Need
  · cases h; exact m_R42_Docs
  · cases h; exact m_R42_SameResults
  · cases h; exact m_score_Sort
  · cases h; exact m_R40_Sort
  · cases h; exact m_stream_examine
  · cases h; exact m_stream_costs
  · cases h; exact m_R01_Spans
  · cases h; exact m_slices_Clone_Result_Result
  · cases h; exact m_slices_SortStableFunc_Result_Result
  · cases h; exact m_score_compare
  · cases h; exact m_R40_Merge
  · cases h; exact m_filter_Holds
  · cases h; exact m_score_Score
  · cases h; exact m_filter_Spans
  · cases h; exact m_plan_Cost
  · cases h; exact m_slices_stableCmpFunc_Result
  · cases h; exact m_score_compare_1
  · cases h; exact m_docs_Get
  · cases h; exact m_cmp_Compare_int
  · cases h; exact m_cmp_Or_int
  · cases h; exact m_cmp_Compare_string
  · cases h; exact m_R40_Less
  · cases h; exact m_query_Right
  · cases h; exact m_filter_Holds_1
  · cases h; exact m_slices_ContainsFunc_Query_Query
  · cases h; exact m_filter_leaf
  · cases h; exact m_query_Leaves
  · cases h; exact m_slices_Contains_string_string
  · cases h; exact m_text_Fold
  · cases h; exact m_score_stem
  · cases h; exact m_text_Words
  · cases h; exact m_slices_Contains_Span_Span
  · cases h; exact m_filter_Spans_1
  · cases h; exact m_filter_places
  · cases h; exact m_filter_Spans_2
  · cases h; exact m_slices_Compact_Span_Span
  · cases h; exact m_plan_leaves
  · cases h; exact m_slices_insertionSortCmpFunc_Result
  · cases h; exact m_slices_symMergeCmpFunc_Result
  · cases h; exact m_cmp_isNaN_int
  · cases h; exact m_cmp_isNaN_string
  · cases h; exact m_R28_Get
  · cases h; exact m_query_shapes
  · cases h; exact m_query_leaves
  · cases h; exact m_query_size
  · cases h; exact m_slices_IndexFunc_Query_Query
  · cases h; exact m_locate_Find
  · cases h; exact m_query_Leaves_1
  · cases h; exact m_query_inner
  · cases h; exact m_slices_Index_string_string
  · cases h; exact m_glob_Base
  · cases h; exact m_strings_LastIndexByte
  · cases h; exact m_text_word
  · cases h; exact m_slices_Index_Span_Span
  · cases h; exact m_slices_rotateCmpFunc_Result
  · cases h; exact m_query_shape
  · cases h; exact m_query_shapes_1
  · cases h; exact m_query_leaf
  · cases h; exact m_locate_folded
  · cases h; exact m_internal_bytealg_LastIndexByteString
  · cases h; exact m_slices_swapRangeCmpFunc_Result
  · cases h; exact m_query_formed
  · cases h; exact m_query_printable
  · cases h
def noXq : Nat → List VV → Option VV := fun _ _ => none
theorem noXq_ok : ∀ f args r, noXq f args = some r → PureC PR f args r := fun f args r h => by cases h
theorem impQ_run {ext : Nat → List VV → Option VV} (T : TabOk PR tabQ ext) {n f : Nat} {args : List VV} {ob ob' : List V.Obj} {r : VV} (h : impE tabQ (exec tabQ ext n) f args ob = some (r, ob')) : ImpC PR f args ob (fun v o => v = r ∧ o = ob') :=
  impE_ok T (exec_ok T n) h
def wQ : VV := .agg [.sl [] 0, .sl [] 0, .sl [] 0, .sl [] 0, .sl [] 0]
def qQ : VV := .agg [.int .i64 1, .str [], .bool false, .int .i64 0, .int .i64 0, .sl [] 0]
def dQ (i : Int) (p : List UInt8) : List VV := [.int .i64 i, .str [], .str p, .str [120], .sl [] 0]
def obQ (i : Int) (p : List UInt8) : List V.Obj := [.cells wQ.cells, .cells qQ.cells, .cells (dQ i p), .cells [.nils], .cells [.fn n_filter_Spans_1 [.ptr 0 0, .ptr 2 0, .ptr 4 0, .ptr 3 0]]]
def obR (i : Int) (p : List UInt8) : List V.Obj := [.cells wQ.cells, .cells qQ.cells, .cells (dQ i p), .cells [.sl [] 8], .cells [.fn n_filter_Spans_1 [.ptr 0 0, .ptr 2 0, .ptr 4 0, .ptr 3 0]], .cells qQ.cells, .tok 0 2]
theorem c_SpansQ (i : Int) (p : List UInt8) (h : PureC PR n_filter_Holds [wQ, qQ, .agg (dQ i p)] (.bool true))
    (h2 : ImpC PR n_filter_Spans_1 [qQ, .ptr 0 0, .ptr 2 0, .ptr 4 0, .ptr 3 0] (obQ i p) (fun v o => v = .tup [] ∧ o = obR i p))
    (h3 : PureC PR n_slices_Compact_Span_Span [.sl [] 0] (.sl [] 0)) :
    PureC PR n_filter_Spans [wQ, qQ, .agg (dQ i p)] (.sl [] 0) := by
  refine pure_of_wp m_filter_Spans rfl (by simp [argOk, wQ, qQ, dQ, VV.noHnd, VV.noHnd0, VV.ids, idsL]) ?_
  unfold FnW
  have hv : v_filter_Spans.body = v_filter_Spans.body := rfl
  conv at hv => rhs; unfold v_filter_Spans
  rw [hv]
  clear hv
  have hres : v_filter_Spans.results = [(6, none)] := rfl
  have hfr : v_filter_Spans.fresh = none := rfl
  simp only [obQ, obR, wQ, qQ, dQ, VV.cells] at h h2 h3
  simp only [go_sem, wQ, qQ, dQ]
  refine callW_pure h (by simp only [go_sem]) (by simp only [go_sem]) ?_
  simp only [go_sem]
  refine callW_det h2 (by simp only [go_sem]) (by simp only [go_sem]) (.inl rfl) ?_
  simp only [go_sem, List.isEmpty_nil]
  refine callW_det (c_slice0 (cap := [.ptr 3 0])) (by simp only [go_sem]) (by simp only [go_sem]) (.inl rfl) ?_
  simp only [go_sem]
  refine callW_pure h3 (by simp only [go_sem]) (by simp only [go_sem]) ?_
  simp only [go_sem, hres, hfr]

/-! ### answers known, by a table -/
def entS (e : Nat × List VV × VV) (f : Nat) (args : List VV) : Bool := e.1 == f && eqVL e.2.1 args
def extT (T : List (Nat × List VV × VV)) (f : Nat) (args : List VV) : Option VV := match T.find? (fun e => entS e f args) with
  | some e => some e.2.2
  | none => none
def AllC (T : List (Nat × List VV × VV)) : Prop := ∀ e, e ∈ T → PureC PR e.1 e.2.1 e.2.2
theorem extT_ok {T : List (Nat × List VV × VV)} (hT : AllC T) : ∀ f args r, extT T f args = some r → PureC PR f args r := by
  intro f args r h
  unfold extT at h
  split at h
  · rename_i e he
    cases h
    have h1 := hT e (List.mem_of_find?_eq_some he)
    have h2 := List.find?_some he
    unfold entS at h2
    rw [Bool.and_eq_true] at h2
    rw [← eqVL_ok _ _ h2.2, ← eq_of_beq h2.1]
    exact h1
  · cases h
theorem allC_nil : AllC [] := fun e he => absurd he (by simp)
theorem allC_cons {f : Nat} {args : List VV} {r : VV} {T : List (Nat × List VV × VV)} (h : PureC PR f args r) (hT : AllC T) : AllC ((f, args, r) :: T) := by
  intro e he
  rcases List.mem_cons.1 he with rfl | he
  · exact h
  · exact hT e he
theorem c_Compact0 : PureC PR n_slices_Compact_Span_Span [.sl [] 0] (.sl [] 0) := runF_ok (n := 200) (tabQ_ok noXq_ok) (isV_eq (by decide +kernel))
theorem c_H1 : PureC PR n_filter_Holds [wQ, qQ, .agg (dQ 1 [97])] (.bool true) := runF_ok (n := 200) (tabQ_ok noXq_ok) (isV_eq (by decide +kernel))
theorem c_H2 : PureC PR n_filter_Holds [wQ, qQ, .agg (dQ 2 [98])] (.bool true) := runF_ok (n := 200) (tabQ_ok noXq_ok) (isV_eq (by decide +kernel))
theorem c_H3 : PureC PR n_filter_Holds [wQ, qQ, .agg (dQ 3 [99])] (.bool true) := runF_ok (n := 200) (tabQ_ok noXq_ok) (isV_eq (by decide +kernel))
theorem c_H4 : PureC PR n_filter_Holds [wQ, qQ, .agg (dQ 4 [100])] (.bool true) := runF_ok (n := 200) (tabQ_ok noXq_ok) (isV_eq (by decide +kernel))
theorem c_Sp1 : PureC PR n_filter_Spans [wQ, qQ, .agg (dQ 1 [97])] (.sl [] 0) := c_SpansQ 1 [97] c_H1 (impQ_run (tabQ_ok noXq_ok) (n := 200) (by kernel_rfl)) c_Compact0
theorem c_Sp2 : PureC PR n_filter_Spans [wQ, qQ, .agg (dQ 2 [98])] (.sl [] 0) := c_SpansQ 2 [98] c_H2 (impQ_run (tabQ_ok noXq_ok) (n := 200) (by kernel_rfl)) c_Compact0
theorem c_Sp3 : PureC PR n_filter_Spans [wQ, qQ, .agg (dQ 3 [99])] (.sl [] 0) := c_SpansQ 3 [99] c_H3 (impQ_run (tabQ_ok noXq_ok) (n := 200) (by kernel_rfl)) c_Compact0
theorem c_Sp4 : PureC PR n_filter_Spans [wQ, qQ, .agg (dQ 4 [100])] (.sl [] 0) := c_SpansQ 4 [100] c_H4 (impQ_run (tabQ_ok noXq_ok) (n := 200) (by kernel_rfl)) c_Compact0
def dc (i : Int) (p : List UInt8) : Dc := ⟨i, [], p, [120], []⟩
def rs (i : Int) : Rs := ⟨i, 1, []⟩
def dX : List Dc := [dc 1 [97], dc 2 [98], dc 3 [99]]
def dY : List Dc := [dc 4 [100]]
def dZ : List Dc := [dc 1 [97], dc 2 [98], dc 3 [99], dc 4 [100]]
theorem s1 : stS (lessR dX) [rs 1, rs 2] = [rs 1, rs 2] := by kernel_rfl
theorem s2 : stS (lessR dX) [rs 1] = [rs 1] := by kernel_rfl
theorem s3 : stS (lessR dX) [rs 1, rs 2, rs 3] = [rs 1, rs 2, rs 3] := by kernel_rfl
theorem s4 : stS (lessR dX) [] = [] := by kernel_rfl
theorem s5 : stS (lessR dY) [rs 4] = [rs 4] := by kernel_rfl
theorem s6 : stS (lessR dZ) [rs 1, rs 2, rs 3, rs 4] = [rs 1, rs 2, rs 3, rs 4] := by kernel_rfl
theorem s7 : stS (lessR dZ) [rs 1, rs 2, rs 4] = [rs 1, rs 2, rs 4] := by kernel_rfl
theorem s8 : stS (lessR dZ) [rs 1, rs 2, rs 4, rs 3] = [rs 1, rs 2, rs 3, rs 4] := by kernel_rfl
theorem so {l : List Dc} {r r' : List Rs} (h : stS (lessR l) r = r') (hl : l.length ≤ 10) (hr : r.length ≤ 10) : PureC PR n_score_Sort [.sl (l.map eDc) 0, .sl (r.map eRs) 0] (.sl (r'.map eRs) 0) := by
  subst h
  exact c_Sort l (Nat.le_trans hl (by decide)) r (by omega)
def T1 : List (Nat × List VV × VV) := [
  (n_filter_Holds, [wQ, qQ, .agg (dQ 1 [97])], .bool true),
  (n_filter_Spans, [wQ, qQ, .agg (dQ 1 [97])], .sl [] 0),
  (n_filter_Holds, [wQ, qQ, .agg (dQ 2 [98])], .bool true),
  (n_filter_Spans, [wQ, qQ, .agg (dQ 2 [98])], .sl [] 0),
  (n_filter_Holds, [wQ, qQ, .agg (dQ 3 [99])], .bool true),
  (n_filter_Spans, [wQ, qQ, .agg (dQ 3 [99])], .sl [] 0),
  (n_filter_Holds, [wQ, qQ, .agg (dQ 4 [100])], .bool true),
  (n_filter_Spans, [wQ, qQ, .agg (dQ 4 [100])], .sl [] 0)]
theorem T1_ok : AllC T1 := allC_cons c_H1 (allC_cons c_Sp1 (allC_cons c_H2 (allC_cons c_Sp2 (allC_cons c_H3 (allC_cons c_Sp3 (allC_cons c_H4 (allC_cons c_Sp4 (allC_nil))))))))
theorem c_Sc1 : PureC PR n_score_Score [wQ, qQ, .agg (dQ 1 [97])] (.int .i64 1) := runF_ok (n := 200) (tabQ_ok (extT_ok T1_ok)) (isV_eq (by decide +kernel))
theorem c_Co1 : PureC PR n_plan_Cost [qQ, .agg (dQ 1 [97])] (.int .i64 3) := runF_ok (n := 200) (tabQ_ok (extT_ok T1_ok)) (isV_eq (by decide +kernel))
theorem c_Sc2 : PureC PR n_score_Score [wQ, qQ, .agg (dQ 2 [98])] (.int .i64 1) := runF_ok (n := 200) (tabQ_ok (extT_ok T1_ok)) (isV_eq (by decide +kernel))
theorem c_Co2 : PureC PR n_plan_Cost [qQ, .agg (dQ 2 [98])] (.int .i64 3) := runF_ok (n := 200) (tabQ_ok (extT_ok T1_ok)) (isV_eq (by decide +kernel))
theorem c_Sc3 : PureC PR n_score_Score [wQ, qQ, .agg (dQ 3 [99])] (.int .i64 1) := runF_ok (n := 200) (tabQ_ok (extT_ok T1_ok)) (isV_eq (by decide +kernel))
theorem c_Co3 : PureC PR n_plan_Cost [qQ, .agg (dQ 3 [99])] (.int .i64 3) := runF_ok (n := 200) (tabQ_ok (extT_ok T1_ok)) (isV_eq (by decide +kernel))
theorem c_Sc4 : PureC PR n_score_Score [wQ, qQ, .agg (dQ 4 [100])] (.int .i64 1) := runF_ok (n := 200) (tabQ_ok (extT_ok T1_ok)) (isV_eq (by decide +kernel))
theorem c_Co4 : PureC PR n_plan_Cost [qQ, .agg (dQ 4 [100])] (.int .i64 3) := runF_ok (n := 200) (tabQ_ok (extT_ok T1_ok)) (isV_eq (by decide +kernel))
def T2 : List (Nat × List VV × VV) := [
  (n_filter_Holds, [wQ, qQ, .agg (dQ 1 [97])], .bool true),
  (n_filter_Spans, [wQ, qQ, .agg (dQ 1 [97])], .sl [] 0),
  (n_filter_Holds, [wQ, qQ, .agg (dQ 2 [98])], .bool true),
  (n_filter_Spans, [wQ, qQ, .agg (dQ 2 [98])], .sl [] 0),
  (n_filter_Holds, [wQ, qQ, .agg (dQ 3 [99])], .bool true),
  (n_filter_Spans, [wQ, qQ, .agg (dQ 3 [99])], .sl [] 0),
  (n_filter_Holds, [wQ, qQ, .agg (dQ 4 [100])], .bool true),
  (n_filter_Spans, [wQ, qQ, .agg (dQ 4 [100])], .sl [] 0),
  (n_score_Score, [wQ, qQ, .agg (dQ 1 [97])], .int .i64 1),
  (n_plan_Cost, [qQ, .agg (dQ 1 [97])], .int .i64 3),
  (n_score_Score, [wQ, qQ, .agg (dQ 2 [98])], .int .i64 1),
  (n_plan_Cost, [qQ, .agg (dQ 2 [98])], .int .i64 3),
  (n_score_Score, [wQ, qQ, .agg (dQ 3 [99])], .int .i64 1),
  (n_plan_Cost, [qQ, .agg (dQ 3 [99])], .int .i64 3),
  (n_score_Score, [wQ, qQ, .agg (dQ 4 [100])], .int .i64 1),
  (n_plan_Cost, [qQ, .agg (dQ 4 [100])], .int .i64 3),
  (n_score_Sort, [.sl (dX.map eDc) 0, .sl ([rs 1, rs 2].map eRs) 0], .sl ([rs 1, rs 2].map eRs) 0),
  (n_score_Sort, [.sl (dX.map eDc) 0, .sl ([rs 1].map eRs) 0], .sl ([rs 1].map eRs) 0),
  (n_score_Sort, [.sl (dX.map eDc) 0, .sl ([rs 1, rs 2, rs 3].map eRs) 0], .sl ([rs 1, rs 2, rs 3].map eRs) 0),
  (n_score_Sort, [.sl (dX.map eDc) 0, .sl ([].map eRs) 0], .sl ([].map eRs) 0),
  (n_score_Sort, [.sl (dY.map eDc) 0, .sl ([rs 4].map eRs) 0], .sl ([rs 4].map eRs) 0),
  (n_score_Sort, [.sl (dZ.map eDc) 0, .sl ([rs 1, rs 2, rs 3, rs 4].map eRs) 0], .sl ([rs 1, rs 2, rs 3, rs 4].map eRs) 0),
  (n_score_Sort, [.sl (dZ.map eDc) 0, .sl ([rs 1, rs 2, rs 4].map eRs) 0], .sl ([rs 1, rs 2, rs 4].map eRs) 0),
  (n_score_Sort, [.sl (dZ.map eDc) 0, .sl ([rs 1, rs 2, rs 4, rs 3].map eRs) 0], .sl ([rs 1, rs 2, rs 3, rs 4].map eRs) 0)]
theorem T2_ok : AllC T2 := allC_cons c_H1 (allC_cons c_Sp1 (allC_cons c_H2 (allC_cons c_Sp2 (allC_cons c_H3 (allC_cons c_Sp3 (allC_cons c_H4 (allC_cons c_Sp4 (allC_cons c_Sc1 (allC_cons c_Co1 (allC_cons c_Sc2 (allC_cons c_Co2 (allC_cons c_Sc3 (allC_cons c_Co3 (allC_cons c_Sc4 (allC_cons c_Co4 (allC_cons (so s1 (by decide) (by decide)) (allC_cons (so s2 (by decide) (by decide)) (allC_cons (so s3 (by decide) (by decide)) (allC_cons (so s4 (by decide) (by decide)) (allC_cons (so s5 (by decide) (by decide)) (allC_cons (so s6 (by decide) (by decide)) (allC_cons (so s7 (by decide) (by decide)) (allC_cons (so s8 (by decide) (by decide)) (allC_nil))))))))))))))))))))))))
theorem aliveQ : PureC PR n_L42_alive [] (.bool true) := runF_ok (n := 300) (tabQ_ok (extT_ok T2_ok)) (isV_eq (by decide +kernel))
end Go.Proofs
