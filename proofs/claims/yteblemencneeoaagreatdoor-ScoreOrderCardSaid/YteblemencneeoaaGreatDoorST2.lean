/- V, proofs: the chapter's examples hold: the run of alive. Conditions: none. -/
import Derived.Test.YteblemencneeoaaGreatDoorSE3
import Derived.Test.YteblemencneeoaaGreatDoorSL2
import Derived.Test.YteblemencneeoaaGreatDoorA4
set_option linter.unusedVariables false
set_option linter.unusedSimpArgs false
namespace Go.Proofs
open Go.V Go.RowKit

def tabA : Nat → Option VF
  | 3 => some v_L40_ScoreLesses
  | 4 => some v_L40_ScoreOrder
  | 5 => some v_L40_ScoreSorts
  | 6 => some v_L40_ScoreMerges
  | 7 => some v_L40_alive
  | 8 => some v_score_Less
  | 9 => some v_R40_Less
  | 10 => some v_L40_small
  | 11 => some v_score_Sort
  | 12 => some v_L40_count
  | 13 => some v_R40_Same
  | 14 => some v_R40_Sort
  | 15 => some v_score_Merge
  | 16 => some v_R40_Merge
  | 17 => some v_score_Top
  | 18 => some v_R40_Top
  | 19 => some v_score_Score
  | 20 => some v_score_compare
  | 21 => some v_R28_Get
  | 22 => some v_slices_Clone_Result_Result
  | 23 => some v_slices_SortStableFunc_Result_Result
  | 24 => some v_filter_Holds
  | 25 => some v_query_Leaves
  | 26 => some v_slices_Contains_string_string
  | 27 => some v_text_Fold
  | 28 => some v_score_stem
  | 29 => some v_text_Words
  | 30 => some v_filter_Spans
  | 31 => some v_slices_Contains_Span_Span
  | 32 => some v_score_compare_1
  | 33 => some v_docs_Get
  | 34 => some v_cmp_Compare_int
  | 35 => some v_cmp_Or_int
  | 36 => some v_cmp_Compare_string
  | 37 => some v_slices_stableCmpFunc_Result
  | 38 => some v_query_Right
  | 39 => some v_filter_Holds_1
  | 40 => some v_slices_ContainsFunc_Query_Query
  | 41 => some v_filter_leaf
  | 42 => some v_query_Leaves_1
  | 43 => some v_query_inner
  | 44 => some v_slices_Index_string_string
  | 45 => some v_glob_Base
  | 46 => some v_strings_LastIndexByte
  | 47 => some v_text_word
  | 48 => some v_filter_Spans_1
  | 49 => some v_filter_places
  | 51 => some v_filter_Spans_2
  | 52 => some v_slices_Compact_Span_Span
  | 53 => some v_slices_Index_Span_Span
  | 54 => some v_cmp_isNaN_int
  | 55 => some v_cmp_isNaN_string
  | 56 => some v_slices_insertionSortCmpFunc_Result
  | 57 => some v_slices_symMergeCmpFunc_Result
  | 58 => some v_query_shapes
  | 59 => some v_query_leaves
  | 60 => some v_query_size
  | 61 => some v_slices_IndexFunc_Query_Query
  | 62 => some v_locate_Find
  | 73 => some v_internal_bytealg_LastIndexByteString
  | 82 => some v_slices_rotateCmpFunc_Result
  | 83 => some v_query_shape
  | 84 => some v_query_shapes_1
  | 85 => some v_query_leaf
  | 86 => some v_locate_folded
  | 130 => some v_slices_swapRangeCmpFunc_Result
  | 131 => some v_query_formed
  | 185 => some v_query_printable
  | _ => none
theorem tabA_ok {ext : Nat → List VV → Option VV} (he : ∀ f args r, ext f args = some r → PureC PR f args r) : TabOk PR tabA ext := by
  refine ⟨fun f vf h => ?_, he⟩
  unfold tabA at h
  split at h
  · cases h; exact m_L40_ScoreLesses
  · cases h; exact m_L40_ScoreOrder
  · cases h; exact m_L40_ScoreSorts
  · cases h; exact m_L40_ScoreMerges
  · cases h; exact m_L40_alive
  · cases h; exact m_score_Less
  · cases h; exact m_R40_Less
  · cases h; exact m_L40_small
  · cases h; exact m_score_Sort
  · cases h; exact m_L40_count
  · cases h; exact m_R40_Same
  · cases h; exact m_R40_Sort
  · cases h; exact m_score_Merge
  · cases h; exact m_R40_Merge
  · cases h; exact m_score_Top
  · cases h; exact m_R40_Top
  · cases h; exact m_score_Score
  · cases h; exact m_score_compare
  · cases h; exact m_R28_Get
  · cases h; exact m_slices_Clone_Result_Result
  · cases h; exact m_slices_SortStableFunc_Result_Result
  · cases h; exact m_filter_Holds
  · cases h; exact m_query_Leaves
  · cases h; exact m_slices_Contains_string_string
  · cases h; exact m_text_Fold
  · cases h; exact m_score_stem
  · cases h; exact m_text_Words
  · cases h; exact m_filter_Spans
  · cases h; exact m_slices_Contains_Span_Span
  · cases h; exact m_score_compare_1
  · cases h; exact m_docs_Get
  · cases h; exact m_cmp_Compare_int
  · cases h; exact m_cmp_Or_int
  · cases h; exact m_cmp_Compare_string
  · cases h; exact m_slices_stableCmpFunc_Result
  · cases h; exact m_query_Right
  · cases h; exact m_filter_Holds_1
  · cases h; exact m_slices_ContainsFunc_Query_Query
  · cases h; exact m_filter_leaf
  · cases h; exact m_query_Leaves_1
  · cases h; exact m_query_inner
  · cases h; exact m_slices_Index_string_string
  · cases h; exact m_glob_Base
  · cases h; exact m_strings_LastIndexByte
  · cases h; exact m_text_word
  · cases h; exact m_filter_Spans_1
  · cases h; exact m_filter_places
  · cases h; exact m_filter_Spans_2
  · cases h; exact m_slices_Compact_Span_Span
  · cases h; exact m_slices_Index_Span_Span
  · cases h; exact m_cmp_isNaN_int
  · cases h; exact m_cmp_isNaN_string
  · cases h; exact m_slices_insertionSortCmpFunc_Result
  · cases h; exact m_slices_symMergeCmpFunc_Result
  · cases h; exact m_query_shapes
  · cases h; exact m_query_leaves
  · cases h; exact m_query_size
  · cases h; exact m_slices_IndexFunc_Query_Query
  · cases h; exact m_locate_Find
  · cases h; exact m_internal_bytealg_LastIndexByteString
  · cases h; exact m_slices_rotateCmpFunc_Result
  · cases h; exact m_query_shape
  · cases h; exact m_query_shapes_1
  · cases h; exact m_query_leaf
  · cases h; exact m_locate_folded
  · cases h; exact m_slices_swapRangeCmpFunc_Result
  · cases h; exact m_query_formed
  · cases h; exact m_query_printable
  · cases h
def noX : Nat → List VV → Option VV := fun _ _ => none
theorem noX_ok : ∀ f args r, noX f args = some r → PureC PR f args r := fun f args r h => by cases h
theorem impE_run {ext : Nat → List VV → Option VV} (T : TabOk PR tabA ext) {n f : Nat} {args : List VV} {ob ob' : List V.Obj} {r : VV} (h : impE tabA (exec tabA ext n) f args ob = some (r, ob')) : ImpC PR f args ob (fun v o => v = r ∧ o = ob') :=
  impE_ok T (exec_ok T n) h
def wV : VV := .agg [.sl [] 0, .sl [] 0, .sl [] 0, .sl [] 0, .sl [] 0]
def qV : VV := .agg [.int .i64 6, .str [102, 111, 111], .bool true, .int .i64 0, .int .i64 0, .sl [] 0]
def dV : VV := .agg [.int .i64 1, .str [99, 111, 114, 101], .str [102, 111, 111, 46, 115, 114, 99], .str [102, 111, 111, 40, 102, 111, 111, 50, 41], .sl [.str [109, 97, 105, 110]] 0]
theorem c_Holds : PureC PR n_filter_Holds [wV, qV, dV] (.bool true) := runF_ok (n := 200) (tabA_ok noX_ok) (isV_eq (by decide +kernel))
theorem c_Spans1 : ImpC PR n_filter_Spans_1 [qV, .ptr 0 0, .ptr 2 0, .ptr 4 0, .ptr 3 0]
    [.cells wV.cells, .cells qV.cells, .cells dV.cells, .cells [.nils], .cells [.fn n_filter_Spans_1 [.ptr 0 0, .ptr 2 0, .ptr 4 0, .ptr 3 0]]]
    (fun v o => v = .tup [] ∧ o = [.cells wV.cells, .cells qV.cells, .cells dV.cells, .cells [.sl [.agg [.int .i64 0, .int .i64 3], .agg [.int .i64 4, .int .i64 7]] 8], .cells [.fn n_filter_Spans_1 [.ptr 0 0, .ptr 2 0, .ptr 4 0, .ptr 3 0]], .cells qV.cells, .tok 2 2]) :=
  impE_run (tabA_ok noX_ok) (n := 200) (by kernel_rfl)
theorem c_Compact2 : ImpC PR n_slices_Compact_Span_Span [.row 6 0 2] [.gone, .gone, .gone, .cells [.row 6 0 2], .gone, .gone, .cells [.int .i64 0, .int .i64 3, .int .i64 4, .int .i64 7]]
    (fun v o => v = .row 6 0 2 ∧ o = [.gone, .gone, .gone, .cells [.row 6 0 2], .gone, .gone, .cells [.int .i64 0, .int .i64 3, .int .i64 4, .int .i64 7]]) :=
  impE_run (tabA_ok noX_ok) (n := 200) (by kernel_rfl)
theorem perm_two {l : List (Int × Int)} (hp : l.Perm [(0, 3), (4, 7)]) (hs : l.Pairwise (fun x y => ltSp y x = false)) : l = [(0, 3), (4, 7)] := by
  have hlen := hp.length_eq
  match l, hlen with
  | [x, y], _ =>
    have hx : x ∈ [((0 : Int), (3 : Int)), (4, 7)] := hp.mem_iff.1 (by simp)
    have hy : y ∈ [((0 : Int), (3 : Int)), (4, 7)] := hp.mem_iff.1 (by simp)
    have hnd : ([x, y] : List (Int × Int)).Nodup := hp.nodup_iff.2 (by decide)
    have hne : x ≠ y := by
      intro e; subst e; simp at hnd
    have hs' : ltSp y x = false := by
      have := List.pairwise_cons.1 hs
      exact this.1 y (by simp)
    simp only [List.mem_cons, List.not_mem_nil, or_false] at hx hy
    rcases hx with rfl | rfl <;> rcases hy with rfl | rfl
    · exact absurd rfl hne
    · rfl
    · exact absurd hs' (by decide)
    · exact absurd rfl hne
theorem callW_some' {P : Program} {st : St} {k : St → Prop} {f : Nat} {args args' : List VV} {own : Option (Option Nat × Nat)} {d : Option Nat} {R : VV → List V.Obj → Prop} (h : ImpC P f args' st.ob R) (ha : args.map VV.strip = args') (hn : args.all VV.noTup = true) (ho : own = none ∨ (markOf own).isSome = true)
    (hk : ∀ r o, R r o → k { st with env := putD st.env d r, ob := o }) : CallW P f args own d st k := by
  subst ha
  exact Or.inr ⟨ho, hn, h.mono hk⟩
theorem c_Spans : PureC PR n_filter_Spans [wV, qV, dV] (.sl [.agg [.int .i64 0, .int .i64 3], .agg [.int .i64 4, .int .i64 7]] 0) := by
  refine pure_of_wp m_filter_Spans rfl (by decide) ?_
  unfold FnW
  have hv : v_filter_Spans.body = v_filter_Spans.body := rfl
  conv at hv => rhs; unfold v_filter_Spans
  rw [hv]
  clear hv
  have h1 := c_Holds
  have h2 := c_Spans1
  simp only [wV, qV, dV, VV.cells] at h1 h2
  simp only [go_sem, wV, qV, dV]
  refine callW_pure h1 (by simp only [go_sem]) (by simp only [go_sem]) ?_
  simp only [go_sem]
  refine callW_det h2 (by simp only [go_sem]) (by simp only [go_sem]) (.inl rfl) ?_
  simp only [go_sem]
  refine e_thaw (st' := _) rfl ?_
  simp only [go_sem]
  refine callW_some' (c_slice (o := 3) (t := 6) (l := [(0, 3), (4, 7)]) (by decide) (by decide) rfl rfl) (by simp only [go_sem]) (by simp only [go_sem]) (.inl rfl) ?_
  rintro v o ⟨rfl, l', hp, hs, rfl⟩
  obtain rfl := perm_two hp hs
  simp only [go_sem, spc, List.flatMap_cons, List.flatMap_nil]
  refine callW_det c_Compact2 (by simp only [go_sem]) (by simp only [go_sem]) (.inl rfl) ?_
  simp only [go_sem]
  refine frz_row (h := ?_) rfl (by decide) (by decide) 
  show Wp PR .ret _ _
  refine ⟨trivial, ?_⟩
  rfl
theorem c_Clone0 : ImpC PR n_slices_Clone_Result_Result [.sl [] 0] [] (fun r ob' => r = .sl [] 0 ∧ ob' = []) := by
  refine imp_of_wp m_slices_Clone_Result_Result rfl ?_
  unfold FnI
  have hv : v_slices_Clone_Result_Result.body = v_slices_Clone_Result_Result.body := rfl
  conv at hv => rhs; unfold v_slices_Clone_Result_Result
  rw [hv]
  clear hv
  simp only [go_sem]
  intro b
  have he : emptyO [Obj.tok 0 3] (VV.sl [] 2) = true := rfl
  cases b
  · simp only [go_sem, he, List.isEmpty_nil]
    refine endI_of 0 (.sl [] 0) (Nat.le_refl _) (Nat.zero_le _) rfl ?_ rfl ⟨rfl, rfl⟩
    rfl
  · simp only [go_sem]
    refine endI_of 0 (.sl [] 0) (Nat.le_refl _) (Nat.zero_le _) rfl ?_ rfl ⟨rfl, rfl⟩
    rfl
theorem c_Top0 (es : List VV) (hes : hdSz es 3 = true) : PureC PR n_score_Top [.sl es 0, .int .i64 0] (.sl [] 0) := by
  refine pure_of_wp m_score_Top rfl (by simp [argOk_sl, argOk_int]) ?_
  unfold FnW v_score_Top
  simp only [go_sem, hes]
  refine callW_det c_Clone0 (by simp only [go_sem]) (by simp only [go_sem]) (.inr rfl) ?_
  simp only [go_sem]
def isSpA : List VV → Bool
  | [a, b, c] => eqVV a wV && eqVV b qV && eqVV c dV
  | _ => false
def extA (f : Nat) (args : List VV) : Option VV :=
  if f = n_filter_Spans then (if isSpA args then some (.sl [.agg [.int .i64 0, .int .i64 3], .agg [.int .i64 4, .int .i64 7]] 0) else none)
  else if f = n_score_Top then (match args with | [.sl es 0, .int .i64 0] => if hdSz es 3 then some (.sl [] 0) else none | _ => none)
  else none
theorem extA_ok : ∀ f args r, extA f args = some r → PureC PR f args r := by
  intro f args r h
  unfold extA at h
  split at h
  · rename_i e
    subst e
    split at h
    · rename_i ha
      cases h
      unfold isSpA at ha
      split at ha
      · simp only [Bool.and_eq_true] at ha
        rw [eqVV_ok _ _ ha.1.1, eqVV_ok _ _ ha.1.2, eqVV_ok _ _ ha.2]
        exact c_Spans
      · cases ha
    · cases h
  split at h
  · rename_i e
    subst e
    split at h
    · split at h
      · rename_i hes
        cases h; exact c_Top0 _ hes
      · cases h
    · cases h
  · cases h
theorem alive : PureC PR n_L40_alive [] (.bool true) := runF_ok (n := 300) (tabA_ok extA_ok) (isV_eq (by decide +kernel))
end Go.Proofs
