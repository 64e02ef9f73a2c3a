/- V, proofs: the table of the texts; answers known by tables. Conditions: none. -/
import Derived.Test.YtglabjcjfjlkoaaGreatDoorF2
import Derived.Test.YtglabjcjfjlkoaaGreatDoorA4
set_option linter.unusedVariables false
set_option linter.unusedSimpArgs false
namespace Go.Proofs
open Go.V Go.RowKit

def tabE : Nat → Option VF
  | 3 => some v_L41_EvalPages
  | 4 => some v_L41_alive
  | 5 => some v_eval_Page
  | 6 => some v_R41_Page
  | 7 => some v_R41_Same
  | 8 => some v_eval_Naive
  | 9 => some v_segment_Build
  | 10 => some v_eval_Search
  | 11 => some v_eval_Examined
  | 12 => some v_score_Sort
  | 13 => some v_eval_results
  | 14 => some v_eval_Naive_1
  | 15 => some v_docs_Right
  | 16 => some v_trigram_Grams
  | 17 => some v_slices_Clone_Doc_Doc
  | 18 => some v_slices_SortFunc_Posting_Posting
  | 19 => some v_segment_Build_1
  | 20 => some v_eval_candidates
  | 21 => some v_eval_Search_1
  | 22 => some v_slices_Contains_int_int
  | 23 => some v_slices_Clone_Result_Result
  | 24 => some v_slices_SortStableFunc_Result_Result
  | 25 => some v_score_compare
  | 26 => some v_filter_Holds
  | 27 => some v_score_Score
  | 28 => some v_filter_Spans
  | 29 => some v_docs_check
  | 30 => some v_docs_key
  | 31 => some v_trigram_occurrences
  | 32 => some v_slices_SortFunc_Gram_Gram
  | 33 => some v_trigram_Grams_1
  | 34 => some v_slices_pdqsortCmpFunc_Posting
  | 35 => some v_math_bits_Len
  | 36 => some v_posting_Minus
  | 37 => some v_plan_Candidates
  | 38 => some v_slices_Index_int_int
  | 39 => some v_slices_stableCmpFunc_Result
  | 40 => some v_score_compare_1
  | 41 => some v_docs_Get
  | 42 => some v_cmp_Compare_int
  | 43 => some v_cmp_Or_int
  | 44 => some v_cmp_Compare_string
  | 45 => some v_query_Right
  | 46 => some v_filter_Holds_1
  | 47 => some v_slices_ContainsFunc_Query_Query
  | 48 => some v_filter_leaf
  | 49 => some v_query_Leaves
  | 50 => some v_slices_Contains_string_string
  | 51 => some v_text_Fold
  | 52 => some v_score_stem
  | 53 => some v_text_Words
  | 54 => some v_slices_Contains_Span_Span
  | 55 => some v_filter_Spans_1
  | 56 => some v_filter_places
  | 58 => some v_filter_Spans_2
  | 59 => some v_slices_Compact_Span_Span
  | 60 => some v_docs_name
  | 61 => some v_glob_ValidPath
  | 62 => some v_text_Valid
  | 63 => some v_trigram_code
  | 64 => some v_slices_pdqsortCmpFunc_Gram
  | 65 => some v_slices_insertionSortCmpFunc_Posting
  | 74 => some v_math_bits_Len64
  | 75 => some v_slices_DeleteFunc_int_int
  | 76 => some v_posting_unique_int
  | 77 => some v_posting_in
  | 78 => some v_segment_Eval
  | 79 => some v_plan_Need
  | 80 => some v_slices_insertionSortCmpFunc_Result
  | 82 => some v_cmp_isNaN_int
  | 83 => some v_cmp_isNaN_string
  | 84 => some v_query_shapes
  | 85 => some v_query_leaves
  | 86 => some v_query_size
  | 87 => some v_slices_IndexFunc_Query_Query
  | 88 => some v_locate_Find
  | 99 => some v_query_Leaves_1
  | 100 => some v_query_inner
  | 101 => some v_slices_Index_string_string
  | 102 => some v_glob_Base
  | 103 => some v_strings_LastIndexByte
  | 104 => some v_text_word
  | 105 => some v_slices_Index_Span_Span
  | 115 => some v_glob_letter
  | 116 => some v_slices_insertionSortCmpFunc_Gram
  | 129 => some v_slices_IndexFunc_int_int
  | 130 => some v_slices_Clone_int_int
  | 131 => some v_slices_Sort_int_int
  | 132 => some v_slices_Compact_int_int
  | 133 => some v_posting_in_1
  | 134 => some v_slices_BinarySearch_int_int
  | 135 => some v_regram_Right
  | 136 => some v_regram_Eval
  | 137 => some v_plan_Need_1
  | 138 => some v_plan_occur
  | 139 => some v_locate_Codes
  | 142 => some v_regram_Simplify
  | 143 => some v_normal_Simplify
  | 145 => some v_query_shape
  | 146 => some v_query_shapes_1
  | 147 => some v_query_leaf
  | 148 => some v_locate_folded
  | 171 => some v_internal_bytealg_LastIndexByteString
  | 197 => some v_slices_pdqsortOrdered_int
  | 198 => some v_cmp_Less_int
  | 199 => some v_slices_isNaN_int
  | 200 => some v_regram_valid
  | 201 => some v_regram_holds
  | 202 => some v_regram_Eval_1
  | 203 => some v_trigram_Code
  | 206 => some v_regram_simple
  | 207 => some v_normal_form
  | 208 => some v_normal_push
  | 210 => some v_query_formed
  | 226 => some v_strings_HasPrefix
  | 267 => some v_slices_insertionSortOrdered_int
  | 287 => some v_query_printable
  | 299 => some v_internal_stringslite_HasPrefix
  | _ => none
theorem tabE_ok {ext : Nat → List VV → Option VV} (he : ∀ f args r, ext f args = some r → PureC PR f args r) : TabOk PR tabE ext := by
  refine ⟨fun f vf h => ?_, he⟩
  unfold tabE at h
  split at h
  · cases h; exact m_L41_EvalPages
  · cases h; exact m_L41_alive
  · cases h; exact m_eval_Page
  · cases h; exact m_R41_Page
  · cases h; exact m_R41_Same
  · cases h; exact m_eval_Naive
  · cases h; exact m_segment_Build
  · cases h; exact m_eval_Search
  · cases h; exact m_eval_Examined
  · cases h; exact m_score_Sort
  · cases h; exact m_eval_results
  · cases h; exact m_eval_Naive_1
  · cases h; exact m_docs_Right
  · cases h; exact m_trigram_Grams
  · cases h; exact m_slices_Clone_Doc_Doc
  · cases h; exact m_slices_SortFunc_Posting_Posting
  · cases h; exact m_segment_Build_1
  · cases h; exact m_eval_candidates
  · cases h; exact m_eval_Search_1
  · cases h; exact m_slices_Contains_int_int
  · cases h; exact m_slices_Clone_Result_Result
  · cases h; exact m_slices_SortStableFunc_Result_Result
  · cases h; exact m_score_compare
  · cases h; exact m_filter_Holds
  · cases h; exact m_score_Score
  · cases h; exact m_filter_Spans
  · cases h; exact m_docs_check
  · cases h; exact m_docs_key
  · cases h; exact m_trigram_occurrences
  · cases h; exact m_slices_SortFunc_Gram_Gram
  · cases h; exact m_trigram_Grams_1
  · cases h; exact m_slices_pdqsortCmpFunc_Posting
  · cases h; exact m_math_bits_Len
  · cases h; exact m_posting_Minus
  · cases h; exact m_plan_Candidates
  · cases h; exact m_slices_Index_int_int
  · cases h; exact m_slices_stableCmpFunc_Result
  · cases h; exact m_score_compare_1
  · cases h; exact m_docs_Get
  · cases h; exact m_cmp_Compare_int
  · cases h; exact m_cmp_Or_int
  · cases h; exact m_cmp_Compare_string
  · cases h; exact m_query_Right
  · cases h; exact m_filter_Holds_1
  · cases h; exact m_slices_ContainsFunc_Query_Query
  · cases h; exact m_filter_leaf
  · cases h; exact m_query_Leaves
  · cases h; exact m_slices_Contains_string_string
  · cases h; exact m_text_Fold
  · cases h; exact m_score_stem
  · cases h; exact m_text_Words
  · cases h; exact m_slices_Contains_Span_Span
  · cases h; exact m_filter_Spans_1
  · cases h; exact m_filter_places
  · cases h; exact m_filter_Spans_2
  · cases h; exact m_slices_Compact_Span_Span
  · cases h; exact m_docs_name
  · cases h; exact m_glob_ValidPath
  · cases h; exact m_text_Valid
  · cases h; exact m_trigram_code
  · cases h; exact m_slices_pdqsortCmpFunc_Gram
  · cases h; exact m_slices_insertionSortCmpFunc_Posting
  · cases h; exact m_math_bits_Len64
  · cases h; exact m_slices_DeleteFunc_int_int
  · cases h; exact m_posting_unique_int
  · cases h; exact m_posting_in
  · cases h; exact m_segment_Eval
  · cases h; exact m_plan_Need
  · cases h; exact m_slices_insertionSortCmpFunc_Result
  · cases h; exact m_cmp_isNaN_int
  · cases h; exact m_cmp_isNaN_string
  · cases h; exact m_query_shapes
  · cases h; exact m_query_leaves
  · cases h; exact m_query_size
  · cases h; exact m_slices_IndexFunc_Query_Query
  · cases h; exact m_locate_Find
  · cases h; exact m_query_Leaves_1
  · cases h; exact m_query_inner
  · cases h; exact m_slices_Index_string_string
  · cases h; exact m_glob_Base
  · cases h; exact m_strings_LastIndexByte
  · cases h; exact m_text_word
  · cases h; exact m_slices_Index_Span_Span
  · cases h; exact m_glob_letter
  · cases h; exact m_slices_insertionSortCmpFunc_Gram
  · cases h; exact m_slices_IndexFunc_int_int
  · cases h; exact m_slices_Clone_int_int
  · cases h; exact m_slices_Sort_int_int
  · cases h; exact m_slices_Compact_int_int
  · cases h; exact m_posting_in_1
  · cases h; exact m_slices_BinarySearch_int_int
  · cases h; exact m_regram_Right
  · cases h; exact m_regram_Eval
  · cases h; exact m_plan_Need_1
  · cases h; exact m_plan_occur
  · cases h; exact m_locate_Codes
  · cases h; exact m_regram_Simplify
  · cases h; exact m_normal_Simplify
  · cases h; exact m_query_shape
  · cases h; exact m_query_shapes_1
  · cases h; exact m_query_leaf
  · cases h; exact m_locate_folded
  · cases h; exact m_internal_bytealg_LastIndexByteString
  · cases h; exact m_slices_pdqsortOrdered_int
  · cases h; exact m_cmp_Less_int
  · cases h; exact m_slices_isNaN_int
  · cases h; exact m_regram_valid
  · cases h; exact m_regram_holds
  · cases h; exact m_regram_Eval_1
  · cases h; exact m_trigram_Code
  · cases h; exact m_regram_simple
  · cases h; exact m_normal_form
  · cases h; exact m_normal_push
  · cases h; exact m_query_formed
  · cases h; exact m_strings_HasPrefix
  · cases h; exact m_slices_insertionSortOrdered_int
  · cases h; exact m_query_printable
  · cases h; exact m_internal_stringslite_HasPrefix
  · cases h
def noXq : Nat → List VV → Option VV := fun _ _ => none
theorem noXq_ok : ∀ f args r, noXq f args = some r → PureC PR f args r := fun f args r h => by cases h
theorem impQ_run {ext : Nat → List VV → Option VV} (T : TabOk PR tabE ext) {n f : Nat} {args : List VV} {ob ob' : List V.Obj} {r : VV} (h : impE tabE (exec tabE ext n) f args ob = some (r, ob')) : ImpC PR f args ob (fun v o => v = r ∧ o = ob') :=
  impE_ok T (exec_ok T n) h
/-! ### answers known, by a table -/
def entS (e : Nat × List VV × VV) (f : Nat) (args : List VV) : Bool := e.1 == f && eqVL e.2.1 args
def extT (T : List (Nat × List VV × VV)) (f : Nat) (args : List VV) : Option VV := match T.find? (fun e => entS e f args) with
  | some e => some e.2.2
  | none => none
def AllC (T : List (Nat × List VV × VV)) : Prop := ∀ e, e ∈ T → PureC PR e.1 e.2.1 e.2.2
theorem extT_ok {T : List (Nat × List VV × VV)} (hT : AllC T) : ∀ f args r, extT T f args = some r → PureC PR f args r := by
  intro f args r h
  unfold extT at h
  split at h
  · rename_i e he
    cases h
    have h1 := hT e (List.mem_of_find?_eq_some he)
    have h2 := List.find?_some he
    unfold entS at h2
    rw [Bool.and_eq_true] at h2
    rw [← eqVL_ok _ _ h2.2, ← eq_of_beq h2.1]
    exact h1
  · cases h
theorem allC_nil : AllC [] := fun e he => absurd he (by simp)
theorem allC_cons {f : Nat} {args : List VV} {r : VV} {T : List (Nat × List VV × VV)} (h : PureC PR f args r) (hT : AllC T) : AllC ((f, args, r) :: T) := by
  intro e he
  rcases List.mem_cons.1 he with rfl | he
  · exact h
  · exact hT e he
end Go.Proofs
