/- V, proofs: the chapter's examples hold: the run of alive. Conditions: none. -/
import Derived.Test.YtlngaccdjnmgeaaDoorGC3
set_option linter.unusedVariables false
namespace Go.Proofs
open Go.V Go.RowKit

def tab2 : Nat → Option VF
  | 3 => some v_L44_AccessFirst
  | 4 => some v_L44_AccessBehind
  | 5 => some v_L44_AccessSplits
  | 6 => some v_L44_alive
  | 7 => some v_L44_small
  | 8 => some v_access_Deciding
  | 9 => some v_access_Can
  | 10 => some v_access_Right
  | 11 => some v_L44_applies
  | 12 => some v_L44_short
  | 13 => some v_access_Revoked
  | 14 => some v_R43_In
  | 15 => some v_access_Docs
  | 16 => some v_L44_example
  | 17 => some v_R44_SameInts
  | 18 => some v_access_Readers
  | 19 => some v_access_Same
  | 20 => some v_access_applies
  | 21 => some v_group_Right
  | 22 => some v_access_Right_1
  | 23 => some v_slices_ContainsFunc_Group_Group
  | 25 => some v_glob_ValidPath
  | 26 => some v_glob_Right
  | 27 => some v_R02_Match
  | 28 => some v_R05_In
  | 29 => some v_R43_Users
  | 30 => some v_slices_EqualFunc_Group_Group_Group_Group
  | 31 => some v_access_sameGroup
  | 32 => some v_slices_Equal_Rule_Rule
  | 33 => some v_glob_Match
  | 34 => some v_group_In
  | 35 => some v_group_one
  | 36 => some v_group_contained
  | 37 => some v_group_Depth
  | 38 => some v_slices_IndexFunc_Group_Group
  | 41 => some v_glob_letter
  | 42 => some v_glob_parse
  | 43 => some v_R02_Right
  | 44 => some v_R02_elems
  | 45 => some v_R02_step
  | 46 => some v_R43_inside
  | 47 => some v_R43_at
  | 48 => some v_R05_Or
  | 49 => some v_slices_Equal_int_int
  | 50 => some v_slices_Equal_string_string
  | 51 => some v_glob_element_stands
  | 52 => some v_slices_Contains_int_int
  | 53 => some v_group_Users
  | 54 => some v_group_find
  | 55 => some v_slices_Contains_string_string
  | 56 => some v_group_contained_1
  | 57 => some v_group_Depth_1
  | 60 => some v_strings_HasPrefix
  | 62 => some v_glob_set
  | 63 => some v_glob_printable
  | 64 => some v_R02_set
  | 65 => some v_R02_one
  | 66 => some v_R26_PutText
  | 67 => some v_R43_below
  | 68 => some v_R05_Put
  | 69 => some v_slices_Index_int_int
  | 70 => some v_slices_Clone_int_int
  | 73 => some v_slices_Index_string_string
  | 80 => some v_internal_stringslite_HasPrefix
  | _ => none
theorem tab2_ok {ext : Nat → List VV → Option VV} (he : ∀ f args r, ext f args = some r → PureC PR f args r) : TabOk PR tab2 ext := by
  refine ⟨fun f vf h => ?_, he⟩
  unfold tab2 at h
  split at h
  · cases h; exact m_L44_AccessFirst
  · cases h; exact m_L44_AccessBehind
  · cases h; exact m_L44_AccessSplits
  · cases h; exact m_L44_alive
  · cases h; exact m_L44_small
  · cases h; exact m_access_Deciding
  · cases h; exact m_access_Can
  · cases h; exact m_access_Right
  · cases h; exact m_L44_applies
  · cases h; exact m_L44_short
  · cases h; exact m_access_Revoked
  · cases h; exact m_R43_In
  · cases h; exact m_access_Docs
  · cases h; exact m_L44_example
  · cases h; exact m_R44_SameInts
  · cases h; exact m_access_Readers
  · cases h; exact m_access_Same
  · cases h; exact m_access_applies
  · cases h; exact m_group_Right
  · cases h; exact m_access_Right_1
  · cases h; exact m_slices_ContainsFunc_Group_Group
  · cases h; exact m_glob_ValidPath
  · cases h; exact m_glob_Right
  · cases h; exact m_R02_Match
  · cases h; exact m_R05_In
  · cases h; exact m_R43_Users
  · cases h; exact m_slices_EqualFunc_Group_Group_Group_Group
  · cases h; exact m_access_sameGroup
  · cases h; exact m_slices_Equal_Rule_Rule
  · cases h; exact m_glob_Match
  · cases h; exact m_group_In
  · cases h; exact m_group_one
  · cases h; exact m_group_contained
  · cases h; exact m_group_Depth
  · cases h; exact m_slices_IndexFunc_Group_Group
  · cases h; exact m_glob_letter
  · cases h; exact m_glob_parse
  · cases h; exact m_R02_Right
  · cases h; exact m_R02_elems
  · cases h; exact m_R02_step
  · cases h; exact m_R43_inside
  · cases h; exact m_R43_at
  · cases h; exact m_R05_Or
  · cases h; exact m_slices_Equal_int_int
  · cases h; exact m_slices_Equal_string_string
  · cases h; exact m_glob_element_stands
  · cases h; exact m_slices_Contains_int_int
  · cases h; exact m_group_Users
  · cases h; exact m_group_find
  · cases h; exact m_slices_Contains_string_string
  · cases h; exact m_group_contained_1
  · cases h; exact m_group_Depth_1
  · cases h; exact m_strings_HasPrefix
  · cases h; exact m_glob_set
  · cases h; exact m_glob_printable
  · cases h; exact m_R02_set
  · cases h; exact m_R02_one
  · cases h; exact m_R26_PutText
  · cases h; exact m_R43_below
  · cases h; exact m_R05_Put
  · cases h; exact m_slices_Index_int_int
  · cases h; exact m_slices_Clone_int_int
  · cases h; exact m_slices_Index_string_string
  · cases h; exact m_internal_stringslite_HasPrefix
  · cases h
theorem alive_run : isV (runF tab2 ext3 4000 n_L44_alive []) (.bool true) = true := by decide +kernel
theorem alive : PureC PR n_L44_alive [] (.bool true) := runF_ok (tab2_ok ext3_ok) (isV_eq alive_run)
end Go.Proofs
