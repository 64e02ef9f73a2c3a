/- V, proofs: posting.unique, docs.Right, trigram's entries as the examples of chapter 41 call them. Conditions: none. -/
import Derived.Test.YtglabjcjfjlkoaaGreatDoorEV5
import Derived.Test.YtglabjcjfjlkoaaGreatDoorS2
set_option linter.unusedVariables false
set_option linter.unusedSimpArgs false
namespace Go.Proofs
open Go.V Go.RowKit

/-- posting.unique, its answer as data -/
def v_uniqueF : VF := { params := 1, ntmps := 10, results := [(2, none)], fresh := none, body := .seq (.reg [⟨some 2, none, .mov (.c (.nils))⟩] none) (.drop [0] none (.seq (.reg [⟨some 4, none, .mov (.t 0)⟩, ⟨some 5, none, .call 130 [(.t 4)] (some (some 0, 0))⟩, ⟨some 3, none, .mov (.t 5)⟩] none) (.drop [3] none (.seq (.reg [⟨some 6, none, .mov (.t 3)⟩, ⟨some 7, none, .call 131 [(.t 6)] none⟩] none) (.drop [3] none (.seq (.reg [⟨some 8, none, .mov (.t 3)⟩, ⟨some 9, none, .call 132 [(.t 8)] none⟩, ⟨some 2, none, .mov (.t 9)⟩] none) (.drop [2] none ((.own 2 (some 0) 0 (.ret)))))))))) }
theorem m_uniqueF : mFn PR n_posting_unique_int v_uniqueF = true := by decide +kernel
def tabU : Nat → Option VF := fun f => if f = n_posting_unique_int then some v_uniqueF else tabE f
theorem tabU_ok {ext : Nat → List VV → Option VV} (he : ∀ f args r, ext f args = some r → PureC PR f args r) : TabOk PR tabU ext := by
  refine ⟨fun f vf h => ?_, he⟩
  unfold tabU at h
  split at h
  · rename_i e
    cases h
    rw [e]
    exact m_uniqueF
  · exact (tabE_ok he).t f vf h
theorem c_unique2 : PureC PR n_posting_unique_int [.sl [.int .i64 2] 0] (.sl [.int .i64 2] 0) := runF_ok (n := 200) (tabU_ok noXq_ok) (isV_eq (by decide +kernel))
theorem c_Sort0 : PureC PR n_slices_Sort_int_int [.sl [] 0] (.tup []) := runF_ok (n := 200) (tabE_ok noXq_ok) (isV_eq (by decide +kernel))
theorem c_CompactI0 : PureC PR n_slices_Compact_int_int [.sl [] 0] (.sl [] 0) := runF_ok (n := 200) (tabE_ok noXq_ok) (isV_eq (by decide +kernel))
theorem c_CloneI_nil : ImpC PR n_slices_Clone_int_int [.sl [] 0] [] (fun r ob' => r = .sl [] 0 ∧ ob' = []) := by
  refine imp_of_wp m_slices_Clone_int_int rfl ?_
  unfold FnI
  have hv : v_slices_Clone_int_int.body = v_slices_Clone_int_int.body := rfl
  conv at hv => rhs; unfold v_slices_Clone_int_int
  rw [hv]
  clear hv
  simp only [go_sem]
  intro b
  have he : emptyO [Obj.tok 0 1] (VV.sl [] 2) = true := rfl
  cases b
  · simp only [go_sem, he, List.isEmpty_nil]
    refine endI_of 0 (.sl [] 0) (Nat.le_refl _) (Nat.zero_le _) rfl ?_ rfl ⟨rfl, rfl⟩
    rfl
  · simp only [go_sem]
    refine endI_of 0 (.sl [] 0) (Nat.le_refl _) (Nat.zero_le _) rfl ?_ rfl ⟨rfl, rfl⟩
    rfl
theorem c_unique0 : PureC PR n_posting_unique_int [.sl [] 0] (.sl [] 0) := by
  refine pure_of_wp m_uniqueF rfl (by decide) ?_
  unfold FnW
  have hv : v_uniqueF.body = v_uniqueF.body := rfl
  conv at hv => rhs; unfold v_uniqueF
  rw [hv]
  clear hv
  have hres : v_uniqueF.results = [(2, none)] := rfl
  have hfr : v_uniqueF.fresh = none := rfl
  simp only [go_sem]
  refine callW_det c_CloneI_nil (by simp only [go_sem]) (by simp only [go_sem]) (.inr rfl) ?_
  simp only [go_sem]
  refine callW_pure c_Sort0 (by simp only [go_sem]) (by simp only [go_sem]) ?_
  simp only [go_sem]
  refine callW_pure c_CompactI0 (by simp only [go_sem]) (by simp only [go_sem]) ?_
  simp only [go_sem, hres, hfr]
theorem sp1 : PureC PR n_strings_Split [.str [114], .str [47]] (.sl [.str [114]] 0) := c_strings_Split [114] 47 (by decide)
theorem sp2 : PureC PR n_strings_Split [.str [97], .str [47]] (.sl [.str [97]] 0) := c_strings_Split [97] 47 (by decide)
theorem sp3 : PureC PR n_strings_Split [.str [102, 111, 111, 46, 116, 120, 116], .str [47]] (.sl [.str [102, 111, 111, 46, 116, 120, 116]] 0) := c_strings_Split [102, 111, 111, 46, 116, 120, 116] 47 (by decide)
theorem sp4 : PureC PR n_strings_Split [.str [109, 97, 105, 110], .str [47]] (.sl [.str [109, 97, 105, 110]] 0) := c_strings_Split [109, 97, 105, 110] 47 (by decide)
theorem ct1 : PureC PR n_strings_Contains [.str [114], .str [47]] (.bool false) := c_strings_Contains [114] 47
theorem ct2 : PureC PR n_strings_Contains [.str [109, 97, 105, 110], .str [47]] (.bool false) := c_strings_Contains [109, 97, 105, 110] 47
def TR : List (Nat × List VV × VV) := [
  (n_strings_Split, [.str [114], .str [47]], .sl [.str [114]] 0),
  (n_strings_Split, [.str [97], .str [47]], .sl [.str [97]] 0),
  (n_strings_Split, [.str [102, 111, 111, 46, 116, 120, 116], .str [47]], .sl [.str [102, 111, 111, 46, 116, 120, 116]] 0),
  (n_strings_Split, [.str [109, 97, 105, 110], .str [47]], .sl [.str [109, 97, 105, 110]] 0),
  (n_strings_Contains, [.str [114], .str [47]], .bool false),
  (n_strings_Contains, [.str [109, 97, 105, 110], .str [47]], .bool false)]
theorem TR_ok : AllC TR := allC_cons sp1 (allC_cons sp2 (allC_cons sp3 (allC_cons sp4 (allC_cons ct1 (allC_cons ct2 allC_nil)))))
theorem c_Right : PureC PR n_docs_Right [.sl [dE1, dE2] 0] (.int .i64 0) := runF_ok (n := 300) (tabE_ok (extT_ok TR_ok)) (isV_eq (by decide +kernel))
end Go.Proofs
