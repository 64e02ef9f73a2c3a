/- V, proofs: score.compare and the document's Less. Conditions: the documents' number. -/
import Derived.Test.YteekodocdhapdaaGreatDoorSE2
set_option linter.unusedVariables false
set_option linter.unusedSimpArgs false
namespace Go.Proofs
open Go.V Go.RowKit

theorem c_compare (l : List Dc) {ob : List V.Obj} (hg : ob.all (Obj.idsB ob.length) = true) : ImpC PR n_score_compare [.sl (l.map eDc) 0] ob fun r ob' => r = .fn n_score_compare_1 [.ptr ob.length 0] ∧ ob' = ob ++ [.cells [.sl (l.map eDc) 0]] := by
  refine imp_of_wp m_score_compare rfl ?_
  unfold FnI
  have hv : v_score_compare.body = v_score_compare.body := rfl
  conv at hv => rhs; unfold v_score_compare
  rw [hv]
  clear hv
  simp only [go_sem]
  refine endI_of (ob.length + 1) (.fn n_score_compare_1 [.ptr ob.length 0]) (by omega) (by simp) ?_ (by simp only [v_score_compare, resOfL, resOf, outI]; rfl) (by simp [VV.ids, idsL]) ⟨rfl, by rw [List.take_of_length_le (by simp)]⟩
  rw [List.take_of_length_le (by simp), List.all_append, idsA_mono (Nat.le_succ _) hg]
  simp [Obj.idsB, VV.ids, idsL]
theorem neq_bb (a b : Bool) : (!(a == b)) = (a != b) := rfl
theorem c_R40_Less (l : List Dc) (hl : l.length ≤ maxLen) (a b : Rs) : PureC PR n_R40_Less [.sl (l.map eDc) 0, eRs a, eRs b] (.bool (lessR l a b)) := by
  refine pure_of_wp m_R40_Less rfl (by simp [argOk, eRs, rc, VV.noHnd, VV.noHnd0, VV.ids, idsL]) ?_
  unfold FnW
  have hv : v_R40_Less.body = v_R40_Less.body := rfl
  conv at hv => rhs; unfold v_R40_Less
  rw [hv]
  clear hv
  have hres : v_R40_Less.results = [(6, none)] := rfl
  have hfr : v_R40_Less.fresh = none := rfl
  rw [← lessQ_eq]
  have hq : lessQ l a b = (if ((getS l a.doc).isSome != (getS l b.doc).isSome) = true then (getS l a.doc).isSome
      else if (a.sc != b.sc) = true then decide (b.sc < a.sc)
      else if ((getS l a.doc).isSome && !((docOr l a.doc).repo == (docOr l b.doc).repo)) = true then strLess (docOr l a.doc).repo (docOr l b.doc).repo
      else if ((getS l a.doc).isSome && !((docOr l a.doc).path == (docOr l b.doc).path)) = true then strLess (docOr l a.doc).path (docOr l b.doc).path
      else if ((getS l a.doc).isSome && !((docOr l a.doc).text == (docOr l b.doc).text)) = true then strLess (docOr l a.doc).text (docOr l b.doc).text
      else decide (a.doc < b.doc)) := by
    unfold lessQ
    simp only [fld_doc l Dc.repo rfl, fld_doc l Dc.path rfl, fld_doc l Dc.text rfl]
  rw [hq]
  simp only [go_sem, eRs, rc]
  refine callW_pure (c_R28_Get l a.doc hl) (by simp only [go_sem]) (by simp only [go_sem]) ?_
  simp only [go_sem, eDc]
  refine callW_pure (c_R28_Get l b.doc hl) (by simp only [go_sem]) (by simp only [go_sem]) ?_
  simp only [go_sem, eDc]
  refine if_s (fun h => ?_) (fun h => ?_) <;> simp only [go_sem, hres, hfr]
  · have hne : ((getS l a.doc).isSome != (getS l b.doc).isSome) = true := h
    rw [if_pos hne]
  rw [if_neg (by rw [show ((getS l a.doc).isSome != (getS l b.doc).isSome) = false from h]; decide)]
  refine if_s (fun h2 => ?_) (fun h2 => ?_) <;> simp only [go_sem, hres, hfr]
  · rw [if_pos h2]
  rw [if_neg (by rw [h2]; decide)]
  cases hs : (getS l a.doc).isSome with
  | false =>
    simp only [go_sem, hres, hfr]
    simp
  | true =>
    simp only [go_sem]
    refine if_s (fun h3 => ?_) (fun h3 => ?_) <;> simp only [go_sem, hres, hfr]
    · rw [if_pos (by simpa using h3)]
    rw [if_neg (by simpa using h3)]
    refine if_s (fun h4 => ?_) (fun h4 => ?_) <;> simp only [go_sem, hres, hfr]
    · rw [if_pos (by simpa using h4)]
    rw [if_neg (by simpa using h4)]
    refine if_s (fun h5 => ?_) (fun h5 => ?_) <;> simp only [go_sem, hres, hfr]
    · rw [if_pos (by simpa using h5)]
    rw [if_neg (by simpa using h5)]
end Go.Proofs
