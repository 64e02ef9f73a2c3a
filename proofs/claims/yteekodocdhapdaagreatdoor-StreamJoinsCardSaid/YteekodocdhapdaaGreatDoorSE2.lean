/- V, proofs: the comparison that score.compare returns, bound to the boxed documents. Conditions: the documents' number. -/
import Derived.Test.YteekodocdhapdaaGreatDoorSE1
set_option linter.unusedVariables false
set_option linter.unusedSimpArgs false
namespace Go.Proofs
open Go.V Go.RowKit

theorem fld_doc (l : List Dc) (f : Dc → List UInt8) (h : f noDc = []) (r : Rs) : fldS l f r = f (docOr l r.doc) := by
  unfold fldS docOr
  cases getS l r.doc with
  | none => exact h.symm
  | some d => rfl
theorem cmpR_ne {l : List Dc} {a b : Rs} (h : (!((getS l a.doc).isSome == (getS l b.doc).isSome)) = true) : cmpR l a b = if (getS l a.doc).isSome = true then -1 else 1 := by
  unfold cmpR
  exact if_pos h
theorem cmpR_eq {l : List Dc} {a b : Rs} (h : (!((getS l a.doc).isSome == (getS l b.doc).isSome)) = false) :
    cmpR l a b = orL [if ((getS l a.doc).isSome && (cmpI b.sc a.sc == 0)) = true then orL [cmpB (docOr l a.doc).repo (docOr l b.doc).repo, cmpB (docOr l a.doc).path (docOr l b.doc).path, cmpB (docOr l a.doc).text (docOr l b.doc).text] else cmpI b.sc a.sc, cmpI a.doc b.doc] := by
  unfold cmpR
  rw [if_neg (by rw [show ((getS l a.doc).isSome != (getS l b.doc).isSome) = false from h]; decide)]
  simp only [fld_doc l Dc.repo rfl, fld_doc l Dc.path rfl, fld_doc l Dc.text rfl]
theorem eRs_fold (r : Rs) : VV.agg [.int .i64 r.doc, .int .i64 r.sc, .sl (r.sp.map eSp) 0] = eRs r := rfl

theorem c_cmp_row {l : List Dc} (hl : l.length ≤ maxLen) (a b : Rs) {X : List VV} (hX : idsL 3 X = true) :
    ImpC PR n_score_compare_1 [eRs a, eRs b, .ptr 2 0] [.tok 0 3, .cells X, .cells [.sl (l.map eDc) 0]] fun r ob' => r = .int .i64 (cmpR l a b) ∧ ob' = [.tok 0 3, .cells X, .cells [.sl (l.map eDc) 0]] := by
  refine imp_of_wp m_score_compare_1 rfl ?_
  have fin : ∀ (env : List (Nat × VV)) (r : List V.Obj) (x : Int), get env 5 = .int .i64 x → x = cmpR l a b →
      EndI v_score_compare_1 3 (fun r ob' => r = .int .i64 (cmpR l a b) ∧ ob' = [.tok 0 3, .cells X, .cells [.sl (l.map eDc) 0]]) .ret ⟨⟨env, [.tok 0 3, .cells X, .cells [.sl (l.map eDc) 0]] ++ r⟩, 3, [], false⟩ := fun env r x h1 h2 => by
    refine endI_of 3 (.int .i64 x) (Nat.le_refl _) (by simp) ?_ ?_ rfl ⟨by rw [h2], rfl⟩
    · simp [Obj.idsB, VV.ids, idsL, hX]
    · simp only [v_score_compare_1, resOfL, resOf, h1, outI]; rfl
  unfold FnI
  have hv : v_score_compare_1.body = v_score_compare_1.body := rfl
  conv at hv => rhs; unfold v_score_compare_1
  rw [hv]
  clear hv
  simp only [go_sem, eRs, rc]
  refine callW_pure (c_Get l a.doc hl) (by simp only [go_sem]) (by simp only [go_sem]) ?_
  simp only [go_sem, eDc]
  refine callW_pure (c_Get l b.doc hl) (by simp only [go_sem]) (by simp only [go_sem]) ?_
  simp only [go_sem, eDc]
  refine if_s (fun h => ?_) (fun h => ?_) <;> simp only [go_sem]
  · have hc := cmpR_ne h
    refine if_s (fun h2 => ?_) (fun h2 => ?_) <;> simp only [go_sem]
    · exact fin _ [_, _, _, _] (-1) rfl (by rw [hc, if_pos h2])
    · exact fin _ [_, _, _, _] 1 rfl (by rw [hc, if_neg (by rw [h2]; decide)])
  have hc := cmpR_eq h
  refine callW_pure (c_cmpI b.sc a.sc) (by simp only [go_sem]) (by simp only [go_sem]) ?_
  simp only [go_sem]
  cases hs : (getS l a.doc).isSome with
  | false =>
    rw [hs] at hc
    simp only [go_sem]
    refine callW_pure (c_cmpI a.doc b.doc) (by simp only [go_sem]) (by simp only [go_sem]) ?_
    simp only [go_sem]
    refine callW_pure (c_orL [cmpI b.sc a.sc, cmpI a.doc b.doc] (by rw [maxLen_eq]; simp)) (by simp only [go_sem]) (by simp only [go_sem]) ?_
    simp only [go_sem]
    exact fin _ [_, _, _, _] _ rfl (by rw [hc]; simp)
  | true =>
    rw [hs] at hc
    simp only [go_sem]
    refine if_s (fun h3 => ?_) (fun h3 => ?_)
    · simp only [go_sem]
      refine callD_pure (c_cmpB (docOr l a.doc).repo (docOr l b.doc).repo) (by simp only [go_sem]) (by simp only [go_sem]) ?_
      simp only [go_sem]
      refine callD_pure (c_cmpB (docOr l a.doc).path (docOr l b.doc).path) (by simp only [go_sem]) (by simp only [go_sem]) ?_
      simp only [go_sem]
      refine callD_pure (c_cmpB (docOr l a.doc).text (docOr l b.doc).text) (by simp only [go_sem]) (by simp only [go_sem]) ?_
      simp only [go_sem]
      refine callD_pure (c_orL [cmpB (docOr l a.doc).repo (docOr l b.doc).repo, cmpB (docOr l a.doc).path (docOr l b.doc).path, cmpB (docOr l a.doc).text (docOr l b.doc).text] (by rw [maxLen_eq]; simp)) (by simp only [go_sem]) (by simp only [go_sem]) ?_
      simp only [go_sem]
      refine callW_pure (c_cmpI a.doc b.doc) (by simp only [go_sem]) (by simp only [go_sem]) ?_
      simp only [go_sem]
      refine callW_pure (c_orL [orL [cmpB (docOr l a.doc).repo (docOr l b.doc).repo, cmpB (docOr l a.doc).path (docOr l b.doc).path, cmpB (docOr l a.doc).text (docOr l b.doc).text], cmpI a.doc b.doc] (by rw [maxLen_eq]; simp)) (by simp only [go_sem]) (by simp only [go_sem]) ?_
      simp only [go_sem]
      exact fin _ [_, _, _, _] _ rfl (by rw [hc, if_pos (by simpa using h3)])
    · simp only [go_sem]
      refine callW_pure (c_cmpI a.doc b.doc) (by simp only [go_sem]) (by simp only [go_sem]) ?_
      simp only [go_sem]
      refine callW_pure (c_orL [cmpI b.sc a.sc, cmpI a.doc b.doc] (by rw [maxLen_eq]; simp)) (by simp only [go_sem]) (by simp only [go_sem]) ?_
      simp only [go_sem]
      exact fin _ [_, _, _, _] _ rfl (by rw [hc, if_neg (by simpa using h3)])

theorem c_cmp_two {l : List Dc} (hl : l.length ≤ maxLen) (a b : Rs) {X Y : List VV} (hX : idsL 3 X = true) (hY : idsL 3 Y = true) :
    ImpC PR n_score_compare_1 [eRs a, eRs b, .ptr 2 0] [.cells X, .cells Y, .cells [.sl (l.map eDc) 0]] fun r ob' => r = .int .i64 (cmpR l a b) ∧ ob' = [.cells X, .cells Y, .cells [.sl (l.map eDc) 0]] := by
  refine imp_of_wp m_score_compare_1 rfl ?_
  have fin : ∀ (env : List (Nat × VV)) (r : List V.Obj) (x : Int), get env 5 = .int .i64 x → x = cmpR l a b →
      EndI v_score_compare_1 3 (fun r ob' => r = .int .i64 (cmpR l a b) ∧ ob' = [.cells X, .cells Y, .cells [.sl (l.map eDc) 0]]) .ret ⟨⟨env, [.cells X, .cells Y, .cells [.sl (l.map eDc) 0]] ++ r⟩, 3, [], false⟩ := fun env r x h1 h2 => by
    refine endI_of 3 (.int .i64 x) (Nat.le_refl _) (by simp) ?_ ?_ rfl ⟨by rw [h2], rfl⟩
    · simp [Obj.idsB, VV.ids, idsL, hX, hY]
    · simp only [v_score_compare_1, resOfL, resOf, h1, outI]; rfl
  unfold FnI
  have hv : v_score_compare_1.body = v_score_compare_1.body := rfl
  conv at hv => rhs; unfold v_score_compare_1
  rw [hv]
  clear hv
  simp only [go_sem, eRs, rc]
  refine callW_pure (c_Get l a.doc hl) (by simp only [go_sem]) (by simp only [go_sem]) ?_
  simp only [go_sem, eDc]
  refine callW_pure (c_Get l b.doc hl) (by simp only [go_sem]) (by simp only [go_sem]) ?_
  simp only [go_sem, eDc]
  refine if_s (fun h => ?_) (fun h => ?_) <;> simp only [go_sem]
  · have hc := cmpR_ne h
    refine if_s (fun h2 => ?_) (fun h2 => ?_) <;> simp only [go_sem]
    · exact fin _ [_, _, _, _] (-1) rfl (by rw [hc, if_pos h2])
    · exact fin _ [_, _, _, _] 1 rfl (by rw [hc, if_neg (by rw [h2]; decide)])
  have hc := cmpR_eq h
  refine callW_pure (c_cmpI b.sc a.sc) (by simp only [go_sem]) (by simp only [go_sem]) ?_
  simp only [go_sem]
  cases hs : (getS l a.doc).isSome with
  | false =>
    rw [hs] at hc
    simp only [go_sem]
    refine callW_pure (c_cmpI a.doc b.doc) (by simp only [go_sem]) (by simp only [go_sem]) ?_
    simp only [go_sem]
    refine callW_pure (c_orL [cmpI b.sc a.sc, cmpI a.doc b.doc] (by rw [maxLen_eq]; simp)) (by simp only [go_sem]) (by simp only [go_sem]) ?_
    simp only [go_sem]
    exact fin _ [_, _, _, _] _ rfl (by rw [hc]; simp)
  | true =>
    rw [hs] at hc
    simp only [go_sem]
    refine if_s (fun h3 => ?_) (fun h3 => ?_)
    · simp only [go_sem]
      refine callD_pure (c_cmpB (docOr l a.doc).repo (docOr l b.doc).repo) (by simp only [go_sem]) (by simp only [go_sem]) ?_
      simp only [go_sem]
      refine callD_pure (c_cmpB (docOr l a.doc).path (docOr l b.doc).path) (by simp only [go_sem]) (by simp only [go_sem]) ?_
      simp only [go_sem]
      refine callD_pure (c_cmpB (docOr l a.doc).text (docOr l b.doc).text) (by simp only [go_sem]) (by simp only [go_sem]) ?_
      simp only [go_sem]
      refine callD_pure (c_orL [cmpB (docOr l a.doc).repo (docOr l b.doc).repo, cmpB (docOr l a.doc).path (docOr l b.doc).path, cmpB (docOr l a.doc).text (docOr l b.doc).text] (by rw [maxLen_eq]; simp)) (by simp only [go_sem]) (by simp only [go_sem]) ?_
      simp only [go_sem]
      refine callW_pure (c_cmpI a.doc b.doc) (by simp only [go_sem]) (by simp only [go_sem]) ?_
      simp only [go_sem]
      refine callW_pure (c_orL [orL [cmpB (docOr l a.doc).repo (docOr l b.doc).repo, cmpB (docOr l a.doc).path (docOr l b.doc).path, cmpB (docOr l a.doc).text (docOr l b.doc).text], cmpI a.doc b.doc] (by rw [maxLen_eq]; simp)) (by simp only [go_sem]) (by simp only [go_sem]) ?_
      simp only [go_sem]
      exact fin _ [_, _, _, _] _ rfl (by rw [hc, if_pos (by simpa using h3)])
    · simp only [go_sem]
      refine callW_pure (c_cmpI a.doc b.doc) (by simp only [go_sem]) (by simp only [go_sem]) ?_
      simp only [go_sem]
      refine callW_pure (c_orL [cmpI b.sc a.sc, cmpI a.doc b.doc] (by rw [maxLen_eq]; simp)) (by simp only [go_sem]) (by simp only [go_sem]) ?_
      simp only [go_sem]
      exact fin _ [_, _, _, _] _ rfl (by rw [hc, if_neg (by simpa using h3)])

theorem c_cmp_tok {l : List Dc} (hl : l.length ≤ maxLen) (a b : Rs) (n : Nat) :
    ImpC PR n_score_compare_1 [eRs a, eRs b, .ptr 0 0] [.cells [.sl (l.map eDc) 0], .tok n 3] fun r ob' => r = .int .i64 (cmpR l a b) ∧ ob' = [.cells [.sl (l.map eDc) 0], .tok n 3] := by
  refine imp_of_wp m_score_compare_1 rfl ?_
  have fin : ∀ (env : List (Nat × VV)) (r : List V.Obj) (x : Int), get env 5 = .int .i64 x → x = cmpR l a b →
      EndI v_score_compare_1 2 (fun r ob' => r = .int .i64 (cmpR l a b) ∧ ob' = [.cells [.sl (l.map eDc) 0], .tok n 3]) .ret ⟨⟨env, [.cells [.sl (l.map eDc) 0], .tok n 3] ++ r⟩, 2, [], false⟩ := fun env r x h1 h2 => by
    refine endI_of 2 (.int .i64 x) (Nat.le_refl _) (by simp) ?_ ?_ rfl ⟨by rw [h2], rfl⟩
    · simp [Obj.idsB, VV.ids, idsL]
    · simp only [v_score_compare_1, resOfL, resOf, h1, outI]; rfl
  unfold FnI
  have hv : v_score_compare_1.body = v_score_compare_1.body := rfl
  conv at hv => rhs; unfold v_score_compare_1
  rw [hv]
  clear hv
  simp only [go_sem, eRs, rc]
  refine callW_pure (c_Get l a.doc hl) (by simp only [go_sem]) (by simp only [go_sem]) ?_
  simp only [go_sem, eDc]
  refine callW_pure (c_Get l b.doc hl) (by simp only [go_sem]) (by simp only [go_sem]) ?_
  simp only [go_sem, eDc]
  refine if_s (fun h => ?_) (fun h => ?_) <;> simp only [go_sem]
  · have hc := cmpR_ne h
    refine if_s (fun h2 => ?_) (fun h2 => ?_) <;> simp only [go_sem]
    · exact fin _ [_, _, _, _] (-1) rfl (by rw [hc, if_pos h2])
    · exact fin _ [_, _, _, _] 1 rfl (by rw [hc, if_neg (by rw [h2]; decide)])
  have hc := cmpR_eq h
  refine callW_pure (c_cmpI b.sc a.sc) (by simp only [go_sem]) (by simp only [go_sem]) ?_
  simp only [go_sem]
  cases hs : (getS l a.doc).isSome with
  | false =>
    rw [hs] at hc
    simp only [go_sem]
    refine callW_pure (c_cmpI a.doc b.doc) (by simp only [go_sem]) (by simp only [go_sem]) ?_
    simp only [go_sem]
    refine callW_pure (c_orL [cmpI b.sc a.sc, cmpI a.doc b.doc] (by rw [maxLen_eq]; simp)) (by simp only [go_sem]) (by simp only [go_sem]) ?_
    simp only [go_sem]
    exact fin _ [_, _, _, _] _ rfl (by rw [hc]; simp)
  | true =>
    rw [hs] at hc
    simp only [go_sem]
    refine if_s (fun h3 => ?_) (fun h3 => ?_)
    · simp only [go_sem]
      refine callD_pure (c_cmpB (docOr l a.doc).repo (docOr l b.doc).repo) (by simp only [go_sem]) (by simp only [go_sem]) ?_
      simp only [go_sem]
      refine callD_pure (c_cmpB (docOr l a.doc).path (docOr l b.doc).path) (by simp only [go_sem]) (by simp only [go_sem]) ?_
      simp only [go_sem]
      refine callD_pure (c_cmpB (docOr l a.doc).text (docOr l b.doc).text) (by simp only [go_sem]) (by simp only [go_sem]) ?_
      simp only [go_sem]
      refine callD_pure (c_orL [cmpB (docOr l a.doc).repo (docOr l b.doc).repo, cmpB (docOr l a.doc).path (docOr l b.doc).path, cmpB (docOr l a.doc).text (docOr l b.doc).text] (by rw [maxLen_eq]; simp)) (by simp only [go_sem]) (by simp only [go_sem]) ?_
      simp only [go_sem]
      refine callW_pure (c_cmpI a.doc b.doc) (by simp only [go_sem]) (by simp only [go_sem]) ?_
      simp only [go_sem]
      refine callW_pure (c_orL [orL [cmpB (docOr l a.doc).repo (docOr l b.doc).repo, cmpB (docOr l a.doc).path (docOr l b.doc).path, cmpB (docOr l a.doc).text (docOr l b.doc).text], cmpI a.doc b.doc] (by rw [maxLen_eq]; simp)) (by simp only [go_sem]) (by simp only [go_sem]) ?_
      simp only [go_sem]
      exact fin _ [_, _, _, _] _ rfl (by rw [hc, if_pos (by simpa using h3)])
    · simp only [go_sem]
      refine callW_pure (c_cmpI a.doc b.doc) (by simp only [go_sem]) (by simp only [go_sem]) ?_
      simp only [go_sem]
      refine callW_pure (c_orL [cmpI b.sc a.sc, cmpI a.doc b.doc] (by rw [maxLen_eq]; simp)) (by simp only [go_sem]) (by simp only [go_sem]) ?_
      simp only [go_sem]
      exact fin _ [_, _, _, _] _ rfl (by rw [hc, if_neg (by simpa using h3)])
end Go.Proofs
