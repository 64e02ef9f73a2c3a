/- V, proofs: slices.Clone on keys, saved.Sort. Conditions: the lists' lengths. -/
import Derived.Test.YtifahgjmdiandaaGreatDoorSS2
set_option linter.unusedVariables false
set_option linter.unusedSimpArgs false
namespace Go.Proofs
open Go.V Go.RowKit

theorem c_Clone_ky (l : List Ky) (h : l.length ≤ 1000000) : PureC PR n_slices_Clone_Key_Key [.sl (l.map eKy) 0] (.sl (l.map eKy) 1) := by
  refine pure_of_wp m_slices_Clone_Key_Key rfl (by simp [argOk_sl]) ?_
  unfold FnW v_slices_Clone_Key_Key
  cases l with
  | nil =>
    simp only [go_sem]
    intro b
    cases b
    · simp only [go_sem]
      rfl
    · simp only [go_sem]
      rfl
  | cons a r =>
    have h' : (r.length + 1) * 48 ≤ 35184372088832 := by simp at h; omega
    have hs := hd_ky r
    simp only [go_sem, h']
    simp [freshen, nthO, hdSz, eKy, VV.cells]
def isV2 (r : Option VV) (v : VV) : Prop := r = some v
def tabS : Nat → Option VF := fun f =>
  if f = n_slices_SortFunc_Key_Key then some v_slices_SortFunc_Key_Key
  else if f = n_slices_SortFunc_Alert_Alert then some v_slices_SortFunc_Alert_Alert
  else if f = n_slices_pdqsortCmpFunc_Key then some v_slices_pdqsortCmpFunc_Key
  else if f = n_slices_pdqsortCmpFunc_Alert then some v_slices_pdqsortCmpFunc_Alert
  else if f = n_slices_insertionSortCmpFunc_Key then some v_slices_insertionSortCmpFunc_Key
  else if f = n_slices_insertionSortCmpFunc_Alert then some v_slices_insertionSortCmpFunc_Alert
  else if f = n_math_bits_Len then some v_math_bits_Len
  else if f = n_math_bits_Len64 then some v_math_bits_Len64
  else if f = n_math_bits_Len32 then some v_math_bits_Len32
  else if f = n_slices_Compact_Key_Key then some v_slices_Compact_Key_Key
  else none
theorem tabS_ok : TabOk PR tabS (fun _ _ => none) := by
  refine ⟨fun f vf h => ?_, fun f args r h => by cases h⟩
  unfold tabS at h
  split at h
  · rename_i e; cases h; rw [e]; exact m_slices_SortFunc_Key_Key
  split at h
  · rename_i e; cases h; rw [e]; exact m_slices_SortFunc_Alert_Alert
  split at h
  · rename_i e; cases h; rw [e]; exact m_slices_pdqsortCmpFunc_Key
  split at h
  · rename_i e; cases h; rw [e]; exact m_slices_pdqsortCmpFunc_Alert
  split at h
  · rename_i e; cases h; rw [e]; exact m_slices_insertionSortCmpFunc_Key
  split at h
  · rename_i e; cases h; rw [e]; exact m_slices_insertionSortCmpFunc_Alert
  split at h
  · rename_i e; cases h; rw [e]; exact m_math_bits_Len
  split at h
  · rename_i e; cases h; rw [e]; exact m_math_bits_Len64
  split at h
  · rename_i e; cases h; rw [e]; exact m_math_bits_Len32
  split at h
  · rename_i e; cases h; rw [e]; exact m_slices_Compact_Key_Key
  · cases h
def isTup0 (r : Option VV) : Bool := match r with | some (.tup []) => true | _ => false
def isSl0 (r : Option VV) : Bool := match r with | some (.sl [] 0) => true | _ => false
theorem isTup0_eq {r : Option VV} (h : isTup0 r = true) : r = some (.tup []) := by
  unfold isTup0 at h
  split at h
  · rfl
  · cases h
theorem isSl0_eq {r : Option VV} (h : isSl0 r = true) : r = some (.sl [] 0) := by
  unfold isSl0 at h
  split at h
  · rfl
  · cases h
theorem c_SortFunc_ky0 : PureC PR n_slices_SortFunc_Key_Key [.sl [] 0, .fn n_saved_order []] (.tup []) :=
  runF_ok (n := 60) tabS_ok (isTup0_eq (by decide +kernel))
theorem c_SortFunc_al0 : PureC PR n_slices_SortFunc_Alert_Alert [.sl [] 0, .fn n_saved_Changes_1 []] (.tup []) :=
  runF_ok (n := 60) tabS_ok (isTup0_eq (by decide +kernel))
theorem c_Compact_ky0 : PureC PR n_slices_Compact_Key_Key [.sl [] 0] (.sl [] 0) :=
  runF_ok (n := 60) tabS_ok (isSl0_eq (by decide +kernel))
theorem callW_some {P : Program} {st : St} {k : St → Prop} {f : Nat} {args args' : List VV} {own : Option (Option Nat × Nat)} {d : Option Nat} {R : VV → List V.Obj → Prop} (h : ImpC P f args' st.ob R) (ha : args.map VV.strip = args') (hn : args.all VV.noTup = true) (ho : own = none ∨ (markOf own).isSome = true)
    (hk : ∀ r o, R r o → k { st with env := putD st.env d r, ob := o }) : CallW P f args own d st k := by
  subst ha
  exact Or.inr ⟨ho, hn, h.mono hk⟩
theorem ky_flat (l : List Ky) : (l.map eKy).flatMap VV.cells = l.flatMap kc := by
  induction l with
  | nil => rfl
  | cons b r ih => simp only [List.map_cons, List.flatMap_cons, ih, eKy, VV.cells, kc]
theorem frz_ky (l : List Ky) (rest : List VV) : frzEs 3 0 l.length (l.flatMap kc ++ rest) = l.map eKy := by
  simp only [frzEs, if_neg (show ¬ (3 = 0) by omega)]
  apply List.ext_getElem
  · simp
  · intro i h1 h2
    have hi : i < l.length := by simpa using h2
    simp only [List.getElem_map, List.getElem_range, Nat.zero_add]
    have hlen := kc_flat l
    have e : ((l.flatMap kc ++ rest).drop (i * 3)).take 3 = ((l.flatMap kc).drop (i * 3)).take 3 := by
      rw [List.drop_append_of_le_length (by omega), List.take_append_of_le_length (by rw [List.length_drop, kc_flat]; omega)]
    rw [e, flat_at l i hi]
    rfl

theorem c_saved_Sort (l : List Ky) (h : l.length ≤ 1000000) : PureC PR n_saved_Sort [.sl (l.map eKy) 0] (.sl ((sortK l).map eKy) 0) := by
  refine pure_of_wp m_saved_Sort rfl (by simp [argOk_sl]) ?_
  unfold FnW v_saved_Sort
  simp only [go_sem]
  refine callW_own (c_Clone_ky l h) (by simp only [go_sem]) (by simp only [go_sem]) (by simp only [go_sem]) ?_
  simp only [go_sem]
  cases l with
  | nil =>
    refine e_thaw (st' := _) rfl ?_
    simp only [go_sem]
    refine callW_pure c_SortFunc_ky0 (by simp only [go_sem]) (by simp only [go_sem]) ?_
    simp only [go_sem]
    refine callW_pure c_Compact_ky0 (by simp only [go_sem]) (by simp only [go_sem]) ?_
    simp only [go_sem]
    rfl
  | cons a r =>
    have hth : thawW ⟨⟨[(3, .sl ((a :: r).map eKy) 2)], [.tok (r.length + 1) 3]⟩, 0, [], true⟩ 3 = some ⟨⟨[(3, .row 0 0 (r.length + 1))], [.cells ((a :: r).flatMap kc)]⟩, 0, [], true⟩ := by
      have h1 := ky_flat (a :: r)
      have h2 : ((a :: r).map eKy).all (fun v => v.cells.all VV.scalC) = true := by simp [eKy, VV.cells, VV.scalC]
      simp only [thawW, V.get, if_true, List.map_cons, List.isEmpty_cons, Bool.false_eq_true, if_false, nthO, List.getD_cons_zero]
      simp only [List.map_cons] at h1 h2
      simp only [h1, h2, List.length_cons, List.length_map, and_self, if_true]
      rfl
    refine e_thaw (P := PR) hth ?_
    have hl : (a :: r).length = r.length + 1 := rfl
    simp only [go_sem]
    refine callW_det (c_SortFunc_ky (ob := _) (o := 0) (l := a :: r) h rfl) (by simp only [go_sem]) (by simp only [go_sem]) (.inl rfl) ?_
    have hil : (isort ltK (a :: r)).length = r.length + 1 := (isort_perm ltK (a :: r)).length_eq
    simp only [go_sem]
    refine callW_some (c_Compact (isort ltK (a :: r)) (by rw [hil]; simpa using h)) (by simp only [go_sem, hil]) (by simp only [go_sem]) (.inl rfl) ?_
    rintro v o ⟨rest, rfl, rfl⟩
    simp only [go_sem]
    have hfz := frz_ky (compactK (isort ltK (a :: r))) rest
    refine frz_row rfl (by rw [List.length_append, kc_flat]; simp) (by
      rw [hfz, List.all_eq_true]
      intro v hv
      obtain ⟨x, _, rfl⟩ := List.mem_map.1 hv
      exact eKy_canon x) ?_
    rw [hfz]
    simp only [go_sem, sortK]
end Go.Proofs
