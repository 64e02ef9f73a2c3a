/- V, proofs: saved.Changes. Conditions: the lists' lengths. -/
import Derived.Test.YtifahgjmdiandaaGreatDoorSA7
set_option linter.unusedVariables false
set_option linter.unusedSimpArgs false
namespace Go.Proofs
open Go.V Go.RowKit

theorem al_flat (l : List Al) : (l.map eAl).flatMap VV.cells = l.flatMap ac := by
  induction l with
  | nil => rfl
  | cons b r ih => simp only [List.map_cons, List.flatMap_cons, ih, eAl, VV.cells, ac]
theorem ac_flat (l : List Al) : (l.flatMap ac).length = l.length * 4 := flr_len ac_len l
theorem frz_al (l : List Al) : frzEs 4 0 l.length (l.flatMap ac) = l.map eAl := by
  simp only [frzEs, if_neg (show ¬ (4 = 0) by omega)]
  apply List.ext_getElem
  · simp
  · intro i h1 h2
    have hi : i < l.length := by simpa using h2
    simp only [List.getElem_map, List.getElem_range, Nat.zero_add]
    rw [flat_drop ac_len, List.drop_eq_getElem_cons hi, List.flatMap_cons]
    rfl

theorem c_Changes (id : Int) (old found : List Ky) (ho : old.length ≤ 100000) (hf : found.length ≤ 100000) :
    PureC PR n_saved_Changes [.int .i64 id, .sl (old.map eKy) 0, .sl (found.map eKy) 0] (.sl ((changesS id old found).map eAl) 0) := by
  refine pure_of_wp m_saved_Changes rfl (by simp [argOk_sl, argOk_int]) ?_
  unfold FnW v_saved_Changes
  simp only [go_sem]
  refine callW_pure (c_saved_Sort old (by omega)) (by simp only [go_sem]) (by simp only [go_sem]) ?_
  simp only [go_sem]
  refine callW_pure (c_saved_Sort found (by omega)) (by simp only [go_sem]) (by simp only [go_sem]) ?_
  simp only [go_sem]
  have hS : changesS id old found = isort ltA ((sidesM (sortK old) (sortK found)).filterMap (alertS id)) := rfl
  rw [hS]
  have hsa := sortK_strict old
  have hsb := sortK_strict found
  have hla := sortK_len old
  have hlb := sortK_len found
  generalize sortK old = a at *
  generalize sortK found = b at *
  have hone := oneP_sides a b
  have hslen := sides_len a b
  have ham : a.length ≤ maxLen := by rw [maxLen_eq]; omega
  have hbm : b.length ≤ maxLen := by rw [maxLen_eq]; omega
  refine v_for (α := Nat) (base := 0) (marks := []) (pu := true) (good := fun i => i ≤ a.length) (m := fun i => a.length - i)
    (E := fun i => [(0, .int .i64 id), (7, .sl (a.map eKy) 0), (8, .sl (b.map eKy) 0), (9, .mp 0), (25, .sl (a.map eKy) 0), (26, .int .i64 a.length), (27, .int .i64 i)]) (O := fun i => [.map (eM ((a.take i).foldl (stepO b) []))])
    (by intro i _; simp [go_sem, Obj.idsB]) rfl ?_ 0 _ (by omega) rfl rfl rfl rfl rfl
  intro i hi
  simp only [go_sem]
  refine if_s (fun ht => ?_) (fun hfa => ?_)
  · have hlt := len_lt ht
    have gi := get_map eKy hlt
    have hst : (a.take (i + 1)).foldl (stepO b) [] = stepO b ((a.take i).foldl (stepO b) []) a[i] := foldl_take hlt
    generalize (a.take i).foldl (stepO b) [] = m at *
    have hpl : (⟨a[i].repo, a[i].path⟩ : Pl) = pl a[i] := rfl
    simp only [go_sem, gi, find_M, getS_M, hpl, fitsL, Bool.not_true]
    generalize hs : getS (pl a[i]) m = s at *
    cases hd : s.differ with
    | true =>
      simp only [go_sem, put_M, hpl, fitsL, Bool.not_true, VV.canon, VV.canon0]
      refine ⟨i + 1, by omega, by simp only; omega, by simp only [go_sem, wrap_len hlt ham], ?_, rfl, rfl, rfl⟩
      simp only [go_sem, hst, stepO, hs, hd]
    | false =>
      simp only [go_sem, eKy_fold]
      refine callW_pure (c_has b a[i] (by omega) hsb) (by simp only [go_sem]) (by simp only [go_sem]) ?_
      simp only [go_sem, put_M, hpl, fitsL, Bool.not_true, VV.canon, VV.canon0]
      refine ⟨i + 1, by omega, by simp only; omega, by simp only [go_sem, wrap_len hlt ham], ?_, rfl, rfl, rfl⟩
      simp only [go_sem, hst, stepO, hs, hd]
  have hia : i = a.length := by have := len_ge hfa; omega
  subst hia
  rw [List.take_length]
  generalize hM1 : a.foldl (stepO b) [] = m1 at *
  simp only [go_sem]
  refine v_for (α := Nat) (base := 0) (marks := []) (pu := true) (good := fun i => i ≤ b.length) (m := fun i => b.length - i)
    (E := fun i => [(0, .int .i64 id), (7, .sl (a.map eKy) 0), (9, .mp 0), (56, .sl (b.map eKy) 0), (57, .int .i64 b.length), (58, .int .i64 i)]) (O := fun i => [.map (eM ((b.take i).foldl (stepF a) m1))])
    (by intro i _; simp [go_sem, Obj.idsB]) rfl ?_ 0 _ (by omega) rfl rfl rfl rfl rfl
  intro i hi
  simp only [go_sem]
  refine if_s (fun ht => ?_) (fun hfb => ?_)
  · have hlt := len_lt ht
    have gi := get_map eKy hlt
    have hst : (b.take (i + 1)).foldl (stepF a) m1 = stepF a ((b.take i).foldl (stepF a) m1) b[i] := foldl_take hlt
    generalize (b.take i).foldl (stepF a) m1 = m at *
    have hpl : (⟨b[i].repo, b[i].path⟩ : Pl) = pl b[i] := rfl
    simp only [go_sem, gi, find_M, getS_M, hpl, fitsL, Bool.not_true]
    generalize hs : getS (pl b[i]) m = s at *
    cases hd : s.differ with
    | true =>
      simp only [go_sem, put_M, hpl, fitsL, Bool.not_true, VV.canon, VV.canon0]
      refine ⟨i + 1, by omega, by simp only; omega, by simp only [go_sem, wrap_len hlt hbm], ?_, rfl, rfl, rfl⟩
      simp only [go_sem, hst, stepF, hs, hd]
    | false =>
      simp only [go_sem, eKy_fold]
      refine callW_pure (c_has a b[i] (by omega) hsa) (by simp only [go_sem]) (by simp only [go_sem]) ?_
      simp only [go_sem, put_M, hpl, fitsL, Bool.not_true, VV.canon, VV.canon0]
      refine ⟨i + 1, by omega, by simp only; omega, by simp only [go_sem, wrap_len hlt hbm], ?_, rfl, rfl, rfl⟩
      simp only [go_sem, hst, stepF, hs, hd]
  have hib : i = b.length := by have := len_ge hfb; omega
  subst hib
  have hM2 : b.foldl (stepF a) m1 = sidesM a b := by rw [← hM1]; rfl
  rw [List.take_length, hM2]
  generalize sidesM a b = M at *
  simp only [go_sem]
  refine v_for (α := List (Pl × Sd) × List Al × Option (VV × VV)) (base := 0) (marks := []) (pu := true) (good := fun x => (x.2.1 ++ x.1.filterMap (alertS id)).Perm (M.filterMap (alertS id))) (m := fun x => x.1.length)
    (E := fun x => [(0, .int .i64 id), (16, .sl (x.2.1.map eAl) 3), (88, .it 2)]) (O := fun x => [.gone, .tok x.2.1.length 4, .miter 0 (eM x.1) x.2.2])
    (by intro i _; simp [go_sem, Obj.idsB]) rfl ?_ (M, [], none) _ (List.Perm.refl _) rfl rfl rfl rfl rfl
  rintro ⟨left, out, cur⟩ hp
  simp only at hp
  have hol : out.length ≤ 200000 := by
    have h1 := hp.length_eq
    have h2 := List.length_filterMap_le (alertS id) M
    rw [List.length_append] at h1
    omega
  simp only [go_sem]
  refine next_s (o := 2) rfl (fun h => ?_) (fun p hpk => ?_)
  · have hl0 : left = [] := by simpa [eM] using h
    subst hl0
    simp only [List.filterMap_nil, List.append_nil] at hp
    simp only [go_sem]
    cases out with
    | nil =>
      have hn : M.filterMap (alertS id) = [] := by
        have := hp.length_eq
        exact List.eq_nil_of_length_eq_zero (by simpa using this.symm)
      rw [hn]
      refine e_thaw (st' := _) rfl ?_
      simp only [go_sem]
      refine callW_pure c_SortFunc_al0 (by simp only [go_sem]) (by simp only [go_sem]) ?_
      simp only [go_sem]
      rfl
    | cons x r =>
      have hth : ∀ X : V.Obj, thawW ⟨⟨[(16, .sl ((x :: r).map eAl) 3)], [.gone, .tok (r.length + 1) 4, X]⟩, 0, [], true⟩ 16 = some ⟨⟨[(16, .row 1 0 (r.length + 1))], [.gone, .cells ((x :: r).flatMap ac), .gone]⟩, 0, [], true⟩ := fun X => by
        have h1 := al_flat (x :: r)
        have h2 : ((x :: r).map eAl).all (fun v => v.cells.all VV.scalC) = true := by simp [eAl, VV.cells, VV.scalC]
        simp only [thawW, V.get, if_true, List.map_cons, List.isEmpty_cons, Bool.false_eq_true, if_false, nthO, List.getD_cons_zero, List.getD_cons_succ]
        simp only [List.map_cons] at h1 h2
        simp only [h1, h2, List.length_cons, List.length_map, and_self, if_true]
        rfl
      refine e_thaw (P := PR) (hth _) ?_
      simp only [go_sem]
      refine callW_some (c_SortFunc_al (ob := _) (o := 1) (l := x :: r) (by omega) rfl) (by simp only [go_sem]) (by simp only [go_sem]) (.inl rfl) ?_
      rintro v o ⟨rfl, l', hperm, hsort, rfl⟩
      have hll : l'.length = r.length + 1 := hperm.length_eq
      have heq := sorted_al hone (hperm.trans hp) hsort
      simp only [go_sem]
      have hfz := frz_al l'
      rw [hll] at hfz
      refine frz_row rfl (by rw [ac_flat, hll]; simp) (by
        rw [hfz, List.all_eq_true]
        intro v hv
        obtain ⟨z, _, rfl⟩ := List.mem_map.1 hv
        exact eAl_canon z) ?_
      rw [hfz]
      simp only [go_sem, heq]
  · simp only [eM, picks_map, List.mem_map] at hpk
    obtain ⟨q, hq, rfl⟩ := hpk
    obtain ⟨⟨pp, s⟩, rest⟩ := q
    have hpp := picks_perm hq
    simp only at hpp
    have hll := hpp.length_eq
    simp only [List.length_cons] at hll
    have hpf := hpp.filterMap (alertS id)
    simp only [go_sem]
    cases hd : s.differ with
    | false =>
      have hal : alertS id (pp, s) = none := by simp [alertS, hd]
      rw [List.filterMap_cons, hal] at hpf
      simp only [go_sem]
      exact ⟨(rest, out, some (ePl pp, eSd s)), (List.Perm.append_left out hpf.symm).trans hp, by simp only; omega, rfl, rfl, rfl, rfl, rfl⟩
    | true =>
      have hcap : (out.length + 1) * 48 ≤ 35184372088832 := by omega
      have hal : alertS id (pp, s) = some ⟨id, kindS s, pp.repo, pp.path⟩ := by simp [alertS, hd]
      rw [List.filterMap_cons, hal] at hpf
      have hperm : ((out ++ [(⟨id, kindS s, pp.repo, pp.path⟩ : Al)]) ++ rest.filterMap (alertS id)).Perm (M.filterMap (alertS id)) := by
        rw [List.append_assoc]
        exact (List.Perm.append_left out hpf.symm).trans hp
      simp only [go_sem]
      cases hold : s.old with
      | false =>
        have hk : kindS s = 1 := by simp [kindS, hold]
        rw [hk] at hperm
        simp only [go_sem, hcap, VV.canon, VV.canon0]
        exact ⟨(rest, out ++ [⟨id, 1, pp.repo, pp.path⟩], some (ePl pp, eSd s)), hperm, by simp only; omega, by simp only [go_sem, List.map_append]; rfl, by simp only [go_sem, List.length_append]; rfl, rfl, rfl, rfl⟩
      | true =>
        simp only [go_sem]
        cases hfo : s.found with
        | false =>
          have hk : kindS s = 2 := by simp [kindS, hold, hfo]
          rw [hk] at hperm
          simp only [go_sem, hcap, VV.canon, VV.canon0]
          exact ⟨(rest, out ++ [⟨id, 2, pp.repo, pp.path⟩], some (ePl pp, eSd s)), hperm, by simp only; omega, by simp only [go_sem, List.map_append]; rfl, by simp only [go_sem, List.length_append]; rfl, rfl, rfl, rfl⟩
        | true =>
          have hk : kindS s = 3 := by simp [kindS, hold, hfo]
          rw [hk] at hperm
          simp only [go_sem, hcap, VV.canon, VV.canon0]
          exact ⟨(rest, out ++ [⟨id, 3, pp.repo, pp.path⟩], some (ePl pp, eSd s)), hperm, by simp only; omega, by simp only [go_sem, List.map_append]; rfl, by simp only [go_sem, List.length_append]; rfl, rfl, rfl, rfl⟩
end Go.Proofs
