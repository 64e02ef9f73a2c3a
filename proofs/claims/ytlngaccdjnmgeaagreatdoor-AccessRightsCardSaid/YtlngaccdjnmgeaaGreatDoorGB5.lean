/- V, proofs: the users of a group. Conditions: the lists' lengths. -/
import Derived.Test.YtlngaccdjnmgeaaGreatDoorGB4
set_option linter.unusedVariables false
set_option linter.unusedSimpArgs false
namespace Go.Proofs
open Go.V Go.RowKit

theorem c_slices_Clone_int (zs : List Int) (h : zs.length * 8 ≤ 35184372088832) : PureC PR n_slices_Clone_int_int [.sl (zs.map (VV.int .i64)) 0] (.sl (zs.map (VV.int .i64)) 1) := by
  refine pure_of_wp m_slices_Clone_int_int rfl (by simp [argOk_sl]) ?_
  unfold FnW v_slices_Clone_int_int
  cases zs with
  | nil =>
    simp only [go_sem]
    intro b
    cases b
    · simp only [go_sem]
      rfl
    · simp only [go_sem]
      rfl
  | cons a r =>
    have h' : (r.length + 1) * 8 ≤ 35184372088832 := by simpa using h
    simp only [go_sem, h']
    simp [freshen, nthO]

theorem sortI_perm {a b : List Int} (h : a.Perm b) : sortI a = sortI b := by
  have pa : (sortI a).Pairwise (fun x y => (decide (x ≤ y)) = true) := List.pairwise_mergeSort (fun a b c h1 h2 => by simp at *; omega) (fun a b => by simp; omega) a
  have pb : (sortI b).Pairwise (fun x y => (decide (x ≤ y)) = true) := List.pairwise_mergeSort (fun a b c h1 h2 => by simp at *; omega) (fun a b => by simp; omega) b
  refine List.Perm.eq_of_pairwise (le := fun x y : Int => (decide (x ≤ y)) = true) (fun x y _ _ h1 h2 => ?_) pa pb ?_
  · simp at h1 h2; omega
  · exact (List.mergeSort_perm _ _).trans (h.trans (List.mergeSort_perm _ _).symm)

def usersOf (l : List Gp) (n : Nm) : List Int := ((findS l n).getD gp0).users
def totalU (l : List Gp) (name : Nm) : List Int := usersOf l name ++ (containedS l name).flatMap (usersOf l)
def usersS (l : List Gp) (name : Nm) : List Int := compactI (sortI (totalU l name))
def okGs (l : List Gp) : Prop := l.length ≤ 1000 ∧ ∀ g ∈ l, g.users.length ≤ 1000 ∧ g.groups.length ≤ 1000
theorem usersOf_len {l : List Gp} (h : okGs l) (n : Nm) : (usersOf l n).length ≤ 1000 := by
  unfold usersOf
  cases hf : findS l n with
  | none => simp [gp0]
  | some g => exact (h.2 g (List.mem_of_find?_eq_some hf)).1
theorem flatMap_len {α β : Type} {f : α → List β} {m : Nat} (h : ∀ a, (f a).length ≤ m) : ∀ l : List α, (l.flatMap f).length ≤ l.length * m
  | [] => by simp
  | a :: r => by
    have := flatMap_len h r
    have := h a
    simp only [List.flatMap_cons, List.length_append, List.length_cons, Nat.add_mul, Nat.one_mul]
    omega
theorem flatMap_len' {α β : Type} {f : α → List β} {m : Nat} : ∀ l : List α, (∀ a ∈ l, (f a).length ≤ m) → (l.flatMap f).length ≤ l.length * m
  | [], _ => by simp
  | a :: r, h => by
    have := flatMap_len' r fun x hx => h x (by simp [hx])
    have := h a (by simp)
    simp only [List.flatMap_cons, List.length_append, List.length_cons, Nat.add_mul, Nat.one_mul]
    omega
theorem contained_len {l : List Gp} (h : okGs l) (name : Nm) : (containedS l name).length ≤ 1000000 := by
  have h1 := (contained_ok l name).len
  have h2 : (allN l).length ≤ l.length * 1000 := flatMap_len' l fun g hg => (h.2 g hg).2
  have h3 : l.length * 1000 ≤ 1000 * 1000 := Nat.mul_le_mul_right _ h.1
  omega
theorem totalU_len {l : List Gp} (h : okGs l) (name : Nm) : (totalU l name).length ≤ 1000001000 := by
  have h1 := usersOf_len h name
  have h2 := flatMap_len (usersOf_len h) (containedS l name)
  have h3 : (containedS l name).length * 1000 ≤ 1000000 * 1000 := Nat.mul_le_mul_right _ (contained_len h name)
  simp only [totalU, List.length_append]
  omega

theorem c_group_Users (l : List Gp) (name : Nm) (ho : okGs l) : PureC PR n_group_Users [.sl (l.map eGp) 0, .str name] (.sl ((usersS l name).map (VV.int .i64)) 0) := by
  refine pure_of_wp m_group_Users rfl (by simp [argOk_sl, argOk_str]) ?_
  unfold FnW v_group_Users
  have hlm : l.length ≤ maxLen := by rw [maxLen_eq]; have := ho.1; omega
  have hu := usersOf_len ho name
  simp only [go_sem]
  refine callW_pure (c_group_find l name hlm) (by simp [go_sem]) (by simp [go_sem]) ?_
  have hus : ((findS l name).getD gp0).users = usersOf l name := rfl
  simp only [go_sem, hus]
  generalize hG : (findS l name).getD gp0 = g at *
  refine callW_own (c_slices_Clone_int (usersOf l name) (by omega)) (by simp only [go_sem]) (by simp only [go_sem]) (by simp only [go_sem]) ?_
  simp only [go_sem]
  have hq := c_group_contained l name (by have := ho.1; omega) (fun g hg => by have := (ho.2 g hg).2; omega) [.cells [.str g.name, .sl ((usersOf l name).map (VV.int .i64)) 0, .sl (g.groups.map VV.str) 0], .tok (usersOf l name).length 1] (by simp [Obj.idsB, idsL, VV.ids])
  refine callW_det hq (by simp only [go_sem]) (by simp only [go_sem]) (.inr rfl) ?_
  simp only [go_sem]
  generalize hC : VV.sl (g.groups.map VV.str) 0 = gc
  have htl := totalU_len ho name
  refine v_forN (α := List Nm × List Int × Option (VV × VV) × List V.Obj) (base := 0) (marks := []) (pu := true) (good := fun x => (x.2.1 ++ x.1.flatMap (usersOf l)).Perm (totalU l name)) (m := fun x => x.1.length)
    (E := fun x => [(0, .sl (l.map eGp) 0), (7, .sl (x.2.1.map (VV.int .i64)) 3), (23, .it 4)]) (O := fun x => [.cells [.str g.name, .sl ((usersOf l name).map (VV.int .i64)) 0, gc], .tok x.2.1.length 1, .cells [.sl (l.map eGp) 0], .gone, .miter 3 (feV x.1) x.2.2.1] ++ x.2.2.2)
    ?_ (containedS l name, usersOf l name, none, []) _ (List.Perm.refl _) rfl rfl rfl rfl rfl
  rintro ⟨left, us, cur, ex⟩ hp
  simp only at hp
  simp only [go_sem]
  refine next_s (o := 4) rfl (fun h => ?_) (fun p hpk => ?_)
  · have hl0 : left = [] := by simpa [feV] using h
    subst hl0
    simp only [List.flatMap_nil, List.append_nil] at hp
    have hul : us.length ≤ 1000001000 := by rw [hp.length_eq]; exact htl
    have hS : usersS l name = compactI (sortI us) := by rw [usersS, sortI_perm hp]
    rw [hS]
    simp only [go_sem]
    cases us with
    | nil =>
      refine e_thaw (st' := _) rfl ?_
      simp only [go_sem]
      refine callW_pure c_Sort_int0 (by simp only [go_sem]) (by simp only [go_sem]) ?_
      simp only [go_sem]
      refine callW_pure c_Compact_int0 (by simp only [go_sem]) (by simp only [go_sem]) ?_
      simp only [go_sem]
      simp [sortI, compactI, Lib.compact, Lib.compactUpTo]
    | cons a us' =>
      have hth : ∀ (ob1 : List V.Obj), thawW ⟨⟨[(7, .sl ((a :: us').map (VV.int .i64)) 3)], .cells [.str g.name, .sl ((usersOf l name).map (VV.int .i64)) 0, gc] :: .tok (us'.length + 1) 1 :: ob1⟩, 0, [], true⟩ 7 = some ⟨⟨[(7, .row 1 0 (us'.length + 1))], .gone :: .cells (intsV (a :: us')) :: ob1.map fun _ => Obj.gone⟩, 0, [], true⟩ := fun ob1 => by
        have h1 : ((a :: us').map (VV.int .i64)).flatMap VV.cells = intsV (a :: us') := by
          simp only [intsV]
          generalize (a :: us') = l
          induction l with
          | nil => rfl
          | cons b r ih => simp only [List.map_cons, List.flatMap_cons, ih, VV.cells]; rfl
        have h2 : ((a :: us').map (VV.int .i64)).all (fun v => v.cells.all VV.scalC) = true := by simp [VV.cells, VV.scalC]
        simp only [thawW, V.get, if_true, List.map_cons, List.isEmpty_cons, Bool.false_eq_true, if_false, nthO, List.getD_cons_succ, List.getD_cons_zero]
        simp only [List.map_cons] at h1 h2
        simp only [h1, h2, List.length_cons, List.length_map, and_self, if_true]
        rfl
      refine e_thaw (P := PR) (hth _) ?_
      simp only [List.length_cons] at hul
      have hsl : (sortI (a :: us')).length = us'.length + 1 := sortI_len (a :: us')
      have hcl := compactI_le (sortI (a :: us'))
      simp only [go_sem, List.map_cons]
      refine callW_det (c_Sort_int (ob := _) (o := 1) (zs := a :: us') rfl (by simp only [List.length_cons]; omega)) (by simp only [go_sem]) (by simp only [go_sem]) (.inl rfl) ?_
      simp only [go_sem]
      rw [← hsl]
      refine callW_det (c_Compact_int (ob := _) (o := 1) (zs := sortI (a :: us')) rfl (by omega)) (by simp only [go_sem]) (by simp only [go_sem]) (.inl rfl) ?_
      simp only [go_sem]
      generalize sortI (a :: us') = zs at *
      have hfz : frzEs 0 0 (compactI zs).length (intsV (compactI zs ++ List.replicate (zs.length - (compactI zs).length) 0)) = (compactI zs).map (VV.int .i64) := by
        simp [frzEs, intsV]
      refine frz_row rfl (by simp) (by rw [hfz]; simp [VV.canon, VV.canon0]) ?_
      rw [hfz]
      simp only [go_sem]
  · simp only [feV, picks_map, List.mem_map] at hpk
    obtain ⟨q, hq, rfl⟩ := hpk
    obtain ⟨x, rest⟩ := q
    have hpp := picks_perm hq
    simp only at hpp
    simp only [go_sem]
    refine callW_pure (c_group_find l x hlm) (by simp only [go_sem]) (by simp only [go_sem]) ?_
    have hux : ((findS l x).getD gp0).users = usersOf l x := rfl
    have hperm : ((us ++ usersOf l x) ++ rest.flatMap (usersOf l)).Perm (totalU l name) := by
      have h1 : (left.flatMap (usersOf l)).Perm (usersOf l x ++ rest.flatMap (usersOf l)) := by
        have := List.Perm.flatMap_right (usersOf l) hpp
        simpa using this
      rw [List.append_assoc]
      exact (List.Perm.append_left us h1.symm).trans hp
    have hcap : (us.length + (usersOf l x).length) * 8 ≤ 35184372088832 := by
      have := hperm.length_eq
      simp only [List.length_append] at this
      omega
    simp only [go_sem, getD_app_len, set_app_len, hux, hcap]
    have hll := hpp.length_eq
    simp only [List.length_cons] at hll
    refine ⟨(rest, us ++ usersOf l x, some (.str x, .bool true), ex ++ [.cells [.str ((findS l x).getD gp0).name, .sl ((usersOf l x).map (VV.int .i64)) 0, .sl (((findS l x).getD gp0).groups.map VV.str) 0]]), hperm, by simp only; omega, ?_, ?_⟩
    · simp only [go_sem, List.map_append]
    · simp only [go_sem, List.length_append, feV]

def inS (l : List Gp) (name : Nm) (u : Int) : Bool := (usersS l name).contains u
theorem usersS_len {l : List Gp} (h : okGs l) (name : Nm) : (usersS l name).length ≤ 1000001000 :=
  Nat.le_trans (compactI_le _) (by rw [sortI_len]; exact totalU_len h name)
theorem c_group_In (l : List Gp) (name : Nm) (u : Int) (ho : okGs l) : PureC PR n_group_In [.sl (l.map eGp) 0, .str name, .int .i64 u] (.bool (inS l name u)) := by
  refine pure_of_wp m_group_In rfl (by simp [argOk_sl, argOk_str, argOk_int]) ?_
  unfold FnW v_group_In
  simp only [go_sem]
  refine callW_pure (c_group_Users l name ho) (by simp only [go_sem]) (by simp only [go_sem]) ?_
  simp only [go_sem]
  refine callW_pure (c_slices_Contains_int (usersS l name) u (by rw [maxLen_eq]; have := usersS_len ho name; omega)) (by simp only [go_sem]) (by simp only [go_sem]) ?_
  simp only [go_sem, inS]
end Go.Proofs
