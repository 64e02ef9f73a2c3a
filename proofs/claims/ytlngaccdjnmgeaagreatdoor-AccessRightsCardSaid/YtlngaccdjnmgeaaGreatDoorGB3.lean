/- V, proofs: the names of the groups that a group contains. Conditions: the lists' lengths. -/
import Derived.Test.YtlngaccdjnmgeaaGreatDoorGB2
set_option linter.unusedVariables false
set_option linter.unusedSimpArgs false
namespace Go.Proofs
open Go.V Go.RowKit

abbrev Nm := List UInt8
/-- the names that a group names -/
def kidsS (l : List Gp) (name : Nm) : List Nm := ((findS l name).getD gp0).groups
mutual
def visitF (l : List Gp) : Nat → Nm → List Nm → List Nm
  | 0, _, f => f
  | n + 1, name, f => visitL l n (kidsS l name) f
def visitL (l : List Gp) : Nat → List Nm → List Nm → List Nm
  | _, [], f => f
  | n, x :: r, f => visitL l n r (if f.contains x then f else visitF l n x (f ++ [x]))
end
def feV (f : List Nm) : List (VV × VV) := f.map fun x => (.str x, .bool true)
theorem mfind_fe (x : Nm) : ∀ f : List Nm, mfind (.str x) (feV f) = some (if f.contains x then some (.bool true) else none)
  | [] => rfl
  | y :: r => by
    have ih := mfind_fe x r
    simp only [feV, List.map_cons] at ih ⊢
    by_cases h : x = y
    · subst h; simp [mfind, eqV, eq0]
    · have h1 : (x == y) = false := by simp [h]
      simp only [mfind, eqV, eq0, h1, ih, List.contains_cons, Bool.false_or]
theorem mput_fe (x : Nm) : ∀ f : List Nm, f.contains x = false → mput (.str x) (.bool true) (feV f) = some (feV (f ++ [x]))
  | [], _ => rfl
  | y :: r, h => by
    simp only [List.contains_cons, Bool.or_eq_false_iff] at h
    have ih := mput_fe x r h.2
    simp only [feV, List.map_cons, List.cons_append] at ih ⊢
    simp only [mput, eqV, eq0, h.1, ih, Option.map_some]

/-- all names that groups name -/
def allN (l : List Gp) : List Nm := l.flatMap (·.groups)
theorem kids_mem {l : List Gp} {name x : Nm} (h : x ∈ kidsS l name) : x ∈ allN l := by
  unfold kidsS at h
  cases hf : findS l name with
  | none => rw [hf] at h; simp [gp0] at h
  | some g =>
    rw [hf] at h
    exact List.mem_flatMap.2 ⟨g, List.mem_of_find?_eq_some hf, h⟩
theorem kids_len {l : List Gp} {name : Nm} {m : Nat} (h : ∀ g ∈ l, g.groups.length ≤ m) : (kidsS l name).length ≤ m := by
  unfold kidsS
  cases hf : findS l name with
  | none => simp [gp0]
  | some g => exact h g (List.mem_of_find?_eq_some hf)

/-- what has been found so far -/
structure FOk (l : List Gp) (f : List Nm) : Prop where
  nd : f.Nodup
  sub : ∀ x ∈ f, x ∈ allN l
theorem nodup_len {α : Type} [DecidableEq α] : ∀ (f u : List α), f.Nodup → (∀ x ∈ f, x ∈ u) → f.length ≤ u.length
  | [], u, _, _ => Nat.zero_le _
  | a :: r, u, hn, hs => by
    rw [List.nodup_cons] at hn
    have ha := hs a (by simp)
    have := nodup_len r (u.erase a) hn.2 fun x hx => by
      have hne : x ≠ a := fun e => hn.1 (e ▸ hx)
      exact (List.mem_erase_of_ne hne).2 (hs x (by simp [hx]))
    rw [List.length_erase_of_mem ha] at this
    have := List.length_pos_of_mem ha
    simp only [List.length_cons]
    omega
theorem FOk.len {l : List Gp} {f : List Nm} (h : FOk l f) : f.length ≤ (allN l).length := nodup_len _ _ h.nd h.sub
theorem FOk.add {l : List Gp} {f : List Nm} {x : Nm} (h : FOk l f) (hx : x ∈ allN l) (hc : f.contains x = false) : FOk l (f ++ [x]) := by
  refine ⟨?_, fun y hy => ?_⟩
  · rw [List.nodup_append]
    refine ⟨h.nd, by simp, ?_⟩
    intro a ha b hb e
    simp only [List.mem_singleton] at hb
    subst hb; subst e
    simp [ha] at hc
  · rcases List.mem_append.1 hy with hy | hy
    · exact h.sub y hy
    · simp at hy; subst hy; exact hx
mutual
theorem visitF_ok (l : List Gp) : ∀ (n : Nat) (name : Nm) (f : List Nm), FOk l f → FOk l (visitF l n name f)
  | 0, _, _, h => by rw [visitF]; exact h
  | n + 1, name, f, h => by
    rw [visitF]
    exact visitL_ok l n (kidsS l name) f h fun x hx => kids_mem hx
theorem visitL_ok (l : List Gp) : ∀ (n : Nat) (xs : List Nm) (f : List Nm), FOk l f → (∀ x ∈ xs, x ∈ allN l) → FOk l (visitL l n xs f)
  | _, [], _, h, _ => by rw [visitL]; exact h
  | n, x :: r, f, h, hx => by
    rw [visitL]
    refine visitL_ok l n r _ ?_ fun y hy => hx y (by simp [hy])
    split
    · exact h
    · rename_i hc
      exact visitF_ok l n x _ (h.add (hx x (by simp)) (by simpa using hc))
end

mutual
theorem visitF_len (l : List Gp) : ∀ (n : Nat) (name : Nm) (f : List Nm), f.length ≤ (visitF l n name f).length
  | 0, _, _ => by rw [visitF]; exact Nat.le_refl _
  | n + 1, name, f => by
    rw [visitF]
    exact visitL_len l n (kidsS l name) f
theorem visitL_len (l : List Gp) : ∀ (n : Nat) (xs : List Nm) (f : List Nm), f.length ≤ (visitL l n xs f).length
  | _, [], _ => by rw [visitL]; exact Nat.le_refl _
  | n, x :: r, f => by
    rw [visitL]
    refine Nat.le_trans ?_ (visitL_len l n r _)
    split
    · exact Nat.le_refl _
    · refine Nat.le_trans ?_ (visitF_len l n x _)
      simp
end

/-- the objects of 'contained', behind L others -/
def cOb (L : Nat) (l : List Gp) (f : List Nm) : List V.Obj := [.cells [.sl (l.map eGp) 0], .map (feV f), .cells [.mp (L + 1)], .cells [.fn n_group_contained_1 [.ptr L 0, .ptr (L + 2) 0, .ptr (L + 3) 0]]]
def VisitSp (l : List Gp) (n : Nat) : Prop := ∀ (pre : List V.Obj) (name : Nm) (f : List Nm) (r : List V.Obj), FOk l f → (allN l).length < f.length + n → pre.all (Obj.idsB pre.length) = true → r.all (Obj.idsB (pre.length + (4 + r.length))) = true →
  ImpC PR n_group_contained_1 [.str name, .ptr pre.length 0, .ptr (pre.length + 2) 0, .ptr (pre.length + 3) 0] (pre ++ (cOb pre.length l f ++ r)) fun v o => v = .tup [] ∧ o = pre ++ (cOb pre.length l (visitF l n name f) ++ r)

theorem visit_take (l : List Gp) (n : Nat) (xs : List Nm) (f : List Nm) (i : Nat) (h : i < xs.length) : visitL l n (xs.take (i + 1)) f = (if (visitL l n (xs.take i) f).contains xs[i] then visitL l n (xs.take i) f else visitF l n xs[i] (visitL l n (xs.take i) f ++ [xs[i]])) := by
  induction xs generalizing f i with
  | nil => simp at h
  | cons a r ih =>
    cases i with
    | zero => simp only [List.take_succ_cons, List.take_zero, visitL, List.getElem_cons_zero]
    | succ i =>
      simp only [List.take_succ_cons, visitL, List.getElem_cons_succ]
      exact ih _ i (by simpa using h)

theorem visitSp (l : List Gp) (hl : l.length ≤ 1000000) (hg : ∀ g ∈ l, g.groups.length ≤ 1000000) : ∀ n, VisitSp l n := by
  intro n
  induction n with
  | zero =>
    intro pre name f r hf hn
    have := hf.len
    omega
  | succ n ih =>
    intro pre name f r hf hn hpre hr
    refine imp_of_wp m_group_contained_1 rfl ?_
    unfold FnI v_group_contained_1 cOb
    have hlm : l.length ≤ maxLen := by rw [maxLen_eq]; omega
    simp only [go_sem, List.append_assoc, List.length_append, getD_app_len, getD_app_add, set_app_len, set_app_add]
    refine callW_pure (c_group_find l name hlm) (by simp [go_sem]) (by simp [go_sem]) ?_
    have hk : (kidsS l name).length ≤ 1000000 := kids_len hg
    have hkm : (kidsS l name).length ≤ maxLen := by rw [maxLen_eq]; omega
    have hmem : ∀ x ∈ kidsS l name, x ∈ allN l := fun x hx => kids_mem hx
    have hR : visitF l (n + 1) name f = visitL l n (kidsS l name) f := by rw [visitF]
    rw [hR]
    have hks : ((findS l name).getD gp0).groups = kidsS l name := rfl
    simp only [go_sem, List.append_assoc, List.length_append, getD_app_len, getD_app_add, set_app_len, set_app_add, hks]
    generalize kidsS l name = ks at *
    generalize hG : (findS l name).getD gp0 = g at *
    have hid : ∀ (f' : List Nm) (m : Nat), pre.length + (4 + r.length + 1) ≤ m → (pre ++ (cOb pre.length l f' ++ (r ++ [V.Obj.cells (eGp g).cells]))).all (Obj.idsB m) = true := fun f' m hm => by
      rw [List.all_append, List.all_append, List.all_append, idsA_mono (by omega) hr, idsA_mono (by omega) hpre]
      simp [cOb, Obj.idsB, idsL, VV.ids, eGp_cells]
      omega
    refine v_for (α := Nat) (base := pre.length + (r.length + 1 + 1 + 1 + 1)) (marks := []) (pu := false) (good := fun i => i ≤ ks.length) (m := fun i => ks.length - i)
      (E := fun i => [(2, .ptr (pre.length + 2) 0), (3, .ptr (pre.length + 3) 0), (16, .sl (ks.map VV.str) 0), (17, .int .i64 ks.length), (18, .int .i64 i)]) (O := fun i => pre ++ (cOb pre.length l (visitL l n (ks.take i) f) ++ (r ++ [.cells (eGp g).cells])))
      (by intro i _; refine ⟨by simp [VV.ids]; omega, hid _ _ (by omega), by simp [cOb]; omega⟩) rfl ?_ 0 _ (by omega) rfl ?_ rfl rfl rfl
    rotate_left
    · rw [← hks]
      simp only [List.take_zero, visitL, cOb]
      rw [List.take_of_length_le (by simp; omega)]
      rfl
    intro i hi
    simp only [cOb, go_sem, List.append_assoc, List.length_append, getD_app_len, getD_app_add, set_app_len, set_app_add]
    refine if_s (fun ht => ?_) (fun hf => ?_)
    · have hlt := len_lt ht
      have gk := get_map VV.str hlt
      have hstep := visit_take l n ks f i hlt
      have hfi : FOk l (visitL l n (ks.take i) f) := visitL_ok l n _ f hf fun x hx => hmem x (List.mem_of_mem_take hx)
      have hfl := visitL_len l n (ks.take i) f
      have hxm := hmem _ (List.getElem_mem hlt)
      generalize visitL l n (ks.take i) f = fi at *
      generalize ks[i] = x at *
      simp only [go_sem, List.append_assoc, List.length_append, getD_app_len, getD_app_add, set_app_len, set_app_add, gk, mfind_fe]
      cases hc : fi.contains x with
      | true =>
        rw [hc, if_pos rfl] at hstep
        simp only [go_sem, hc]
        exact ⟨i + 1, by omega, by simp only; omega, by simp only [go_sem, wrap_len hlt hkm], by simp only [hstep]; exact List.take_of_length_le (by simp; omega), rfl, rfl, rfl⟩
      | false =>
        rw [hc, if_neg (by simp)] at hstep
        have hadd := hfi.add hxm hc
        simp only [go_sem, List.append_assoc, List.length_append, getD_app_len, getD_app_add, set_app_len, set_app_add, hc, mput_fe x fi hc]
        have q := ih pre x (fi ++ [x]) (r ++ [.cells (eGp g).cells]) hadd (by simp; omega) hpre (by
          have := hid [] (pre.length + (4 + r.length + 1)) (Nat.le_refl _)
          rw [List.all_append, List.all_append, Bool.and_eq_true, Bool.and_eq_true] at this
          have := this.2.2
          simpa [Nat.add_assoc] using this)
        refine callW_det q (by simp only [go_sem]) (by simp only [go_sem]) (.inl rfl) ?_
        simp only [go_sem]
        exact ⟨i + 1, by omega, by simp only; omega, by simp only [go_sem, wrap_len hlt hkm], by simp only [hstep]; exact List.take_of_length_le (by simp [cOb]; omega), rfl, rfl, rfl⟩
    · have hie : i = ks.length := by have := len_ge hf; omega
      subst hie
      simp only [go_sem]
      have e : ∀ f', (pre ++ (cOb pre.length l f' ++ (r ++ [V.Obj.cells (eGp g).cells]))).take (pre.length + (r.length + 1 + 1 + 1 + 1)) = pre ++ (cOb pre.length l f' ++ r) := fun f' => by
        have h1 : pre ++ (cOb pre.length l f' ++ (r ++ [V.Obj.cells (eGp g).cells])) = (pre ++ (cOb pre.length l f' ++ r)) ++ [V.Obj.cells (eGp g).cells] := by simp
        rw [h1, List.take_append_of_le_length (by simp [cOb])]
        exact List.take_of_length_le (by simp [cOb])
      refine endI_nrm (ob := pre ++ (cOb pre.length l (visitL l n ks f) ++ (r ++ [V.Obj.cells (eGp g).cells]))) (pre.length + (r.length + 1 + 1 + 1 + 1)) (.tup []) (Nat.le_refl _) (by simp [cOb]) ?_ rfl (by simp [VV.ids, idsL]) ?_
      · rw [e, List.all_append, List.all_append, idsA_mono (by omega) hr, idsA_mono (by omega) hpre]
        simp [cOb, Obj.idsB, idsL, VV.ids]
      · rw [e]
        exact ⟨rfl, rfl⟩

def containedS (l : List Gp) (name : Nm) : List Nm := visitF l ((allN l).length + 1) name []
theorem fok_nil (l : List Gp) : FOk l [] := ⟨by simp, by simp⟩
theorem contained_ok (l : List Gp) (name : Nm) : FOk l (containedS l name) := visitF_ok l _ name [] (fok_nil l)
theorem c_group_contained (l : List Gp) (name : Nm) (hl : l.length ≤ 1000000) (hg : ∀ g ∈ l, g.groups.length ≤ 1000000) (pre : List V.Obj) (hpre : pre.all (Obj.idsB pre.length) = true) :
    ImpC PR n_group_contained [.sl (l.map eGp) 0, .str name] pre fun v o => v = .mp (pre.length + 1) ∧ o = pre ++ [.cells [.sl (l.map eGp) 0], .map (feV (containedS l name))] := by
  refine imp_of_wp m_group_contained rfl ?_
  unfold FnI v_group_contained
  have hq := visitSp l hl hg ((allN l).length + 1) pre name [] [] (fok_nil l) (by simp) hpre rfl
  rw [List.append_nil] at hq
  simp only [go_sem, List.append_assoc, List.length_append, getD_app_len, getD_app_add, set_app_len, set_app_add]
  refine callW_det hq (by simp only [go_sem]) (by simp only [go_sem]) (.inl rfl) ?_
  simp only [cOb, List.append_nil, go_sem, List.append_assoc, List.length_append, getD_app_len, getD_app_add, set_app_len, set_app_add]
  have e : ∀ x y : V.Obj, (pre ++ [x, y, .cells [.mp (pre.length + 1)], .cells [.fn n_group_contained_1 [.ptr pre.length 0, .ptr (pre.length + 2) 0, .ptr (pre.length + 3) 0]]]).take (pre.length + 2) = pre ++ [x, y] := fun x y => by
    have h1 : ∀ z w : V.Obj, pre ++ [x, y, z, w] = (pre ++ [x, y]) ++ [z, w] := fun z w => by simp
    rw [h1, List.take_append_of_le_length (by simp)]
    exact List.take_of_length_le (by simp)
  refine endI_of (pre.length + 2) (.mp (pre.length + 1)) (by omega) (by simp) ?_ rfl (by simp [VV.ids]) ?_
  · rw [e, List.all_append, idsA_mono (by omega) hpre]
    simp [Obj.idsB, idsL, VV.ids]
  · rw [e]
    exact ⟨rfl, rfl⟩
end Go.Proofs
