/- V, proofs: how deep a group is nested. Conditions: the lists' lengths. -/
import Derived.Test.YtlngaccdjnmgeaaGreatDoorGB3
set_option linter.unusedVariables false
set_option linter.unusedSimpArgs false
namespace Go.Proofs
open Go.V Go.RowKit

abbrev Me := List (Nm × Int)
def lookM : Me → Nm → Option Int
  | [], _ => none
  | (y, d) :: r, x => if x == y then some d else lookM r x
def updM : Me → Nm → Int → Me
  | [], x, d => [(x, d)]
  | (y, e) :: r, x, d => if x == y then (x, d) :: r else (y, e) :: updM r x d
def meV (m : Me) : List (VV × VV) := m.map fun p => (.str p.1, .int .i64 p.2)
theorem mfind_me (x : Nm) : ∀ m : Me, mfind (.str x) (meV m) = some ((lookM m x).map (VV.int .i64))
  | [] => rfl
  | (y, d) :: r => by
    have ih := mfind_me x r
    simp only [meV, List.map_cons] at ih ⊢
    cases h : (x == y) <;> simp [mfind, eqV, eq0, lookM, h, ih]
theorem mput_me (x : Nm) (d : Int) : ∀ m : Me, mput (.str x) (.int .i64 d) (meV m) = some (meV (updM m x d))
  | [] => rfl
  | (y, e) :: r => by
    have ih := mput_me x d r
    simp only [meV, List.map_cons] at ih ⊢
    cases h : (x == y) <;> simp [mput, eqV, eq0, updM, h, ih]
def maxI (a b : Int) : Int := if a ≥ b then a else b
mutual
def depthF (l : List Gp) : Nat → Nm → Me → Int × Me
  | 0, _, m => (0, m)
  | n + 1, name, m => match findS l name with
    | none => (0, m)
    | some g => match lookM m name with
      | some d => (d, m)
      | none => (IntKind.i64.wrap ((depthL l n g.groups 0 (updM m name 0)).1 + 1), updM (depthL l n g.groups 0 (updM m name 0)).2 name (IntKind.i64.wrap ((depthL l n g.groups 0 (updM m name 0)).1 + 1)))
def depthL (l : List Gp) : Nat → List Nm → Int → Me → Int × Me
  | _, [], d, m => (d, m)
  | n, x :: r, d, m => depthL l n r (maxI d (depthF l n x m).1) (depthF l n x m).2
end
theorem depth_take (l : List Gp) (n : Nat) (xs : List Nm) (d : Int) (m : Me) (i : Nat) (h : i < xs.length) : depthL l n (xs.take (i + 1)) d m =
    (maxI (depthL l n (xs.take i) d m).1 (depthF l n xs[i] (depthL l n (xs.take i) d m).2).1, (depthF l n xs[i] (depthL l n (xs.take i) d m).2).2) := by
  induction xs generalizing d m i with
  | nil => simp at h
  | cons a r ih =>
    cases i with
    | zero => simp only [List.take_succ_cons, List.take_zero, depthL, List.getElem_cons_zero]
    | succ i =>
      simp only [List.take_succ_cons, depthL, List.getElem_cons_succ]
      exact ih _ _ i (by simpa using h)

/-- the memo's names are names of groups, each once -/
structure MOk (l : List Gp) (m : Me) : Prop where
  nd : (m.map (·.1)).Nodup
  sub : ∀ x ∈ m.map (·.1), x ∈ l.map (·.name)
theorem MOk.len {l : List Gp} {m : Me} (h : MOk l m) : m.length ≤ l.length := by
  have := nodup_len _ _ h.nd h.sub
  simpa using this
theorem upd_names {x : Nm} {d : Int} : ∀ m : Me, (updM m x d).map (·.1) = if x ∈ m.map (·.1) then m.map (·.1) else m.map (·.1) ++ [x]
  | [] => by simp [updM]
  | (y, e) :: r => by
    have ih := upd_names (x := x) (d := d) r
    by_cases h : x = y
    · subst h; simp [updM]
    · have h1 : (x == y) = false := by simp [h]
      simp only [updM, h1, Bool.false_eq_true, if_false, List.map_cons, ih, List.mem_cons, h, false_or]
      split <;> simp
theorem look_none {x : Nm} : ∀ m : Me, lookM m x = none → x ∉ m.map (·.1)
  | [], _ => by simp
  | (y, e) :: r, h => by
    simp only [lookM] at h
    split at h
    · cases h
    · rename_i q
      simp only [List.map_cons, List.mem_cons, not_or]
      exact ⟨by simpa using q, look_none r h⟩
theorem MOk.upd {l : List Gp} {m : Me} {x : Nm} {d : Int} (h : MOk l m) (hx : x ∈ l.map (·.name)) : MOk l (updM m x d) := by
  refine ⟨?_, ?_⟩
  · rw [upd_names]
    split
    · exact h.nd
    · rename_i q
      rw [List.nodup_append]
      refine ⟨h.nd, by simp, ?_⟩
      intro a ha b hb e
      simp only [List.mem_singleton] at hb
      subst hb; subst e
      exact q ha
  · rw [upd_names]
    split
    · exact h.sub
    · intro y hy
      rcases List.mem_append.1 hy with hy | hy
      · exact h.sub y hy
      · simp at hy; subst hy; exact hx
theorem upd_len {m : Me} {x : Nm} {d : Int} (h : lookM m x = none) : (updM m x d).length = m.length + 1 := by
  have := congrArg List.length (upd_names (x := x) (d := d) m)
  rw [if_neg (look_none m h)] at this
  simpa using this
theorem upd_le {m : Me} {x : Nm} {d : Int} : m.length ≤ (updM m x d).length := by
  have := congrArg List.length (upd_names (x := x) (d := d) m)
  simp only [List.length_map] at this
  rw [this]
  split <;> simp
theorem find_name {l : List Gp} {name : Nm} {g : Gp} (h : findS l name = some g) : name ∈ l.map (·.name) := by
  have h1 := List.mem_of_find?_eq_some h
  have h2 := List.find?_some h
  simp only [beq_iff_eq] at h2
  exact List.mem_map.2 ⟨g, h1, h2⟩
mutual
theorem depthF_ok (l : List Gp) : ∀ (n : Nat) (name : Nm) (m : Me), MOk l m → MOk l (depthF l n name m).2 ∧ m.length ≤ (depthF l n name m).2.length
  | 0, _, _, h => by rw [depthF]; exact ⟨h, Nat.le_refl _⟩
  | n + 1, name, m, h => by
    rw [depthF]
    split
    · exact ⟨h, Nat.le_refl _⟩
    · rename_i g hf
      split
      · exact ⟨h, Nat.le_refl _⟩
      · have hn := find_name hf
        obtain ⟨h1, h2⟩ := depthL_ok l n g.groups 0 _ (h.upd hn (d := 0))
        exact ⟨h1.upd hn, Nat.le_trans upd_le (Nat.le_trans h2 upd_le)⟩
theorem depthL_ok (l : List Gp) : ∀ (n : Nat) (xs : List Nm) (d : Int) (m : Me), MOk l m → MOk l (depthL l n xs d m).2 ∧ m.length ≤ (depthL l n xs d m).2.length
  | _, [], _, _, h => by rw [depthL]; exact ⟨h, Nat.le_refl _⟩
  | n, x :: r, d, m, h => by
    rw [depthL]
    obtain ⟨h1, h2⟩ := depthF_ok l n x m h
    obtain ⟨h3, h4⟩ := depthL_ok l n r (maxI d (depthF l n x m).1) _ h1
    exact ⟨h3, Nat.le_trans h2 h4⟩
end

def dOb (L : Nat) (l : List Gp) (m : Me) : List V.Obj := [.cells [.sl (l.map eGp) 0], .map (meV m), .cells [.mp (L + 1)], .cells [.fn n_group_Depth_1 [.ptr L 0, .ptr (L + 2) 0, .ptr (L + 3) 0]]]
def DepthSp (l : List Gp) (n : Nat) : Prop := ∀ (pre : List V.Obj) (name : Nm) (m : Me) (r : List V.Obj), MOk l m → l.length < m.length + n → pre.all (Obj.idsB pre.length) = true → r.all (Obj.idsB (pre.length + (4 + r.length))) = true →
  ImpC PR n_group_Depth_1 [.str name, .ptr pre.length 0, .ptr (pre.length + 2) 0, .ptr (pre.length + 3) 0] (pre ++ (dOb pre.length l m ++ r)) fun v o => v = .int .i64 (depthF l n name m).1 ∧ o = pre ++ (dOb pre.length l (depthF l n name m).2 ++ r)

theorem depthSp (l : List Gp) (hl : l.length ≤ 1000000) (hg : ∀ g ∈ l, g.groups.length ≤ 1000000) : ∀ n, DepthSp l n := by
  intro n
  induction n with
  | zero =>
    intro pre name m r hm hn
    have := hm.len
    omega
  | succ n ih =>
    intro pre name m r hm hn hpre hr
    refine imp_of_wp m_group_Depth_1 rfl ?_
    have hlm : l.length ≤ maxLen := by rw [maxLen_eq]; omega
    have e : ∀ m' X, (pre ++ (dOb pre.length l m' ++ (r ++ [X]))).take (pre.length + (r.length + 1 + 1 + 1 + 1)) = pre ++ (dOb pre.length l m' ++ r) := fun m' X => by
      have h1 : pre ++ (dOb pre.length l m' ++ (r ++ [X])) = (pre ++ (dOb pre.length l m' ++ r)) ++ [X] := by simp
      rw [h1, List.take_append_of_le_length (by simp [dOb])]
      exact List.take_of_length_le (by simp [dOb])
    have hid0 : ∀ (m' : Me) (k : Nat), pre.length + (4 + r.length) ≤ k → (pre ++ (dOb pre.length l m' ++ r)).all (Obj.idsB k) = true := fun m' k hk => by
      rw [List.all_append, List.all_append, idsA_mono (by omega) hr, idsA_mono (by omega) hpre]
      simp [dOb, Obj.idsB, idsL, VV.ids]
      omega
    have fin : ∀ (m' : Me) (X : V.Obj) (env : List (Nat × VV)) (x : Int), get env 5 = .int .i64 x → x = (depthF l (n + 1) name m).1 → m' = (depthF l (n + 1) name m).2 →
        EndI v_group_Depth_1 (pre.length + (r.length + 1 + 1 + 1 + 1)) (fun v o => v = .int .i64 (depthF l (n + 1) name m).1 ∧ o = pre ++ (dOb pre.length l (depthF l (n + 1) name m).2 ++ r)) .ret ⟨⟨env, pre ++ (dOb pre.length l m' ++ (r ++ [X]))⟩, pre.length + (r.length + 1 + 1 + 1 + 1), [], false⟩ := fun m' X env x h1 h2 h3 => by
      refine endI_of (pre.length + (r.length + 1 + 1 + 1 + 1)) (.int .i64 x) (Nat.le_refl _) (by simp [dOb]) (by rw [e]; exact hid0 _ _ (by omega)) ?_ (by simp [VV.ids]) ?_
      · simp only [v_group_Depth_1, resOfL, resOf, h1, outI]; rfl
      · rw [e, h2, h3]; exact ⟨rfl, rfl⟩
    unfold FnI
    have hv : v_group_Depth_1.body = v_group_Depth_1.body := rfl
    conv at hv => rhs; unfold v_group_Depth_1
    rw [hv]
    simp only [dOb, go_sem, List.append_assoc, List.length_append, getD_app_len, getD_app_add, set_app_len, set_app_add]
    refine callW_pure (c_group_find l name hlm) (by simp [go_sem]) (by simp [go_sem]) ?_
    cases hf : findS l name with
    | none =>
      simp only [go_sem, List.append_assoc, List.length_append, getD_app_len, getD_app_add, set_app_len, set_app_add]
      exact fin m _ _ _ rfl (by rw [depthF, hf]) (by rw [depthF, hf])
    | some g =>
      simp only [go_sem, List.append_assoc, List.length_append, getD_app_len, getD_app_add, set_app_len, set_app_add, mfind_me]
      cases hlk : lookM m name with
      | some d =>
        simp only [go_sem, Option.map_some, Option.map_none]
        exact fin m _ _ _ rfl (by rw [depthF, hf]; simp only [hlk]) (by rw [depthF, hf]; simp only [hlk])
      | none =>
        have hgl := hg g (List.mem_of_find?_eq_some hf)
        have hkm : g.groups.length ≤ maxLen := by rw [maxLen_eq]; omega
        have hm1 := hm.upd (d := 0) (find_name hf)
        have hml := upd_len (d := 0) hlk
        have hR : depthF l (n + 1) name m = (IntKind.i64.wrap ((depthL l n g.groups 0 (updM m name 0)).1 + 1), updM (depthL l n g.groups 0 (updM m name 0)).2 name (IntKind.i64.wrap ((depthL l n g.groups 0 (updM m name 0)).1 + 1))) := by
          rw [depthF, hf]; simp only [hlk]
        simp only [go_sem, Option.map_some, Option.map_none, List.append_assoc, List.length_append, getD_app_len, getD_app_add, set_app_len, set_app_add, mput_me]
        generalize hks : g.groups = ks at *
        generalize updM m name 0 = m1 at *
        have hid : ∀ (m' : Me) (k : Nat), pre.length + (4 + r.length + 1) ≤ k → (pre ++ (dOb pre.length l m' ++ (r ++ [V.Obj.cells (eGp g).cells]))).all (Obj.idsB k) = true := fun m' k hk => by
          rw [List.all_append, List.all_append, List.all_append, idsA_mono (by omega) hr, idsA_mono (by omega) hpre]
          simp [dOb, Obj.idsB, idsL, VV.ids, eGp_cells]
          omega
        refine v_for (α := Nat) (base := pre.length + (r.length + 1 + 1 + 1 + 1)) (marks := []) (pu := false) (good := fun i => i ≤ ks.length) (m := fun i => ks.length - i)
          (E := fun i => [(0, .str name), (2, .ptr (pre.length + 2) 0), (3, .ptr (pre.length + 3) 0), (10, .int .i64 (depthL l n (ks.take i) 0 m1).1), (32, .sl (ks.map VV.str) 0), (33, .int .i64 ks.length), (34, .int .i64 i)]) (O := fun i => pre ++ (dOb pre.length l (depthL l n (ks.take i) 0 m1).2 ++ (r ++ [.cells (eGp g).cells])))
          (by intro i _; refine ⟨by simp [VV.ids]; omega, hid _ _ (by omega), by simp [dOb]; omega⟩) rfl ?_ 0 _ (by omega) (by simp only [List.take_zero, depthL]; rfl) ?_ rfl rfl rfl
        rotate_left
        · rw [← hks]
          simp only [List.take_zero, depthL, dOb]
          rw [List.take_of_length_le (by simp; omega)]
          rfl
        intro i hi
        simp only [dOb, go_sem, List.append_assoc, List.length_append, getD_app_len, getD_app_add, set_app_len, set_app_add]
        refine if_s (fun ht => ?_) (fun hf => ?_)
        · have hlt := len_lt ht
          have gk := get_map VV.str hlt
          have hstep := depth_take l n ks 0 m1 i hlt
          obtain ⟨hmi, hmil⟩ := depthL_ok l n (ks.take i) 0 m1 hm1
          generalize depthL l n (ks.take i) 0 m1 = dm at *
          generalize ks[i] = x at *
          obtain ⟨d, mi⟩ := dm
          simp only at hmi hmil hstep
          simp only [go_sem, List.append_assoc, List.length_append, getD_app_len, getD_app_add, set_app_len, set_app_add, gk]
          have q := ih pre x mi (r ++ [.cells (eGp g).cells]) hmi (by omega) hpre (by
            have := hid [] (pre.length + (4 + r.length + 1)) (Nat.le_refl _)
            rw [List.all_append, List.all_append, Bool.and_eq_true, Bool.and_eq_true] at this
            have := this.2.2
            simpa [Nat.add_assoc] using this)
          refine callW_det q (by simp only [go_sem]) (by simp only [go_sem]) (.inl rfl) ?_
          simp only [go_sem]
          refine ⟨i + 1, by omega, by simp only; omega, ?_, by simp only [hstep]; exact List.take_of_length_le (by simp [dOb]; omega), rfl, rfl, rfl⟩
          simp only [go_sem, wrap_len hlt hkm, hstep, maxI]
        · have hie : i = ks.length := by have := len_ge hf; omega
          subst hie
          simp only [go_sem, List.append_assoc, List.length_append, getD_app_len, getD_app_add, set_app_len, set_app_add, mput_me]
          exact fin _ _ _ _ rfl (by rw [hR]) (by rw [hR])

def depthS (l : List Gp) (name : Nm) : Int := (depthF l (l.length + 1) name []).1
theorem mok_nil (l : List Gp) : MOk l [] := ⟨by simp, by simp⟩
theorem c_group_Depth (l : List Gp) (name : Nm) (hl : l.length ≤ 1000000) (hg : ∀ g ∈ l, g.groups.length ≤ 1000000) : PureC PR n_group_Depth [.sl (l.map eGp) 0, .str name] (.int .i64 (depthS l name)) := by
  refine pure_of_wp m_group_Depth rfl (by simp [argOk_sl, argOk_str]) ?_
  unfold FnW v_group_Depth
  have hq := depthSp l hl hg (l.length + 1) [] name [] [] (mok_nil l) (by simp) rfl rfl
  simp only [go_sem]
  refine callW_det hq (by simp only [go_sem, List.length_nil]) (by simp only [go_sem, List.length_nil]) (.inl rfl) ?_
  simp only [go_sem]
  rfl
end Go.Proofs
