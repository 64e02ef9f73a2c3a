/- V, proofs: policies: Right, Deciding, Can. Conditions: the lists' lengths. -/
import Derived.Test.YtlngaccdjnmgeaaGreatDoorGB6
import Derived.Test.YtlngaccdjnmgeaaGreatDoorGA5
set_option linter.unusedVariables false
set_option linter.unusedSimpArgs false
namespace Go.Proofs
open Go.V Go.RowKit

structure Rl where
  allow : Bool
  group : List UInt8
  repo : List UInt8
  glob : List UInt8
def eRl (r : Rl) : VV := .agg [.bool r.allow, .str r.group, .str r.repo, .str r.glob]
theorem eRl_cells (g : Rl) : (eRl g).cells = [.bool g.allow, .str g.group, .str g.repo, .str g.glob] := byRfl rfl
theorem eRl_strip (g : Rl) : (eRl g).strip = eRl g := byRfl rfl
theorem eRl_canon (g : Rl) : (eRl g).canon = true := byRfl rfl
theorem eRl_noTup (g : Rl) : (eRl g).noTup = true := byRfl rfl
theorem eRl_ids (g : Rl) (n : Nat) : (eRl g).ids n = true := by simp [eRl, VV.ids, idsL]
theorem eRl_argOk (g : Rl) : argOk (eRl g) = true := by simp [eRl, argOk, VV.noHnd, VV.noHnd0, VV.ids, idsL]
theorem eRl_fold (g : Rl) : VV.agg [.bool g.allow, .str g.group, .str g.repo, .str g.glob] = eRl g := byRfl rfl
theorem hd_rl (l : List Rl) : hdSz (l.map eRl) 4 = true := hdSz_map (f := eRl) (n := 4) (fun _ => rfl) l
attribute [go_sem] eRl_cells eRl_strip eRl_canon eRl_noTup eRl_ids hd_rl
structure Pol where
  groups : List Gp
  rules : List Rl
def ePol (p : Pol) : VV := .agg [.sl (p.groups.map eGp) 0, .sl (p.rules.map eRl) 0]
theorem ePol_cells (p : Pol) : (ePol p).cells = [.sl (p.groups.map eGp) 0, .sl (p.rules.map eRl) 0] := byRfl rfl
theorem ePol_strip (p : Pol) : (ePol p).strip = ePol p := byRfl rfl
theorem ePol_canon (p : Pol) : (ePol p).canon = true := byRfl rfl
theorem ePol_noTup (p : Pol) : (ePol p).noTup = true := byRfl rfl
theorem ePol_ids (p : Pol) (n : Nat) : (ePol p).ids n = true := by simp [ePol, VV.ids, idsL]
theorem ePol_argOk (p : Pol) : argOk (ePol p) = true := by simp [ePol, argOk, VV.noHnd, VV.noHnd0, VV.ids, idsL]
theorem ePol_fold (p : Pol) : VV.agg [.sl (p.groups.map eGp) 0, .sl (p.rules.map eRl) 0] = ePol p := byRfl rfl
attribute [go_sem] ePol_cells ePol_strip ePol_canon ePol_noTup ePol_ids

theorem c_access_Right_1 (g : Gp) (r : Rl) (ob : List V.Obj) (o : Nat) (ho : ob.getD o .gone = .cells (eRl r).cells) (hid : ob.all (Obj.idsB ob.length) = true) :
    ImpC PR n_access_Right_1 [eGp g, .ptr o 0] ob fun v ob' => v = .bool (g.name == r.group) ∧ ob' = ob := by
  refine imp_of_wp m_access_Right_1 rfl ?_
  unfold FnI v_access_Right_1
  have h1 := fun s => getD_cells (s := s) ho
  simp only [eRl_cells] at h1
  simp only [go_sem, eGp, getD_app_len, h1]
  have e : ∀ X : V.Obj, (ob ++ [X]).take ob.length = ob := fun X => by simp
  refine endI_of ob.length (.bool (g.name == r.group)) (Nat.le_refl _) (by simp) (by rw [e]; exact hid) rfl rfl ?_
  rw [e]; exact ⟨rfl, rfl⟩

theorem c_IndexFunc_Right (l : List Gp) (r : Rl) (ob : List V.Obj) (o : Nat) (hl : l.length ≤ maxLen) (ho : ob.getD o .gone = .cells (eRl r).cells) (hid : ob.all (Obj.idsB ob.length) = true) :
    ImpC PR n_slices_IndexFunc_Group_Group [.sl (l.map eGp) 0, .fn n_access_Right_1 [.ptr o 0]] ob fun v ob' => v = .int .i64 (idxS (fun g => g.name == r.group) l) ∧ ob' = ob := by
  refine imp_of_wp m_slices_IndexFunc_Group_Group rfl ?_
  have hol := getD_lt ho
  have fin : ∀ (env : List (Nat × VV)) (x : Int), get env 4 = .int .i64 x → x = idxS (fun g => g.name == r.group) l → EndI v_slices_IndexFunc_Group_Group ob.length (fun v ob' => v = .int .i64 (idxS (fun g => g.name == r.group) l) ∧ ob' = ob) .ret ⟨⟨env, ob⟩, ob.length, [], false⟩ := fun env x h1 h2 => by
    refine endI_of ob.length (.int .i64 x) (Nat.le_refl _) (Nat.le_refl _) (by rw [List.take_length]; exact hid) ?_ rfl ?_
    · simp only [v_slices_IndexFunc_Group_Group, resOfL, resOf, h1, outI]; rfl
    · rw [List.take_length, h2]; exact ⟨rfl, rfl⟩
  unfold FnI
  have hv : v_slices_IndexFunc_Group_Group.body = v_slices_IndexFunc_Group_Group.body := rfl
  conv at hv => rhs; unfold v_slices_IndexFunc_Group_Group
  rw [hv]
  simp only [go_sem]
  refine v_for (α := Nat) (base := ob.length) (marks := []) (pu := false) (good := fun i => i ≤ l.length ∧ (l.take i).any (fun g => g.name == r.group) = false) (m := fun i => l.length - i)
    (E := fun i => [(0, .sl (l.map eGp) 0), (1, .fn n_access_Right_1 [.ptr o 0]), (7, .int .i64 l.length), (8, .int .i64 i)]) (O := fun _ => ob)
    (by intro i _; refine ⟨by simp [VV.ids, idsL]; omega, hid, rfl⟩) rfl ?_ 0 _ ⟨by omega, rfl⟩ rfl (by simp) rfl rfl rfl
  rintro i ⟨hi, hp⟩
  simp only [go_sem]
  refine if_s (fun ht => ?_) (fun hf => ?_)
  · have hlt := len_lt ht
    have g := get_map eGp hlt
    simp only [go_sem, g, eGp_fold]
    refine callW_det (c_access_Right_1 l[i] r ob o ho hid) (by simp only [go_sem]) (by simp only [go_sem]) (.inl rfl) ?_
    simp only [go_sem]
    refine if_s (fun h5 => ?_) (fun h5 => ?_) <;> simp only [go_sem]
    · exact fin _ _ rfl (idxS_at hlt hp h5).symm
    · exact ⟨i + 1, ⟨by omega, any_step hlt hp h5⟩, by simp only; omega, by simp only [go_sem, wrap_len hlt hl], by simp, rfl, rfl, rfl⟩
  · simp only [go_sem]
    exact fin _ _ rfl (idxS_none (any_end (len_ge hf) hp)).symm

theorem c_ContainsFunc_Right (l : List Gp) (r : Rl) (ob : List V.Obj) (o : Nat) (hl : l.length ≤ maxLen) (ho : ob.getD o .gone = .cells (eRl r).cells) (hid : ob.all (Obj.idsB ob.length) = true) :
    ImpC PR n_slices_ContainsFunc_Group_Group [.sl (l.map eGp) 0, .fn n_access_Right_1 [.ptr o 0]] ob fun v ob' => v = .bool (l.any (fun g => g.name == r.group)) ∧ ob' = ob := by
  refine imp_of_wp m_slices_ContainsFunc_Group_Group rfl ?_
  unfold FnI v_slices_ContainsFunc_Group_Group
  simp only [go_sem]
  refine callW_det (c_IndexFunc_Right l r ob o hl ho hid) (by simp only [go_sem]) (by simp only [go_sem]) (.inl rfl) ?_
  simp only [go_sem, idxS_ge]
  refine endI_of ob.length (.bool _) (Nat.le_refl _) (Nat.le_refl _) (by rw [List.take_length]; exact hid) rfl rfl ?_
  rw [List.take_length]; exact ⟨rfl, rfl⟩

def ruleErr (p : Pol) (r : Rl) : Int :=
  if p.groups.any (fun g => g.name == r.group) = false then 8
  else if (!(r.repo == [])) = true ∧ r.repo.contains 47 = true then 3
  else if (!(r.repo == [])) = true ∧ validS r.repo = false then 3
  else if globRightS r.glob ≠ 0 then 3 else 0
def rightA (p : Pol) : Int :=
  if (rightG p.groups != 0) = true then rightG p.groups
  else if decide ((p.rules.length : Int) > 24) = true then 4
  else match p.rules.find? (fun r => ruleErr p r != 0) with
    | some r => ruleErr p r
    | none => 0
def okP (p : Pol) : Prop := okGs p.groups ∧ p.rules.length ≤ 1000000
theorem find_first {α : Type} {p : α → Bool} {l : List α} {i : Nat} (h : i < l.length) (ha : (l.take i).any p = false) (hx : p l[i] = true) : l.find? p = some l[i] := by
  rw [List.find?_eq_some_iff_getElem]
  refine ⟨hx, i, h, rfl, fun j hj => ?_⟩
  rw [List.any_eq_false] at ha
  have := ha l[j] (by rw [List.mem_take_iff_getElem]; exact ⟨j, by omega, rfl⟩)
  simpa using this
theorem find_no {α : Type} {p : α → Bool} {l : List α} (h : l.any p = false) : l.find? p = none := by
  rw [List.find?_eq_none]
  intro x hx
  rw [List.any_eq_false] at h
  exact h x hx

theorem c_access_Right (p : Pol) (ho : okP p) : PureC PR n_access_Right [ePol p] (.int .i64 (rightA p)) := by
  refine pure_of_wp m_access_Right rfl (by simp [ePol_argOk]) ?_
  unfold FnW v_access_Right
  have hlm : p.groups.length ≤ maxLen := by rw [maxLen_eq]; have := ho.1.1; omega
  have hrm : p.rules.length ≤ maxLen := by rw [maxLen_eq]; have := ho.2; omega
  simp only [go_sem, ePol]
  refine callW_pure (c_group_Right p.groups ho.1) (by simp only [go_sem]) (by simp only [go_sem]) ?_
  simp only [go_sem]
  refine if_s (fun h1 => ?_) (fun h1 => ?_) <;> simp only [go_sem]
  · simp only [rightA, h1, if_true]
  refine if_s (fun h2 => ?_) (fun h2 => ?_) <;> simp only [go_sem]
  · simp only [rightA, h1, h2, if_true, if_false, Bool.false_eq_true]
  refine v_for (α := Nat) (base := 0) (marks := []) (pu := true) (good := fun i => i ≤ p.rules.length ∧ (p.rules.take i).any (fun r => ruleErr p r != 0) = false) (m := fun i => p.rules.length - i)
    (E := fun i => [(1, .ptr 0 0), (18, .sl (p.rules.map eRl) 0), (19, .int .i64 p.rules.length), (20, .int .i64 i)]) (O := fun _ => [.cells (ePol p).cells])
    (by intro i _; simp [go_sem, Obj.idsB]) rfl ?_ 0 _ ⟨by omega, rfl⟩ rfl rfl rfl rfl rfl
  rintro i ⟨hi, hp⟩
  simp only [go_sem]
  refine if_s (fun ht => ?_) (fun hf => ?_)
  · have hlt := len_lt ht
    have gi := get_map eRl hlt
    have bad : ∀ x, x ≠ 0 → ruleErr p p.rules[i] = x → rightA p = x := fun x hx h => by
      have := find_first (p := fun r => ruleErr p r != 0) hlt hp (by simp [h, hx])
      simp only [rightA, h1, h2, Bool.false_eq_true, if_false, this, h]
    have nxt : ruleErr p p.rules[i] = 0 → ((p.rules.take (i + 1)).any (fun r => ruleErr p r != 0) = false) := fun h => any_step hlt hp (by simp [h])
    simp only [go_sem, gi]
    generalize p.rules[i] = r at *
    refine callW_det (c_ContainsFunc_Right p.groups r [.cells (ePol p).cells, .cells (eRl r).cells] 1 hlm rfl (by simp [Obj.idsB, idsL, VV.ids, ePol_cells, eRl_cells])) (by simp only [go_sem]) (by simp only [go_sem]) (.inl rfl) ?_
    simp only [go_sem]
    cases h3 : p.groups.any (fun g => g.name == r.group) with
    | false =>
      simp only [go_sem]
      rw [bad 8 (by decide) (by rw [ruleErr, if_pos h3])]
    | true =>
    have n3 : ¬ (p.groups.any (fun g => g.name == r.group) = false) := by rw [h3]; simp
    simp only [go_sem]
    have tail : ruleErr p r = (if globRightS r.glob ≠ 0 then 3 else 0) → True := fun _ => trivial
    cases h4 : (r.repo == []) with
    | true =>
      have he : ruleErr p r = (if globRightS r.glob ≠ 0 then 3 else 0) := by
        rw [ruleErr, if_neg n3, h4]; simp
      simp only [go_sem]
      refine callW_pure (c_glob_Right r.glob) (by simp only [go_sem]) (by simp only [go_sem]) ?_
      simp only [go_sem]
      refine if_s (fun h5 => ?_) (fun h5 => ?_) <;> simp only [go_sem]
      · have h5' : globRightS r.glob ≠ 0 := by simpa using h5
        rw [bad 3 (by decide) (by rw [he, if_pos h5'])]
      · have h5' : ¬ globRightS r.glob ≠ 0 := by simpa using h5
        exact ⟨i + 1, ⟨by omega, nxt (by rw [he, if_neg h5'])⟩, by simp only; omega, by simp only [go_sem, wrap_len hlt hrm], rfl, rfl, rfl, rfl⟩
    | false =>
      simp only [go_sem]
      refine callW_pure (c_strings_Contains r.repo 47) (by simp only [go_sem]) (by simp only [go_sem]) ?_
      simp only [go_sem]
      cases h5 : r.repo.contains 47 with
      | true =>
        simp only [go_sem]
        rw [bad 3 (by decide) (by rw [ruleErr, if_neg n3, h4, h5]; simp)]
      | false =>
        simp only [go_sem]
        refine callW_pure (c_glob_ValidPath r.repo) (by simp only [go_sem]) (by simp only [go_sem]) ?_
        simp only [go_sem]
        cases h6 : validS r.repo with
        | false =>
          simp only [go_sem]
          rw [bad 3 (by decide) (by rw [ruleErr, if_neg n3, h4, h5, h6]; simp)]
        | true =>
          have he : ruleErr p r = (if globRightS r.glob ≠ 0 then 3 else 0) := by
            rw [ruleErr, if_neg n3, h4, h5, h6]; simp
          simp only [go_sem]
          refine callW_pure (c_glob_Right r.glob) (by simp only [go_sem]) (by simp only [go_sem]) ?_
          simp only [go_sem]
          refine if_s (fun h7 => ?_) (fun h7 => ?_) <;> simp only [go_sem]
          · have h5' : globRightS r.glob ≠ 0 := by simpa using h7
            rw [bad 3 (by decide) (by rw [he, if_pos h5'])]
          · have h5' : ¬ globRightS r.glob ≠ 0 := by simpa using h7
            exact ⟨i + 1, ⟨by omega, nxt (by rw [he, if_neg h5'])⟩, by simp only; omega, by simp only [go_sem, wrap_len hlt hrm], rfl, rfl, rfl, rfl⟩
  · have h3 := find_no (any_end (len_ge hf) hp)
    simp only [go_sem]
    simp only [rightA, h1, h2, h3, Bool.false_eq_true, if_false]

def appliesS (p : Pol) (u : Int) (repo path : List UInt8) (r : Rl) : Bool := (r.repo == [] || r.repo == repo) && globMatchS r.glob path && inS p.groups r.group u
theorem c_access_applies (p : Pol) (r : Rl) (u : Int) (repo path : List UInt8) (ho : okP p) (hp : path.length ≤ 1000000) :
    PureC PR n_access_applies [ePol p, eRl r, .int .i64 u, .str repo, .str path] (.bool (appliesS p u repo path r)) := by
  refine pure_of_wp m_access_applies rfl (by simp [ePol_argOk, eRl_argOk, argOk_int, argOk_str]) ?_
  unfold FnW v_access_applies
  have key : ∀ b, (r.repo == [] || r.repo == repo) = b → appliesS p u repo path r = (b && globMatchS r.glob path && inS p.groups r.group u) := fun b h => by rw [appliesS, h]
  simp only [go_sem, ePol, eRl]
  cases h1 : (r.repo == []) with
  | true =>
    rw [key true (by rw [h1]; rfl)]
    simp only [go_sem]
    refine callW_pure (c_glob_Match r.glob path hp) (by simp only [go_sem]) (by simp only [go_sem]) ?_
    simp only [go_sem]
    cases h2 : globMatchS r.glob path with
    | false => simp only [go_sem, Bool.false_and, Bool.and_false]
    | true =>
      simp only [go_sem]
      refine callW_pure (c_group_In p.groups r.group u ho.1) (by simp only [go_sem]) (by simp only [go_sem]) ?_
      simp only [go_sem]
  | false =>
    simp only [go_sem]
    cases h3 : (r.repo == repo) with
    | false =>
      rw [key false (by rw [h1, h3]; rfl)]
      simp only [go_sem, Bool.false_and, Bool.and_false]
    | true =>
      rw [key true (by rw [h1, h3]; rfl)]
      simp only [go_sem]
      refine callW_pure (c_glob_Match r.glob path hp) (by simp only [go_sem]) (by simp only [go_sem]) ?_
      simp only [go_sem]
      cases h2 : globMatchS r.glob path with
      | false => simp only [go_sem, Bool.false_and, Bool.and_false]
      | true =>
        simp only [go_sem]
        refine callW_pure (c_group_In p.groups r.group u ho.1) (by simp only [go_sem]) (by simp only [go_sem]) ?_
        simp only [go_sem]

def decidingS (p : Pol) (u : Int) (repo path : List UInt8) : Int := if (rightA p != 0) = true then -1 else idxS (appliesS p u repo path) p.rules
theorem c_access_Deciding (p : Pol) (u : Int) (repo path : List UInt8) (ho : okP p) (hp : path.length ≤ 1000000) :
    PureC PR n_access_Deciding [ePol p, .int .i64 u, .str repo, .str path] (.int .i64 (decidingS p u repo path)) := by
  refine pure_of_wp m_access_Deciding rfl (by simp [ePol_argOk, argOk_int, argOk_str]) ?_
  unfold FnW v_access_Deciding
  have hrm : p.rules.length ≤ maxLen := by rw [maxLen_eq]; have := ho.2; omega
  simp only [go_sem, ePol]
  refine callW_pure (c_access_Right p ho) (by simp only [go_sem, ePol]) (by simp only [go_sem, ePol]) ?_
  simp only [go_sem]
  refine if_s (fun h1 => ?_) (fun h1 => ?_) <;> simp only [go_sem]
  · simp only [decidingS, h1, if_true]
  have hd : decidingS p u repo path = idxS (appliesS p u repo path) p.rules := by simp only [decidingS, h1, Bool.false_eq_true, if_false]
  rw [hd]
  refine v_for (α := Nat) (base := 0) (marks := []) (pu := true) (good := fun i => i ≤ p.rules.length ∧ (p.rules.take i).any (appliesS p u repo path) = false) (m := fun i => p.rules.length - i)
    (E := fun i => [(1, .int .i64 u), (2, .str repo), (3, .str path), (4, .ptr 0 0), (15, .int .i64 p.rules.length), (16, .int .i64 i)]) (O := fun _ => [.cells (ePol p).cells])
    (by intro i _; simp [go_sem, Obj.idsB]) rfl ?_ 0 _ ⟨by omega, rfl⟩ rfl rfl rfl rfl rfl
  rintro i ⟨hi, hpp⟩
  simp only [go_sem]
  refine if_s (fun ht => ?_) (fun hf => ?_)
  · have hlt := len_lt ht
    have gi := get_map eRl hlt
    simp only [go_sem, gi, ePol_fold, eRl_fold]
    refine callD_pure (c_access_applies p p.rules[i] u repo path ho hp) (by simp only [go_sem]) (by simp only [go_sem]) ?_
    simp only [go_sem]
    refine if_s (fun h2 => ?_) (fun h2 => ?_) <;> simp only [go_sem]
    · rw [idxS_at hlt hpp h2]
    · exact ⟨i + 1, ⟨by omega, any_step hlt hpp h2⟩, by simp only; omega, by simp only [go_sem, wrap_len hlt hrm], rfl, rfl, rfl, rfl⟩
  · simp only [go_sem]
    rw [idxS_none (any_end (len_ge hf) hpp)]
end Go.Proofs
