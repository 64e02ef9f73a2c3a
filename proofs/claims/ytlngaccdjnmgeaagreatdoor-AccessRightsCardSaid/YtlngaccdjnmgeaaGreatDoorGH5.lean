/- V, proofs: the document's check of groups. Conditions: the lists' lengths. -/
import Derived.Test.YtlngaccdjnmgeaaGreatDoorGH4
set_option linter.unusedVariables false
set_option linter.unusedSimpArgs false
namespace Go.Proofs
open Go.V Go.RowKit

theorem inside_sub {l : List Gp} {name : Nm} {S : List Nm} (hS : closedN l S) (hk : ∀ x ∈ kidsS l name, x ∈ S) : ∀ n, ∀ x ∈ insideN l name n, x ∈ S
  | 0, x, hx => by
    rw [insideN, putAll_mem] at hx
    rcases hx with hx | hx
    · simp at hx
    · exact hk x hx
  | n + 1, x, hx => by
    rw [insideN, belowS_mem] at hx
    rcases hx with hx | ⟨m, hm, hx⟩
    · exact inside_sub hS hk n x hx
    · exact hS m (inside_sub hS hk n m hm) x hx
theorem falls_of {l : List Gp} (ha : allNamed l) (hs : ∀ g ∈ l, g.name ∉ insideS l g.name) : falls l := by
  intro name c hc
  have hS := inside_closed ha name
  have hcS : c ∈ insideS l name := inside_kids hc
  have hsub : ∀ x ∈ insideS l c, x ∈ insideS l name := inside_sub hS (fun x hx => hS c hcS x hx) _
  have hcn : c ∉ insideS l c := by
    obtain ⟨g, hg, hgn⟩ := List.mem_map.1 (ha c (kids_mem hc))
    rw [← hgn]
    exact hs g hg
  have hN : (c :: insideS l c).Nodup := List.nodup_cons.2 ⟨hcn, (insideN_ok l c _).nd⟩
  have := nodup_len (c :: insideS l c) (insideS l name) hN fun x hx => by
    rcases List.mem_cons.1 hx with rfl | hx
    · exact hcS
    · exact hsub x hx
  simp only [List.length_cons] at this
  unfold rank
  omega
def oneR (l : List Gp) (i : Nat) (g : Gp) : Int := if simpleR g.name = false then 3 else if decide (idxS (fun x => x.name == g.name) l < (i : Int)) = true then 7 else membersR l g
def oneRat (l : List Gp) (i : Nat) : Int := match l[i]? with | some g => oneR l i g | none => 0
def depthV (l : List Gp) (name : Nm) : Int := depthR l (rank l name + 1) name
def rightR43 (l : List Gp) : Int :=
  if decide ((l.length : Int) > 16) = true then 4
  else match (List.range l.length).find? (fun i => oneRat l i != 0) with
    | some i => oneRat l i
    | none => if l.any (fun g => (insideS l g.name).contains g.name) = true then 10
      else if l.any (fun g => decide (depthV l g.name > 12)) = true then 4 else 0
theorem membersR_named {l : List Gp} {g : Gp} (h : membersR l g = 0) : ∀ n ∈ g.groups, (findS l n).isSome = true := by
  unfold membersR at h
  split at h
  · cases h
  split at h
  · cases h
  split at h
  · cases h
  split at h
  · cases h
  split at h
  · cases h
  rename_i q
  intro n hn
  simp only [Bool.not_eq_true, List.any_eq_false, Option.isNone_iff_eq_none] at q
  have := q n hn
  cases hf : findS l n with
  | none => simp [hf] at this
  | some g => rfl
theorem oneR_named {l : List Gp} (h : (List.range l.length).any (fun i => oneRat l i != 0) = false) : allNamed l := by
  intro n hn
  obtain ⟨g, hg, hgn⟩ := List.mem_flatMap.1 hn
  obtain ⟨i, hil, rfl⟩ := List.mem_iff_getElem.1 hg
  rw [List.any_eq_false] at h
  have h0 : oneRat l i = 0 := by simpa using h i (List.mem_range.2 hil)
  rw [oneRat, List.getElem?_eq_getElem hil] at h0
  simp only [oneR] at h0
  split at h0
  · cases h0
  split at h0
  · cases h0
  exact find_is (membersR_named h0 n hgn)

theorem c_R43_Right (l : List Gp) (ho : okGs l) : PureC PR n_R43_Right [.sl (l.map eGp) 0] (.int .i64 (rightR43 l)) := by
  refine pure_of_wp m_R43_Right rfl (by simp [argOk_sl]) ?_
  unfold FnW v_R43_Right
  have hl := ho.1
  have hlm : l.length ≤ maxLen := by rw [maxLen_eq]; omega
  simp only [go_sem]
  refine if_s (fun h1 => ?_) (fun h1 => ?_) <;> simp only [go_sem]
  · simp only [rightR43, h1, if_true]
  refine v_for (α := Nat) (base := 0) (marks := []) (pu := true) (good := fun i => i ≤ l.length ∧ (List.range i).any (fun i => oneRat l i != 0) = false) (m := fun i => l.length - i)
    (E := fun i => [(0, .sl (l.map eGp) 0), (3, .int .i64 i)]) (O := fun _ => [])
    (by intro i _; simp [go_sem, Obj.idsB]) rfl ?_ 0 _ ⟨by omega, rfl⟩ rfl rfl rfl rfl rfl
  rintro i ⟨hi, hp⟩
  simp only [go_sem]
  refine if_s (fun ht => ?_) (fun hf => ?_)
  · have hlt := len_lt ht
    have gi := get_map eGp hlt
    have hm := ho.2 _ (List.getElem_mem hlt)
    have he : oneRat l i = oneR l i l[i] := by simp only [oneRat, List.getElem?_eq_getElem hlt]
    have stop : ∀ z : Int, oneR l i l[i] = z → (z != 0) = true → rightR43 l = z := fun z hz hz0 => by
      have h2 : (oneRat l i != 0) = true := by rw [he, hz]; exact hz0
      simp only [rightR43, h1, Bool.false_eq_true, if_false, range_find (p := fun i => oneRat l i != 0) hlt hp h2]
      rw [he, hz]
    simp only [go_sem, gi]
    refine callW_pure (c_R02_Simple l[i].name) (by simp only [go_sem]) (by simp only [go_sem]) ?_
    simp only [go_sem]
    cases hS : simpleR l[i].name with
    | false =>
      rw [stop 3 (by rw [oneR, if_pos hS]) rfl]
      simp only [go_sem]
    | true =>
    simp only [go_sem, gi]
    refine callW_pure (c_R43_at l l[i].name hlm) (by simp only [go_sem]) (by simp only [go_sem]) ?_
    simp only [go_sem]
    refine if_s (fun h7 => ?_) (fun h7 => ?_) <;> simp only [go_sem]
    · rw [stop 7 (by rw [oneR, if_neg (by rw [hS]; simp), if_pos h7]) rfl]
    have hO : oneR l i l[i] = membersR l l[i] := by rw [oneR, if_neg (by rw [hS]; simp), if_neg (by rw [h7]; simp)]
    have hfold : VV.agg [.str l[i].name, .sl (l[i].users.map (VV.int .i64)) 0, .sl (l[i].groups.map VV.str) 0] = eGp l[i] := eGp_fold _
    simp only [go_sem, gi, hfold]
    refine callW_pure (c_R43_members l l[i] (by omega) (by omega) (by omega)) (by simp only [go_sem]) (by simp only [go_sem]) ?_
    simp only [go_sem]
    refine if_s (fun h8 => ?_) (fun h8 => ?_) <;> simp only [go_sem]
    · rw [stop (membersR l l[i]) hO h8]
    · exact ⟨i + 1, ⟨by omega, range_step hp (by rw [he, hO]; exact h8)⟩, by simp only; omega, by simp only [go_sem, wrap_len hlt hlm], rfl, rfl, rfl, rfl⟩
  have h2 : (List.range l.length).any (fun i => oneRat l i != 0) = false := by
    have : i = l.length := by have := len_ge hf; omega
    rw [← this]; exact hp
  have h3 := range_none h2
  simp only [go_sem]
  refine v_for (α := Nat) (base := 0) (marks := []) (pu := true) (good := fun i => i ≤ l.length ∧ (l.take i).any (fun g => (insideS l g.name).contains g.name) = false) (m := fun i => l.length - i)
    (E := fun i => [(0, .sl (l.map eGp) 0), (5, .int .i64 i)]) (O := fun _ => [])
    (by intro i _; simp [go_sem, Obj.idsB]) rfl ?_ 0 _ ⟨by omega, rfl⟩ rfl rfl rfl rfl rfl
  rintro i ⟨hi, hp⟩
  simp only [go_sem]
  refine if_s (fun ht => ?_) (fun hf => ?_)
  · have hlt := len_lt ht
    have gi := get_map eGp hlt
    have hin := (insideN_ok l l[i].name l.length).len
    have hal := allN_len ho
    simp only [go_sem, gi]
    refine callD_pure (c_R43_inside l l[i].name ho) (by simp only [go_sem]) (by simp only [go_sem]) ?_
    simp only [go_sem, gi]
    refine callD_pure (c_R43_inText (insideS l l[i].name) l[i].name (by rw [maxLen_eq]; unfold insideS; omega)) (by simp only [go_sem]) (by simp only [go_sem]) ?_
    rw [any_contains]
    simp only [go_sem]
    refine if_s (fun h4 => ?_) (fun h4 => ?_) <;> simp only [go_sem]
    · simp only [rightR43, h1, h3, any_stop (p := fun g => (insideS l g.name).contains g.name) hlt h4, Bool.false_eq_true, if_false, if_true]
    · exact ⟨i + 1, ⟨by omega, any_step hlt hp h4⟩, by simp only; omega, by simp only [go_sem, wrap_len hlt hlm], rfl, rfl, rfl, rfl⟩
  have h4 := any_end (len_ge hf) hp
  have hr : falls l := falls_of (oneR_named h2) fun g hg hm => by
    rw [List.any_eq_false] at h4
    exact h4 g hg (List.contains_iff_mem.2 hm)
  simp only [go_sem]
  refine v_for (α := Nat) (base := 0) (marks := []) (pu := true) (good := fun i => i ≤ l.length ∧ (l.take i).any (fun g => decide (depthV l g.name > 12)) = false) (m := fun i => l.length - i)
    (E := fun i => [(0, .sl (l.map eGp) 0), (6, .int .i64 i)]) (O := fun _ => [])
    (by intro i _; simp [go_sem, Obj.idsB]) rfl ?_ 0 _ ⟨by omega, rfl⟩ rfl rfl rfl rfl rfl
  rintro i ⟨hi, hp⟩
  simp only [go_sem]
  refine if_s (fun ht => ?_) (fun hf => ?_)
  · have hlt := len_lt ht
    have gi := get_map eGp hlt
    have hin := (insideN_ok l l[i].name l.length).len
    have hal := allN_len ho
    have hrk : rank l l[i].name ≤ 1000000 := by unfold rank insideS; omega
    simp only [go_sem, gi]
    refine callW_pure (c_R43_depth l ho hr (rank l l[i].name + 1) l[i].name (by omega) (by omega)) (by simp only [go_sem]) (by simp only [go_sem]) ?_
    simp only [go_sem]
    refine if_s (fun h5 => ?_) (fun h5 => ?_) <;> simp only [go_sem]
    · have h5' : decide (depthV l l[i].name > 12) = true := h5
      have h6 := any_stop (p := fun g : Gp => decide (depthV l g.name > 12)) hlt h5'
      simp only [rightR43, h1, h3, h4, h6, Bool.false_eq_true, if_false, if_true]
    · exact ⟨i + 1, ⟨by omega, any_step hlt hp h5⟩, by simp only; omega, by simp only [go_sem, wrap_len hlt hlm], rfl, rfl, rfl, rfl⟩
  have h5 := any_end (len_ge hf) hp
  simp only [go_sem]
  simp only [rightR43, h1, h3, h4, h5, Bool.false_eq_true, if_false]
end Go.Proofs
