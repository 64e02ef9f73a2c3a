/- V, proofs: groups are checked. Conditions: the lists' lengths. -/
import Derived.Test.YtlngaccdjnmgeaaGreatDoorGB5
set_option linter.unusedVariables false
set_option linter.unusedSimpArgs false
namespace Go.Proofs
open Go.V Go.RowKit

def oneAt (l : List Gp) (i : Nat) : Int := match l[i]? with | some g => oneG l i g | none => 0
def rightG (l : List Gp) : Int :=
  if decide ((l.length : Int) > 16) = true then 4
  else match (List.range l.length).find? (fun i => oneAt l i != 0) with
    | some i => oneAt l i
    | none => if l.any (fun g => (containedS l g.name).contains g.name) = true then 10
      else if l.any (fun g => decide (depthS l g.name > 12)) = true then 4 else 0
theorem range_find {p : Nat → Bool} {n i : Nat} (h : i < n) (ha : (List.range i).any p = false) (hx : p i = true) : (List.range n).find? p = some i := by
  rw [List.find?_eq_some_iff_getElem]
  refine ⟨hx, i, by simpa using h, by simp, fun j hj => ?_⟩
  rw [List.any_eq_false] at ha
  simpa using ha j (List.mem_range.2 hj)
theorem range_none {p : Nat → Bool} {n : Nat} (ha : (List.range n).any p = false) : (List.range n).find? p = none := by
  rw [List.find?_eq_none]
  rw [List.any_eq_false] at ha
  simpa using ha
theorem range_step {p : Nat → Bool} {i : Nat} (ha : (List.range i).any p = false) (hx : p i = false) : (List.range (i + 1)).any p = false := by
  rw [List.range_succ, List.any_append, ha]; simp [hx]

theorem c_group_Right (l : List Gp) (ho : okGs l) : PureC PR n_group_Right [.sl (l.map eGp) 0] (.int .i64 (rightG l)) := by
  refine pure_of_wp m_group_Right rfl (by simp [argOk_sl]) ?_
  unfold FnW v_group_Right
  have hl := ho.1
  have hlm : l.length ≤ maxLen := by rw [maxLen_eq]; omega
  simp only [go_sem]
  refine if_s (fun h1 => ?_) (fun h1 => ?_) <;> simp only [go_sem]
  · simp only [rightG, h1, if_true]
  refine v_for (α := Nat) (base := 0) (marks := []) (pu := true) (good := fun i => i ≤ l.length ∧ (List.range i).any (fun i => oneAt l i != 0) = false) (m := fun i => l.length - i)
    (E := fun i => [(0, .sl (l.map eGp) 0), (13, .int .i64 l.length), (14, .int .i64 i)]) (O := fun _ => [])
    (by intro i _; simp [go_sem, Obj.idsB]) rfl ?_ 0 _ ⟨by omega, rfl⟩ rfl rfl rfl rfl rfl
  rintro i ⟨hi, hp⟩
  simp only [go_sem]
  refine if_s (fun ht => ?_) (fun hf => ?_)
  · have hlt := len_lt ht
    have hm := ho.2 _ (List.getElem_mem hlt)
    have he : oneAt l i = oneG l i l[i] := by simp only [oneAt, List.getElem?_eq_getElem hlt]
    simp only [go_sem]
    refine callW_pure (c_group_one l i hlt (by omega) (by omega) (by omega)) (by simp only [go_sem]) (by simp only [go_sem]) ?_
    simp only [go_sem]
    rw [← he]
    refine if_s (fun h2 => ?_) (fun h2 => ?_) <;> simp only [go_sem]
    · simp only [rightG, h1, Bool.false_eq_true, if_false, range_find (p := fun i => oneAt l i != 0) hlt hp h2]
    · exact ⟨i + 1, ⟨by omega, range_step hp h2⟩, by simp only; omega, by simp only [go_sem, wrap_len hlt hlm], rfl, rfl, rfl, rfl⟩
  have h2 : (List.range l.length).any (fun i => oneAt l i != 0) = false := by
    have : i = l.length := by have := len_ge hf; omega
    rw [← this]; exact hp
  have h3 := range_none h2
  simp only [go_sem]
  refine v_for (α := Nat) (base := 0) (marks := []) (pu := true) (good := fun i => i ≤ l.length ∧ (l.take i).any (fun g => (containedS l g.name).contains g.name) = false) (m := fun i => l.length - i)
    (E := fun i => [(0, .sl (l.map eGp) 0), (24, .sl (l.map eGp) 0), (25, .int .i64 l.length), (26, .int .i64 i)]) (O := fun _ => [])
    (by intro i _; simp [go_sem, Obj.idsB]) rfl ?_ 0 _ ⟨by omega, rfl⟩ rfl rfl rfl rfl rfl
  rintro i ⟨hi, hp⟩
  simp only [go_sem]
  refine if_s (fun ht => ?_) (fun hf => ?_)
  · have hlt := len_lt ht
    have gi := get_map eGp hlt
    simp only [go_sem, gi]
    generalize hx : l[i] = g at *
    have hq := c_group_contained l g.name (by omega) (fun g hg => by have := (ho.2 g hg).2; omega) [.cells [.str g.name, .sl (g.users.map (VV.int .i64)) 0, .sl (g.groups.map VV.str) 0]] (by simp [Obj.idsB, idsL, VV.ids, idsL_ints, idsL_strs])
    refine callD_det (b := true) hq (by simp only [go_sem]) (by simp only [go_sem]) rfl (fun _ => keeps_app) ?_
    simp only [go_sem, mfind_fe]
    cases h4 : (containedS l g.name).contains g.name with
    | true =>
      have hst := any_stop (p := fun g => (containedS l g.name).contains g.name) hlt (by rw [hx]; exact h4)
      simp only [go_sem]
      simp only [rightG, h1, h3, hst, Bool.false_eq_true, if_false, if_true]
    | false =>
      simp only [go_sem]
      exact ⟨i + 1, ⟨by omega, any_step hlt hp (by rw [hx]; exact h4)⟩, by simp only; omega, by simp only [go_sem, wrap_len hlt hlm], rfl, rfl, rfl, rfl⟩
  have h4 := any_end (len_ge hf) hp
  simp only [go_sem]
  refine v_for (α := Nat) (base := 0) (marks := []) (pu := true) (good := fun i => i ≤ l.length ∧ (l.take i).any (fun g => decide (depthS l g.name > 12)) = false) (m := fun i => l.length - i)
    (E := fun i => [(0, .sl (l.map eGp) 0), (38, .sl (l.map eGp) 0), (39, .int .i64 l.length), (40, .int .i64 i)]) (O := fun _ => [])
    (by intro i _; simp [go_sem, Obj.idsB]) rfl ?_ 0 _ ⟨by omega, rfl⟩ rfl rfl rfl rfl rfl
  rintro i ⟨hi, hp⟩
  simp only [go_sem]
  refine if_s (fun ht => ?_) (fun hf => ?_)
  · have hlt := len_lt ht
    have gi := get_map eGp hlt
    simp only [go_sem, gi]
    refine callW_pure (c_group_Depth l l[i].name (by omega) (fun g hg => by have := (ho.2 g hg).2; omega)) (by simp only [go_sem]) (by simp only [go_sem]) ?_
    simp only [go_sem]
    refine if_s (fun h5 => ?_) (fun h5 => ?_) <;> simp only [go_sem]
    · have hst := any_stop (p := fun g => decide (depthS l g.name > 12)) hlt h5
      simp only [rightG, h1, h3, h4, hst, Bool.false_eq_true, if_false, if_true]
    · exact ⟨i + 1, ⟨by omega, any_step hlt hp h5⟩, by simp only; omega, by simp only [go_sem, wrap_len hlt hlm], rfl, rfl, rfl, rfl⟩
  have h5 := any_end (len_ge hf) hp
  simp only [go_sem]
  simp only [rightG, h1, h3, h4, h5, Bool.false_eq_true, if_false]
end Go.Proofs
