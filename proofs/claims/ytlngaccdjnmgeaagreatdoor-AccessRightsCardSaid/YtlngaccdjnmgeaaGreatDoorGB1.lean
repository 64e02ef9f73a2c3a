/- V, proofs: groups: finding one, checking one. Conditions: the lists' lengths. -/
import Derived.Test.YtlngaccdjnmgeaaGreatDoorGA6
set_option linter.unusedVariables false
set_option linter.unusedSimpArgs false
namespace Go.Proofs
open Go.V Go.RowKit

structure Gp where
  name : List UInt8
  users : List Int
  groups : List (List UInt8)
def eGp (g : Gp) : VV := .agg [.str g.name, .sl (g.users.map (VV.int .i64)) 0, .sl (g.groups.map VV.str) 0]
def gp0 : Gp := ⟨[], [], []⟩
theorem eGp_cells (g : Gp) : (eGp g).cells = [.str g.name, .sl (g.users.map (VV.int .i64)) 0, .sl (g.groups.map VV.str) 0] := byRfl rfl
theorem eGp_strip (g : Gp) : (eGp g).strip = eGp g := byRfl rfl
theorem eGp_canon (g : Gp) : (eGp g).canon = true := byRfl rfl
theorem eGp_noTup (g : Gp) : (eGp g).noTup = true := byRfl rfl
theorem eGp_ids (g : Gp) (n : Nat) : (eGp g).ids n = true := by simp [eGp, VV.ids, idsL]
theorem eGp_argOk (g : Gp) : argOk (eGp g) = true := by simp [eGp, argOk, VV.noHnd, VV.noHnd0, VV.ids, idsL]
attribute [go_sem] eGp_cells eGp_strip eGp_canon eGp_noTup eGp_ids
theorem eGp_fold (g : Gp) : VV.agg [.str g.name, .sl (g.users.map (VV.int .i64)) 0, .sl (g.groups.map VV.str) 0] = eGp g := byRfl rfl

/-- the first place where p holds; -1 -/
def idxS {α : Type} (p : α → Bool) (l : List α) : Int := if l.any p then (l.findIdx p : Int) else -1
theorem idxS_at {α : Type} {p : α → Bool} {l : List α} {i : Nat} (h : i < l.length) (ha : (l.take i).any p = false) (hx : p l[i] = true) : idxS p l = (i : Int) := by
  rw [idxS, if_pos (any_stop h hx)]
  congr 1
  rw [List.findIdx_eq h]
  refine ⟨hx, fun j hj => ?_⟩
  rw [List.any_eq_false] at ha
  have := ha l[j] (by rw [List.mem_take_iff_getElem]; exact ⟨j, by omega, rfl⟩)
  simpa using this
theorem idxS_none {α : Type} {p : α → Bool} {l : List α} (h : l.any p = false) : idxS p l = -1 := by rw [idxS, h]; rfl
theorem idxS_ge {α : Type} (p : α → Bool) (l : List α) : decide (idxS p l ≥ 0) = l.any p := by
  unfold idxS
  cases h : l.any p
  · rfl
  · simp

theorem c_slices_Index_string (l : List (List UInt8)) (n : List UInt8) (hl : l.length ≤ maxLen) : PureC PR n_slices_Index_string_string [.sl (l.map VV.str) 0, .str n] (.int .i64 (idxS (fun x => n == x) l)) := by
  refine pure_of_wp m_slices_Index_string_string rfl (by simp [argOk_sl, argOk_str]) ?_
  unfold FnW v_slices_Index_string_string
  simp only [go_sem]
  refine v_for (α := Nat) (base := 0) (marks := []) (pu := true) (good := fun i => i ≤ l.length ∧ (l.take i).any (fun x => n == x) = false) (m := fun i => l.length - i)
    (E := fun i => [(0, .sl (l.map VV.str) 0), (1, .str n), (7, .int .i64 l.length), (8, .int .i64 i)]) (O := fun _ => [])
    (by intro i _; simp [go_sem, Obj.idsB]) rfl ?_ 0 _ ⟨by omega, rfl⟩ rfl rfl rfl rfl rfl
  rintro i ⟨hi, hp⟩
  simp only [go_sem]
  refine if_s (fun ht => ?_) (fun hf => ?_)
  · have hlt := len_lt ht
    have g := get_map VV.str hlt
    simp only [go_sem, g]
    refine if_s (fun h5 => ?_) (fun h5 => ?_) <;> simp only [go_sem]
    · rw [idxS_at hlt hp h5]
    · exact ⟨i + 1, ⟨by omega, any_step hlt hp h5⟩, by simp only; omega, by simp only [go_sem, wrap_len hlt hl], rfl, rfl, rfl, rfl⟩
  · simp only [go_sem]
    rw [idxS_none (any_end (len_ge hf) hp)]
theorem c_slices_Index_int (l : List Int) (n : Int) (hl : l.length ≤ maxLen) : PureC PR n_slices_Index_int_int [.sl (l.map (VV.int .i64)) 0, .int .i64 n] (.int .i64 (idxS (fun x => n == x) l)) := by
  refine pure_of_wp m_slices_Index_int_int rfl (by simp [argOk_sl, argOk_int]) ?_
  unfold FnW v_slices_Index_int_int
  simp only [go_sem]
  refine v_for (α := Nat) (base := 0) (marks := []) (pu := true) (good := fun i => i ≤ l.length ∧ (l.take i).any (fun x => n == x) = false) (m := fun i => l.length - i)
    (E := fun i => [(0, .sl (l.map (VV.int .i64)) 0), (1, .int .i64 n), (7, .int .i64 l.length), (8, .int .i64 i)]) (O := fun _ => [])
    (by intro i _; simp [go_sem, Obj.idsB]) rfl ?_ 0 _ ⟨by omega, rfl⟩ rfl rfl rfl rfl rfl
  rintro i ⟨hi, hp⟩
  simp only [go_sem]
  refine if_s (fun ht => ?_) (fun hf => ?_)
  · have hlt := len_lt ht
    have g := get_map (VV.int .i64) hlt
    simp only [go_sem, g]
    refine if_s (fun h5 => ?_) (fun h5 => ?_) <;> simp only [go_sem]
    · rw [idxS_at hlt hp h5]
    · exact ⟨i + 1, ⟨by omega, any_step hlt hp h5⟩, by simp only; omega, by simp only [go_sem, wrap_len hlt hl], rfl, rfl, rfl, rfl⟩
  · simp only [go_sem]
    rw [idxS_none (any_end (len_ge hf) hp)]
theorem contains_any {α : Type} [BEq α] (l : List α) (n : α) : l.any (fun x => n == x) = l.contains n := by
  rw [List.contains_eq_any_beq]
theorem c_slices_Contains_string (l : List (List UInt8)) (n : List UInt8) (hl : l.length ≤ maxLen) : PureC PR n_slices_Contains_string_string [.sl (l.map VV.str) 0, .str n] (.bool (l.contains n)) := by
  refine pure_of_wp m_slices_Contains_string_string rfl (by simp [argOk_sl, argOk_str]) ?_
  unfold FnW v_slices_Contains_string_string
  simp only [go_sem]
  refine callW_pure (c_slices_Index_string l n hl) rfl rfl ?_
  simp only [go_sem, idxS_ge, contains_any]
theorem c_slices_Contains_int (l : List Int) (n : Int) (hl : l.length ≤ maxLen) : PureC PR n_slices_Contains_int_int [.sl (l.map (VV.int .i64)) 0, .int .i64 n] (.bool (l.contains n)) := by
  refine pure_of_wp m_slices_Contains_int_int rfl (by simp [argOk_sl, argOk_int]) ?_
  unfold FnW v_slices_Contains_int_int
  simp only [go_sem]
  refine callW_pure (c_slices_Index_int l n hl) rfl rfl ?_
  simp only [go_sem, idxS_ge, contains_any]

def findS (l : List Gp) (name : List UInt8) : Option Gp := l.find? fun g => g.name == name
theorem find_at {l : List Gp} {name : List UInt8} {i : Nat} (h : i < l.length) (ha : (l.take i).any (fun g => g.name == name) = false) (hx : (l[i].name == name) = true) : findS l name = some l[i] := by
  unfold findS
  rw [List.find?_eq_some_iff_getElem]
  refine ⟨hx, i, h, rfl, fun j hj => ?_⟩
  rw [List.any_eq_false] at ha
  have := ha l[j] (by rw [List.mem_take_iff_getElem]; exact ⟨j, by omega, rfl⟩)
  simpa using this
theorem find_none {l : List Gp} {name : List UInt8} (h : l.any (fun g => g.name == name) = false) : findS l name = none := by
  unfold findS
  rw [List.find?_eq_none]
  intro x hx
  rw [List.any_eq_false] at h
  simpa using h x hx
theorem c_group_find (l : List Gp) (name : List UInt8) (hl : l.length ≤ maxLen) : PureC PR n_group_find [.sl (l.map eGp) 0, .str name] (.tup [eGp ((findS l name).getD gp0), .bool (findS l name).isSome]) := by
  refine pure_of_wp m_group_find rfl (by simp [argOk_sl, argOk_str]) ?_
  unfold FnW v_group_find
  simp only [go_sem]
  refine v_for (α := Nat) (base := 0) (marks := []) (pu := true) (good := fun i => i ≤ l.length ∧ (l.take i).any (fun g => g.name == name) = false) (m := fun i => l.length - i)
    (E := fun i => [(1, .str name), (4, .ptr 0 0), (8, .sl (l.map eGp) 0), (9, .int .i64 l.length), (10, .int .i64 i)]) (O := fun _ => [.cells [.str [], .nils, .nils]])
    (by intro i _; simp [go_sem, Obj.idsB]) rfl ?_ 0 _ ⟨by omega, rfl⟩ rfl rfl rfl rfl rfl
  rintro i ⟨hi, hp⟩
  simp only [go_sem]
  refine if_s (fun ht => ?_) (fun hf => ?_)
  · have hlt := len_lt ht
    have g := get_map eGp hlt
    simp only [go_sem, g]
    refine if_s (fun h5 => ?_) (fun h5 => ?_) <;> simp only [go_sem]
    · rw [find_at hlt hp h5]
      rfl
    · exact ⟨i + 1, ⟨by omega, any_step hlt hp h5⟩, by simp only; omega, by simp only [go_sem, wrap_len hlt hl], rfl, rfl, rfl, rfl⟩
  · simp only [go_sem]
    rw [find_none (any_end (len_ge hf) hp)]
    rfl
end Go.Proofs
