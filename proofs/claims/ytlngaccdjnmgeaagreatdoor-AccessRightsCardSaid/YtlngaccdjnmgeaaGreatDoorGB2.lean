/- V, proofs: one group is checked. Conditions: the lists' lengths. -/
import Derived.Test.YtlngaccdjnmgeaaGreatDoorGB1
set_option linter.unusedVariables false
set_option linter.unusedSimpArgs false
namespace Go.Proofs
open Go.V Go.RowKit

theorem hdSz_map {α : Type} {f : α → VV} {n : Nat} (h : ∀ a, (f a).cells.length = n) : ∀ l : List α, hdSz (l.map f) n = true
  | [] => rfl
  | a :: r => by simp [hdSz, h a]
theorem hd_gp (l : List Gp) : hdSz (l.map eGp) 3 = true := hdSz_map (f := eGp) (n := 3) (fun _ => rfl) l
theorem hd_int (l : List Int) : hdSz (l.map (VV.int .i64)) 1 = true := hdSz_map (f := VV.int .i64) (n := 1) (fun _ => rfl) l
theorem hd_str (l : List (List UInt8)) : hdSz (l.map VV.str) 1 = true := hdSz_map (f := VV.str) (n := 1) (fun _ => rfl) l
theorem take_map' {α : Type} (f : α → VV) (l : List α) (i : Nat) : (l.map f).take i = (l.take i).map f := by rw [List.map_take]
attribute [go_sem] hd_gp hd_int hd_str

def dupAt {α : Type} [BEq α] (l : List α) (k : Nat) : Bool := match l[k]? with | some x => (l.take k).contains x | none => false
def dupS {α : Type} [BEq α] (l : List α) : Bool := (List.range l.length).any (dupAt l)
def outU (u : Int) : Bool := decide (u < 1) || decide (u > 9999)
def oneG (l : List Gp) (i : Nat) (g : Gp) : Int :=
  if validS g.name = false then 3 else if g.name.contains 47 = true then 3
  else if (findS (l.take i) g.name).isSome = true then 7
  else if decide (((g.users.length : Int) + g.groups.length) > 16) = true then 4
  else if g.users.any outU = true then 2
  else if dupS g.users = true then 7
  else if dupS g.groups = true then 7
  else if g.groups.any (fun n => (findS l n).isNone) = true then 8 else 0
theorem dup_step {α : Type} [BEq α] {l : List α} {i : Nat} (h : i < l.length) (hp : (List.range i).any (dupAt l) = false) (hx : (l.take i).contains l[i] = false) :
    (List.range (i + 1)).any (dupAt l) = false := by
  rw [List.range_succ, List.any_append, hp]
  simp only [List.any_cons, List.any_nil, Bool.or_false, Bool.false_or, dupAt, List.getElem?_eq_getElem h]
  exact hx
theorem dup_stop {α : Type} [BEq α] {l : List α} {i : Nat} (h : i < l.length) (hx : (l.take i).contains l[i] = true) : dupS l = true := by
  unfold dupS
  rw [List.any_eq_true]
  refine ⟨i, List.mem_range.2 h, ?_⟩
  simp only [dupAt, List.getElem?_eq_getElem h]
  exact hx
theorem dup_end {α : Type} [BEq α] {l : List α} {i : Nat} (h : i = l.length) (hp : (List.range i).any (dupAt l) = false) : dupS l = false := by
  subst h; exact hp

theorem c_group_one (l : List Gp) (i : Nat) (hi : i < l.length) (hl : l.length ≤ 1000000) (hu : l[i].users.length ≤ 1000000) (hg : l[i].groups.length ≤ 1000000) :
    PureC PR n_group_one [.sl (l.map eGp) 0, .int .i64 i] (.int .i64 (oneG l i l[i])) := by
  refine pure_of_wp m_group_one rfl (by simp [argOk_sl, argOk_int]) ?_
  unfold FnW v_group_one
  have gi := get_map eGp hi
  generalize l[i] = g at *
  have hlm : l.length ≤ maxLen := by rw [maxLen_eq]; omega
  have hum : g.users.length ≤ maxLen := by rw [maxLen_eq]; omega
  have hgm : g.groups.length ≤ maxLen := by rw [maxLen_eq]; omega
  simp only [go_sem, gi]
  refine callW_pure (c_glob_ValidPath g.name) rfl rfl ?_
  simp only [go_sem]
  cases h1 : validS g.name with
  | false =>
    simp only [go_sem, oneG, h1, if_true]
  | true =>
  simp only [go_sem]
  refine callW_pure (c_strings_Contains g.name 47) rfl rfl ?_
  simp only [go_sem]
  refine if_s (fun h2 => ?_) (fun h2 => ?_) <;> simp only [go_sem]
  · simp only [oneG, h1, h2, if_true, if_false, Bool.true_eq_false]
  simp only [go_sem, bnd (Nat.le_of_lt hi), take_map', Bool.true_eq_false, if_false]
  refine callD_pure (c_group_find (l.take i) g.name (by simp; omega)) (by simp [go_sem]) (by simp [go_sem]) ?_
  simp only [go_sem]
  refine if_s (fun h3 => ?_) (fun h3 => ?_) <;> simp only [go_sem]
  · simp only [oneG, h1, h2, h3, if_true, if_false, Bool.true_eq_false, Bool.false_eq_true]
  have hw : IntKind.i64.wrap ((g.users.length : Int) + g.groups.length) = (g.users.length : Int) + g.groups.length := wrap_int (by omega) (by omega)
  simp only [go_sem, hw]
  refine if_s (fun h4 => ?_) (fun h4 => ?_) <;> simp only [go_sem]
  · simp only [oneG, h1, h2, h3, h4, if_true, if_false, Bool.true_eq_false, Bool.false_eq_true]
  -- the users' range
  refine v_for (α := Nat) (base := 0) (marks := []) (pu := true) (good := fun k => k ≤ g.users.length ∧ (g.users.take k).any outU = false) (m := fun k => g.users.length - k)
    (E := fun k => [(0, .sl (l.map eGp) 0), (5, .ptr 0 0), (50, .sl (g.users.map (VV.int .i64)) 0), (51, .int .i64 g.users.length), (52, .int .i64 k)]) (O := fun _ => [.cells (eGp g).cells, .cells (eGp ((findS (l.take i) g.name).getD gp0)).cells])
    (by intro i _; simp [go_sem, Obj.idsB]) rfl ?_ 0 _ ⟨by omega, rfl⟩ rfl rfl rfl rfl rfl
  rintro k ⟨hk, hp⟩
  simp only [go_sem]
  refine if_s (fun ht => ?_) (fun hf => ?_)
  · have hlt := len_lt ht
    have gk := get_map (VV.int .i64) hlt
    have bad : outU g.users[k] = true → oneG l i g = 2 := fun h => by simp only [oneG, h1, h2, h3, h4, any_stop hlt h, if_true, if_false, Bool.true_eq_false, Bool.false_eq_true]
    simp only [go_sem, gk]
    refine g_s (fun h5 => ?_) (fun h5 => ?_) <;> simp only [go_sem, h5]
    · refine if_s (fun h6 => ?_) (fun h6 => ?_) <;> simp only [go_sem]
      · rw [bad (by simp only [outU, h5, h6]; rfl)]
      · exact ⟨k + 1, ⟨by omega, any_step hlt hp (by simp only [outU, h5, h6]; rfl)⟩, by simp only; omega, by simp only [go_sem, wrap_len hlt hum], rfl, rfl, rfl, rfl⟩
    · rw [bad (by have h5' : decide (g.users[k] < 1) = true := h5
                  simp only [outU, h5', Bool.true_or])]
  have h5 := any_end (len_ge hf) hp
  simp only [go_sem]
  -- users twice
  refine v_for (α := Nat) (base := 0) (marks := []) (pu := true) (good := fun k => k ≤ g.users.length ∧ (List.range k).any (dupAt g.users) = false) (m := fun k => g.users.length - k)
    (E := fun k => [(0, .sl (l.map eGp) 0), (5, .ptr 0 0), (64, .sl (g.users.map (VV.int .i64)) 0), (65, .int .i64 g.users.length), (66, .int .i64 k)]) (O := fun _ => [.cells (eGp g).cells, .cells (eGp ((findS (l.take i) g.name).getD gp0)).cells])
    (by intro i _; simp [go_sem, Obj.idsB]) rfl ?_ 0 _ ⟨by omega, rfl⟩ rfl rfl rfl rfl rfl
  rintro k ⟨hk, hp⟩
  simp only [go_sem]
  refine if_s (fun ht => ?_) (fun hf => ?_)
  · have hlt := len_lt ht
    have gk := get_map (VV.int .i64) hlt
    simp only [go_sem, gk, bnd (Nat.le_of_lt hlt), take_map', Bool.true_eq_false, if_false]
    refine callW_pure (c_slices_Contains_int (g.users.take k) g.users[k] (by simp; omega)) (by simp [go_sem]) (by simp [go_sem]) ?_
    simp only [go_sem]
    refine if_s (fun h6 => ?_) (fun h6 => ?_) <;> simp only [go_sem]
    · simp only [oneG, h1, h2, h3, h4, h5, dup_stop hlt h6, if_true, if_false, Bool.true_eq_false, Bool.false_eq_true]
    · exact ⟨k + 1, ⟨by omega, dup_step hlt hp h6⟩, by simp only; omega, by simp only [go_sem, wrap_len hlt hum], rfl, rfl, rfl, rfl⟩
  have h6 := dup_end (by have := len_ge hf; omega) hp
  simp only [go_sem]
  refine v_for (α := Nat) (base := 0) (marks := []) (pu := true) (good := fun k => k ≤ g.groups.length ∧ (List.range k).any (dupAt g.groups) = false) (m := fun k => g.groups.length - k)
    (E := fun k => [(0, .sl (l.map eGp) 0), (5, .ptr 0 0), (79, .sl (g.groups.map VV.str) 0), (80, .int .i64 g.groups.length), (81, .int .i64 k)]) (O := fun _ => [.cells (eGp g).cells, .cells (eGp ((findS (l.take i) g.name).getD gp0)).cells])
    (by intro i _; simp [go_sem, Obj.idsB]) rfl ?_ 0 _ ⟨by omega, rfl⟩ rfl rfl rfl rfl rfl
  rintro k ⟨hk, hp⟩
  simp only [go_sem]
  refine if_s (fun ht => ?_) (fun hf => ?_)
  · have hlt := len_lt ht
    have gk := get_map VV.str hlt
    simp only [go_sem, gk, bnd (Nat.le_of_lt hlt), take_map', Bool.true_eq_false, if_false]
    refine callW_pure (c_slices_Contains_string (g.groups.take k) g.groups[k] (by simp; omega)) (by simp [go_sem]) (by simp [go_sem]) ?_
    simp only [go_sem]
    refine if_s (fun h7 => ?_) (fun h7 => ?_) <;> simp only [go_sem]
    · simp only [oneG, h1, h2, h3, h4, h5, h6, dup_stop hlt h7, if_true, if_false, Bool.true_eq_false, Bool.false_eq_true]
    · exact ⟨k + 1, ⟨by omega, dup_step hlt hp h7⟩, by simp only; omega, by simp only [go_sem, wrap_len hlt hgm], rfl, rfl, rfl, rfl⟩
  have h7 := dup_end (by have := len_ge hf; omega) hp
  simp only [go_sem]
  refine v_for (α := Nat) (base := 0) (marks := []) (pu := true) (good := fun k => k ≤ g.groups.length ∧ (g.groups.take k).any (fun n => (findS l n).isNone) = false) (m := fun k => g.groups.length - k)
    (E := fun k => [(0, .sl (l.map eGp) 0), (94, .sl (g.groups.map VV.str) 0), (95, .int .i64 g.groups.length), (96, .int .i64 k)]) (O := fun _ => [.cells (eGp g).cells, .cells (eGp ((findS (l.take i) g.name).getD gp0)).cells])
    (by intro i _; simp [go_sem, Obj.idsB]) rfl ?_ 0 _ ⟨by omega, rfl⟩ rfl rfl rfl rfl rfl
  rintro k ⟨hk, hp⟩
  simp only [go_sem]
  refine if_s (fun ht => ?_) (fun hf => ?_)
  · have hlt := len_lt ht
    have gk := get_map VV.str hlt
    simp only [go_sem, gk]
    refine callW_pure (c_group_find l g.groups[k] hlm) (by simp [go_sem]) (by simp [go_sem]) ?_
    simp only [go_sem]
    cases h8 : (findS l g.groups[k]) with
    | none =>
      simp only [go_sem, Option.isSome_none]
      have hst := any_stop (p := fun n => (findS l n).isNone) hlt (by simp [h8])
      simp only [oneG, h1, h2, h3, h4, h5, h6, h7, hst, if_true, if_false, Bool.true_eq_false, Bool.false_eq_true]
    | some y =>
      simp only [go_sem]
      exact ⟨k + 1, ⟨by omega, any_step hlt hp (by simp [h8])⟩, by simp only; omega, by simp only [go_sem, wrap_len hlt hgm], rfl, rfl, rfl, rfl⟩
  have h8 := any_end (len_ge hf) hp
  simp only [go_sem]
  simp only [oneG, h1, h2, h3, h4, h5, h6, h7, h8, if_true, if_false, Bool.true_eq_false, Bool.false_eq_true]
end Go.Proofs
