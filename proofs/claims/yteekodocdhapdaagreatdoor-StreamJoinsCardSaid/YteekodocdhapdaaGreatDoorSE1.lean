/- V, proofs: comparing numbers and strings, the first that is not 0, the document of an ID. Conditions: the lists' lengths. -/
import Derived.Test.YteekodocdhapdaaGreatDoorSO3
set_option linter.unusedVariables false
set_option linter.unusedSimpArgs false
namespace Go.Proofs
open Go.V Go.RowKit

theorem c_isNaNi (s : Int) : PureC PR n_cmp_isNaN_int [.int .i64 s] (.bool false) := by
  refine pure_of_wp m_cmp_isNaN_int rfl (by simp [argOk_int]) ?_
  unfold FnW v_cmp_isNaN_int
  have h : (s != s) = false := by simp
  simp only [go_sem, h]
theorem c_isNaNs (s : List UInt8) : PureC PR n_cmp_isNaN_string [.str s] (.bool false) := by
  refine pure_of_wp m_cmp_isNaN_string rfl (by simp [argOk_str]) ?_
  unfold FnW v_cmp_isNaN_string
  have h : (s == s) = true := by simp
  simp only [go_sem, h, Bool.not_true]
theorem c_cmpI (a b : Int) : PureC PR n_cmp_Compare_int [.int .i64 a, .int .i64 b] (.int .i64 (cmpI a b)) := by
  refine pure_of_wp m_cmp_Compare_int rfl (by simp [argOk_int]) ?_
  unfold FnW v_cmp_Compare_int
  simp only [go_sem]
  refine callW_pure (c_isNaNi a) (by simp only [go_sem]) (by simp only [go_sem]) ?_
  simp only [go_sem]
  refine callW_pure (c_isNaNi b) (by simp only [go_sem]) (by simp only [go_sem]) ?_
  simp only [go_sem]
  refine if_s (fun h1 => ?_) (fun h1 => ?_) <;> simp only [go_sem]
  · rw [cmpI, if_pos (by simpa using h1)]
  · have h1' : ¬ a < b := by simpa using h1
    refine if_s (fun h2 => ?_) (fun h2 => ?_) <;> simp only [go_sem]
    · rw [cmpI, if_neg h1', if_pos (by simpa using h2)]
    · rw [cmpI, if_neg h1', if_neg (by simpa using h2)]
theorem c_cmpB (a b : List UInt8) : PureC PR n_cmp_Compare_string [.str a, .str b] (.int .i64 (cmpB a b)) := by
  refine pure_of_wp m_cmp_Compare_string rfl (by simp [argOk_str]) ?_
  unfold FnW v_cmp_Compare_string
  simp only [go_sem]
  refine callW_pure (c_isNaNs a) (by simp only [go_sem]) (by simp only [go_sem]) ?_
  simp only [go_sem]
  refine callW_pure (c_isNaNs b) (by simp only [go_sem]) (by simp only [go_sem]) ?_
  simp only [go_sem]
  refine if_s (fun h1 => ?_) (fun h1 => ?_) <;> simp only [go_sem]
  · rw [cmpB, if_pos h1]
  · refine if_s (fun h2 => ?_) (fun h2 => ?_) <;> simp only [go_sem]
    · have h3 : (a == b) = false := by simpa [h1] using h2
      rw [cmpB, if_neg (by simp [h1]), if_neg (by simp [h3])]
    · have h3 : (a == b) = true := by simpa [h1] using h2
      rw [cmpB, if_neg (by simp [h1]), if_pos h3]
theorem orL_at : ∀ {l : List Int} {i : Nat} (h : i < l.length), (l.take i).any (fun x => x != 0) = false → (l[i] != 0) = true → orL l = l[i]
  | x :: r, 0, _, _, hx => by simp only [List.getElem_cons_zero] at hx ⊢; rw [orL, if_pos hx]
  | x :: r, i + 1, h, ha, hx => by
    simp only [List.take_succ_cons, List.any_cons, Bool.or_eq_false_iff] at ha
    rw [orL, if_neg (by rw [ha.1]; simp)]
    exact orL_at (by simpa using h) ha.2 hx
theorem orL_none : ∀ {l : List Int}, l.any (fun x => x != 0) = false → orL l = 0
  | [], _ => rfl
  | x :: r, h => by
    simp only [List.any_cons, Bool.or_eq_false_iff] at h
    rw [orL, if_neg (by rw [h.1]; simp)]
    exact orL_none h.2
theorem c_orL (l : List Int) (hl : l.length ≤ maxLen) : PureC PR n_cmp_Or_int [.sl (l.map (VV.int .i64)) 0] (.int .i64 (orL l)) := by
  refine pure_of_wp m_cmp_Or_int rfl (by simp [argOk_sl]) ?_
  unfold FnW v_cmp_Or_int
  simp only [go_sem]
  refine v_for (α := Nat) (base := 0) (marks := []) (pu := true) (good := fun i => i ≤ l.length ∧ (l.take i).any (fun x => x != 0) = false) (m := fun i => l.length - i)
    (E := fun i => [(3, .int .i64 0), (6, .sl (l.map (VV.int .i64)) 0), (7, .int .i64 l.length), (8, .int .i64 i)]) (O := fun _ => [])
    (by intro i _; simp [go_sem, Obj.idsB]) rfl ?_ 0 _ ⟨by omega, rfl⟩ rfl rfl rfl rfl rfl
  rintro i ⟨hi, hp⟩
  simp only [go_sem]
  refine if_s (fun ht => ?_) (fun hf => ?_)
  · have hlt := len_lt ht
    have gi := get_map (VV.int .i64) hlt
    simp only [go_sem, gi]
    refine if_s (fun h4 => ?_) (fun h4 => ?_) <;> simp only [go_sem]
    · rw [orL_at hlt hp h4]
    · exact ⟨i + 1, ⟨by omega, any_step hlt hp h4⟩, by simp only; omega, by simp only [go_sem, wrap_len hlt hl], rfl, rfl, rfl, rfl⟩
  · simp only [go_sem]
    rw [orL_none (any_end (len_ge hf) hp)]

/-! ### documents -/
theorem eDc_cells (g : Dc) : (eDc g).cells = [.int .i64 g.id, .str g.repo, .str g.path, .str g.text, .sl (g.on.map VV.str) 0] := byRfl rfl
theorem eDc_strip (g : Dc) : (eDc g).strip = eDc g := byRfl rfl
theorem eDc_canon (g : Dc) : (eDc g).canon = true := byRfl rfl
theorem eDc_noTup (g : Dc) : (eDc g).noTup = true := byRfl rfl
theorem eDc_ids (g : Dc) (n : Nat) : (eDc g).ids n = true := by simp [eDc, VV.ids, idsL]
theorem hd_maps' {α : Type} {f : α → VV} {n : Nat} (h : ∀ x, (f x).cells.length = n) (l : List α) : hdSz (l.map f) n = true := by
  cases l with
  | nil => rfl
  | cons x r => simp [hdSz, h x]
theorem hd_dc (l : List Dc) : hdSz (l.map eDc) 5 = true := hd_maps' (f := eDc) (n := 5) (fun _ => rfl) l
attribute [go_sem] eDc_cells eDc_strip eDc_canon eDc_noTup eDc_ids hd_dc
def noDc : Dc := ⟨0, [], [], [], []⟩
def docOr (l : List Dc) (id : Int) : Dc := (getS l id).getD noDc
theorem get_at {l : List Dc} {id : Int} {i : Nat} (h : i < l.length) (hp : (l.take i).any (fun d => d.id == id) = false) (hx : (l[i].id == id) = true) : getS l id = some l[i] := by
  unfold getS
  rw [List.find?_eq_some_iff_getElem]
  refine ⟨hx, i, h, rfl, fun j hj => ?_⟩
  rw [List.any_eq_false] at hp
  have : l[j] ∈ l.take i := List.mem_take_iff_getElem.2 ⟨j, by omega, rfl⟩
  simpa using hp _ this
theorem get_no {l : List Dc} {id : Int} (hp : l.any (fun d => d.id == id) = false) : getS l id = none := by
  unfold getS
  rw [List.find?_eq_none]
  rw [List.any_eq_false] at hp
  exact hp
theorem c_Get (l : List Dc) (id : Int) (hl : l.length ≤ maxLen) : PureC PR n_docs_Get [.sl (l.map eDc) 0, .int .i64 id] (.tup [eDc (docOr l id), .bool (getS l id).isSome]) := by
  refine pure_of_wp m_docs_Get rfl (by simp [argOk_sl, argOk_int]) ?_
  unfold FnW v_docs_Get
  simp only [go_sem]
  refine v_for (α := Nat) (base := 0) (marks := []) (pu := true) (good := fun i => i ≤ l.length ∧ (l.take i).any (fun d => d.id == id) = false) (m := fun i => l.length - i)
    (E := fun i => [(1, .int .i64 id), (4, .ptr 0 0), (8, .sl (l.map eDc) 0), (9, .int .i64 l.length), (10, .int .i64 i)]) (O := fun _ => [.cells [.int .i64 0, .str [], .str [], .str [], .nils]])
    (by intro i _; simp [go_sem, Obj.idsB]) rfl ?_ 0 _ ⟨by omega, rfl⟩ rfl rfl rfl rfl rfl
  rintro i ⟨hi, hp⟩
  simp only [go_sem]
  refine if_s (fun ht => ?_) (fun hf => ?_)
  · have hlt := len_lt ht
    have gi := get_map eDc hlt
    simp only [go_sem, gi, eDc]
    refine if_s (fun h4 => ?_) (fun h4 => ?_) <;> simp only [go_sem]
    · have hg := get_at hlt hp (by simpa using h4)
      simp only [docOr, hg, Option.getD_some, Option.isSome_some, eDc]
    · exact ⟨i + 1, ⟨by omega, any_step hlt hp (by simpa using h4)⟩, by simp only; omega, by simp only [go_sem, wrap_len hlt hl], rfl, rfl, rfl, rfl⟩
  · simp only [go_sem]
    have hg := get_no (any_end (len_ge hf) hp)
    simp only [docOr, hg, Option.getD_none, Option.isSome_none]
    rfl
theorem c_R28_Get (l : List Dc) (id : Int) (hl : l.length ≤ maxLen) : PureC PR n_R28_Get [.sl (l.map eDc) 0, .int .i64 id] (.tup [eDc (docOr l id), .bool (getS l id).isSome]) := by
  refine pure_of_wp m_R28_Get rfl (by simp [argOk_sl, argOk_int]) ?_
  unfold FnW v_R28_Get
  simp only [go_sem]
  refine v_for (α := Nat) (base := 0) (marks := []) (pu := true) (good := fun i => i ≤ l.length ∧ (l.take i).any (fun d => d.id == id) = false) (m := fun i => l.length - i)
    (E := fun i => [(0, .sl (l.map eDc) 0), (1, .int .i64 id), (4, .ptr 0 0), (6, .int .i64 i)]) (O := fun _ => [.cells [.int .i64 0, .str [], .str [], .str [], .nils]])
    (by intro i _; simp [go_sem, Obj.idsB]) rfl ?_ 0 _ ⟨by omega, rfl⟩ rfl rfl rfl rfl rfl
  rintro i ⟨hi, hp⟩
  simp only [go_sem]
  refine if_s (fun ht => ?_) (fun hf => ?_)
  · have hlt := len_lt ht
    have gi := get_map eDc hlt
    simp only [go_sem, gi, eDc]
    refine if_s (fun h4 => ?_) (fun h4 => ?_) <;> simp only [go_sem]
    · have hg := get_at hlt hp (by simpa using h4)
      simp only [go_sem, gi, eDc]
      simp only [docOr, hg, Option.getD_some, Option.isSome_some, eDc]
    · exact ⟨i + 1, ⟨by omega, any_step hlt hp (by simpa using h4)⟩, by simp only; omega, by simp only [go_sem, wrap_len hlt hl], rfl, rfl, rfl, rfl⟩
  · simp only [go_sem]
    have hg := get_no (any_end (len_ge hf) hp)
    simp only [docOr, hg, Option.getD_none, Option.isSome_none]
    rfl
end Go.Proofs
