/- V, proofs: the law SavedTurns on data. Conditions: the lists' lengths. -/
import Derived.Test.YtifahgjmdiandaaGreatDoorSA8
import Derived.Test.YtifahgjmdiandaaGreatDoorSA9
set_option linter.unusedVariables false
set_option linter.unusedSimpArgs false
namespace Go.Proofs
open Go.V Go.RowKit

theorem changes_len (id : Int) (old found : List Ky) : (changesS id old found).length ≤ old.length + found.length := by
  have h1 := (isort_perm ltA ((sidesM (sortK old) (sortK found)).filterMap (alertS id))).length_eq
  have h2 := List.length_filterMap_le (alertS id) (sidesM (sortK old) (sortK found))
  have h3 := sides_len (sortK old) (sortK found)
  have h4 := sortK_len old
  have h5 := sortK_len found
  rw [changesS, h1]
  omega
theorem changes_kind {id : Int} {old found : List Ky} {x : Al} (h : x ∈ changesS id old found) : x.kind = 1 ∨ x.kind = 2 ∨ x.kind = 3 := by
  rw [changes_mem, alert_mem] at h
  rw [h.2.2.2]
  unfold kindS
  split
  · exact .inl rfl
  split
  · exact .inr (.inl rfl)
  · exact .inr (.inr rfl)
set_option maxRecDepth 100000 in
theorem law_Turns (halive : PureC PR n_L48_alive [] (.bool true)) (old found : List Ky) (ho : old.length ≤ maxLen) (hf : found.length ≤ maxLen) :
    PureC PR n_L48_SavedTurns [.sl (old.map eKy) 0, .sl (found.map eKy) 0] (.bool true) := by
  refine pure_of_wp m_L48_SavedTurns rfl (by simp [argOk_sl]) ?_
  unfold FnW v_L48_SavedTurns
  simp only [go_sem]
  refine callW_pure halive rfl rfl ?_
  simp only [go_sem]
  cases h1 : decide ((old.length : Int) > 60) with
  | true => simp only [go_sem]
  | false =>
  simp only [go_sem]
  refine if_s (fun h2 => ?_) (fun h2 => ?_) <;> simp only [go_sem]
  have hol : old.length ≤ 60 := by simp at h1; omega
  have hfl : found.length ≤ 60 := by simp at h2; omega
  refine callW_pure (c_Changes 1 old found (by omega) (by omega)) (by simp only [go_sem]) (by simp only [go_sem]) ?_
  simp only [go_sem]
  refine callW_pure (c_Changes 1 found old (by omega) (by omega)) (by simp only [go_sem]) (by simp only [go_sem]) ?_
  rw [changes_swap 1 old found]
  have hcl := changes_len 1 old found
  have hck : ∀ x ∈ changesS 1 old found, x.kind = 1 ∨ x.kind = 2 ∨ x.kind = 3 := fun x hx => changes_kind hx
  generalize changesS 1 old found = l at *
  have hlm : l.length ≤ maxLen := by rw [maxLen_eq]; omega
  have h0 : ((l.length : Int) != (l.length : Int)) = false := by simp
  simp only [go_sem, h0]
  refine v_for (α := Nat) (base := 0) (marks := []) (pu := true) (good := fun i => i ≤ l.length) (m := fun i => l.length - i)
    (E := fun i => [(5, .sl (l.map eAl) 0), (6, .sl ((l.map swapA).map eAl) 0), (7, .int .i64 i)]) (O := fun _ => [])
    (by intro i _; simp [go_sem, Obj.idsB]) rfl ?_ 0 _ (by omega) (by simp only [go_sem, List.map_map]) rfl rfl rfl rfl
  intro i hi
  simp only [go_sem]
  refine if_s (fun ht => ?_) (fun hff => ?_)
  · have hlt := len_lt ht
    have hx := hck _ (List.getElem_mem hlt)
    have gi := get_map eAl hlt
    have hlt2 : i < (l.map swapA).length := by simpa using hlt
    have gj := get_map eAl hlt2
    have gs : (l.map swapA)[i] = swapA l[i] := by simp
    rw [gs] at gj
    generalize l[i] = x at *
    have e1 : (x.repo == x.repo) = true := by simp
    have e2 : (x.path == x.path) = true := by simp
    have k13 : ((1 : Int) == 3) = false := by decide
    have k23 : ((2 : Int) == 3) = false := by decide
    have k33 : ((3 : Int) == 3) = true := by decide
    have n13 : ((1 : Int) != 3) = true := by decide
    have n23 : ((2 : Int) != 3) = true := by decide
    have n33 : ((3 : Int) != 3) = false := by decide
    have w3 : IntKind.i64.wrap (1 + (3 - 1)) = 3 := by decide
    have w4 : IntKind.i64.wrap (2 + (3 - 2)) = 3 := by decide
    have gi' : (l.map eAl)[i]? = some (.agg [.int .i64 x.id, .int .i64 x.kind, .str x.repo, .str x.path]) := gi
    have gj' : ((l.map swapA).map eAl)[i]? = some (.agg [.int .i64 x.id, .int .i64 (if x.kind = 3 then 3 else 3 - x.kind), .str x.repo, .str x.path]) := gj
    rcases hx with hx | hx | hx
    · rw [hx] at gi' gj'
      rw [if_neg (by decide)] at gj'
      simp only [go_sem, gi', gj', e1, e2, k13, k23, n13, n23, w3, w4, n33, Bool.not_true]
      exact ⟨i + 1, by omega, by simp only; omega, by simp only [go_sem, wrap_len hlt hlm], rfl, rfl, rfl, rfl⟩
    · rw [hx] at gi' gj'
      rw [if_neg (by decide)] at gj'
      simp only [go_sem, gi', gj', e1, e2, k13, k23, n13, n23, w3, w4, n33, Bool.not_true]
      exact ⟨i + 1, by omega, by simp only; omega, by simp only [go_sem, wrap_len hlt hlm], rfl, rfl, rfl, rfl⟩
    · rw [hx] at gi' gj'
      rw [if_pos rfl] at gj'
      simp only [go_sem, gi', gj', e1, e2, k33, n33, Bool.not_true]
      exact ⟨i + 1, by omega, by simp only; omega, by simp only [go_sem, wrap_len hlt hlm], rfl, rfl, rfl, rfl⟩
  · simp only [go_sem]
end Go.Proofs
