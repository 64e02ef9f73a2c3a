/- V, proofs: whether a string is a path. Conditions: none. -/
import Derived.Test.YtlngaccdjnmgeaaGreatDoorGA4
set_option linter.unusedVariables false
set_option linter.unusedSimpArgs false
namespace Go.Proofs
open Go.V Go.RowKit

def nameOk (s : List UInt8) : Bool := !(s == [46]) && !(s == [46, 46]) && !decide ((s.length : Int) < 1) && !decide ((s.length : Int) > 24) && s.all letterS
def validS (p : List UInt8) : Bool := if decide ((p.length : Int) > 60) = true then false else (splitL 47 p).all nameOk
theorem splitL_len (c : UInt8) : ∀ s, (splitL c s).length ≤ s.length + 1
  | [] => by simp [splitL]
  | b :: r => by
    have := splitL_len c r
    simp only [splitL]
    split
    · simp only [List.length_cons]; omega
    · split
      · rename_i h t q; rw [q] at this; simp only [List.length_cons] at this ⊢; omega
      · simp
theorem splitL_part (c : UInt8) : ∀ s, ∀ x ∈ splitL c s, x.length ≤ s.length
  | [], x, h => by simp [splitL] at h; simp [h]
  | b :: r, x, h => by
    have ih := splitL_part c r
    simp only [splitL] at h
    split at h
    · rcases List.mem_cons.1 h with rfl | h
      · simp
      · have := ih x h; simp only [List.length_cons]; omega
    · split at h
      · rename_i a t q
        rw [q] at ih
        rcases List.mem_cons.1 h with rfl | h
        · have := ih a (by simp); simp only [List.length_cons]; omega
        · have := ih x (by simp [h]); simp only [List.length_cons]; omega
      · simp at h; subst h; simp

theorem c_glob_ValidPath (p : List UInt8) : PureC PR n_glob_ValidPath [.str p] (.bool (validS p)) := by
  refine pure_of_wp m_glob_ValidPath rfl (by simp [argOk_str]) ?_
  unfold FnW v_glob_ValidPath
  simp only [go_sem]
  refine if_s (fun h => ?_) (fun h => ?_) <;> simp only [go_sem]
  · simp only [validS, h, if_true]
  have hl : p.length ≤ 60 := by
    have : ¬ ((p.length : Int) > 60) := by simpa using h
    omega
  have hv : validS p = (splitL 47 p).all nameOk := by simp only [validS, h]; rfl
  rw [hv]
  refine callW_pure (c_strings_Split p 47 (by omega)) rfl rfl ?_
  simp only [go_sem]
  have hn : (splitL 47 p).length ≤ 61 := by have := splitL_len 47 p; omega
  have hp := splitL_part 47 p
  generalize splitL 47 p = l at *
  refine v_for (α := Nat) (base := 0) (marks := []) (pu := true) (good := fun i => i ≤ l.length ∧ (l.take i).all nameOk = true) (m := fun i => l.length - i)
    (E := fun i => [(10, .sl (l.map VV.str) 0), (11, .int .i64 l.length), (12, .int .i64 i)]) (O := fun _ => [])
    (by intro i _; simp [go_sem, Obj.idsB]) rfl ?_ 0 _ ⟨by omega, rfl⟩ rfl rfl rfl rfl rfl
  rintro i ⟨hi, ha⟩
  simp only [go_sem]
  refine if_s (fun ht => ?_) (fun hf => ?_)
  · have hlt := len_lt ht
    have g := get_map VV.str hlt
    have hs := hp l[i] (List.getElem_mem hlt)
    simp only [go_sem, g]
    generalize hx : l[i] = s at *
    have bad : nameOk s = false → l.all nameOk = false := fun h => all_stop hlt (by rw [hx]; exact h)
    refine g_s (fun h1 => ?_) (fun h1 => ?_) <;> simp only [go_sem, h1]
    rotate_left
    · rw [bad (by have h1' : (s == [46]) = true := h1
                  simp only [nameOk, h1']; rfl)]
    refine g_s (fun h2 => ?_) (fun h2 => ?_) <;> simp only [go_sem, h2]
    rotate_left
    · rw [bad (by have h2' : (s == [46, 46]) = true := h2
                  simp only [nameOk, h1, h2']; rfl)]
    refine g_s (fun h3 => ?_) (fun h3 => ?_) <;> simp only [go_sem, h3]
    rotate_left
    · rw [bad (by have h3' : decide ((s.length : Int) < 1) = true := h3
                  simp only [nameOk, h1, h2, h3']; rfl)]
    refine if_s (fun h4 => ?_) (fun h4 => ?_) <;> simp only [go_sem]
    · rw [bad (by simp only [nameOk, h1, h2, h3, h4]; rfl)]
    have hno : nameOk s = s.all letterS := by simp only [nameOk, h1, h2, h3, h4]; rfl
    refine v_for (α := Nat) (base := 0) (marks := []) (pu := true) (good := fun j => j ≤ s.length ∧ (s.take j).all letterS = true) (m := fun j => s.length - j)
      (E := fun j => [(4, .str s), (5, .int .i64 j), (10, .sl (l.map VV.str) 0), (11, .int .i64 l.length), (12, .int .i64 i)]) (O := fun _ => [])
      (by intro i _; simp [go_sem, Obj.idsB]) rfl ?_ 0 _ ⟨by omega, rfl⟩ rfl rfl rfl rfl rfl
    rintro j ⟨hj, hb⟩
    simp only [go_sem]
    refine if_s (fun ht => ?_) (fun hf => ?_)
    · have hje : j = s.length := by simp at ht; omega
      simp only [go_sem]
      have hw : IntKind.i64.wrap ((i : Int) + 1) = ((i + 1 : Nat) : Int) := wrap_succ (by omega)
      exact ⟨i + 1, ⟨by omega, all_step hlt ha (by rw [hx, hno]; exact all_end (by omega) hb)⟩, by simp only; omega, by simp only [go_sem, hw], rfl, rfl, rfl, rfl⟩
    · have hjl : j < s.length := by simp at hf; omega
      have gj := str_get hjl
      simp only [go_sem, gj]
      refine callW_pure (c_glob_letter s[j]) (by simp [go_sem, byteInt]) (by simp [go_sem, byteInt]) ?_
      simp only [go_sem]
      refine if_s (fun h5 => ?_) (fun h5 => ?_) <;> simp only [go_sem]
      · have h5' : letterS s[j] = false := by simpa using h5
        rw [bad (by rw [hno]; exact all_stop hjl h5')]
      · have h5' : letterS s[j] = true := by simpa using h5
        have hw : IntKind.i64.wrap ((j : Int) + 1) = ((j + 1 : Nat) : Int) := wrap_succ (by omega)
        exact ⟨j + 1, ⟨by omega, all_step hjl hb h5'⟩, by simp only; omega, by simp only [go_sem, hw], rfl, rfl, rfl, rfl⟩
  · simp only [go_sem]
    rw [all_end (len_ge hf) ha]
end Go.Proofs
