/- V, proofs: the document's check of a group's members. Conditions: the lists' lengths. -/
import Derived.Test.YtlngaccdjnmgeaaGreatDoorGH2
set_option linter.unusedVariables false
set_option linter.unusedSimpArgs false
namespace Go.Proofs
open Go.V Go.RowKit

def membersR (l : List Gp) (g : Gp) : Int :=
  if decide (((g.users.length : Int) + g.groups.length) > 16) = true then 4
  else if g.users.any outU = true then 2
  else if dupS g.users = true then 7
  else if dupS g.groups = true then 7
  else if g.groups.any (fun n => (findS l n).isNone) = true then 8 else 0
theorem any_contains (l : List Nm) (s : Nm) : (l.any fun x => x == s) = l.contains s := by
  rw [Bool.eq_iff_iff]
  simp [List.any_eq_true, List.contains_iff_mem]
theorem c_R43_members (l : List Gp) (g : Gp) (hl : l.length ≤ 1000000) (hu : g.users.length ≤ 1000000) (hg : g.groups.length ≤ 1000000) :
    PureC PR n_R43_members [.sl (l.map eGp) 0, eGp g] (.int .i64 (membersR l g)) := by
  refine pure_of_wp m_R43_members rfl (by simp [argOk_sl, eGp_argOk]) ?_
  unfold FnW v_R43_members
  have hlm : l.length ≤ maxLen := by rw [maxLen_eq]; omega
  have hum : g.users.length ≤ maxLen := by rw [maxLen_eq]; omega
  have hgm : g.groups.length ≤ maxLen := by rw [maxLen_eq]; omega
  have hw : IntKind.i64.wrap ((g.users.length : Int) + g.groups.length) = (g.users.length : Int) + g.groups.length := wrap_int (by omega) (by omega)
  have big : decide (((g.users.length : Int) + g.groups.length) > 16) = true → membersR l g = 4 := fun h => by rw [membersR, if_pos h]
  simp only [go_sem, eGp]
  cases h1 : decide ((g.users.length : Int) > 16) with
  | true =>
    rw [big (by simp at h1 ⊢; omega)]
    simp only [go_sem, h1]
  | false =>
  simp only [go_sem, h1]
  cases h2 : decide ((g.groups.length : Int) > 16) with
  | true =>
    rw [big (by simp at h2 ⊢; omega)]
    simp only [go_sem, h2]
  | false =>
  simp only [go_sem, h2, hw]
  cases h4 : decide (((g.users.length : Int) + g.groups.length) > 16) with
  | true =>
    rw [big h4]
    simp only [go_sem, h4]
  | false =>
  simp only [go_sem, h4]
  -- the users' range
  refine v_for (α := Nat) (base := 0) (marks := []) (pu := true) (good := fun k => k ≤ g.users.length ∧ (g.users.take k).any outU = false) (m := fun k => g.users.length - k)
    (E := fun k => [(0, .sl (l.map eGp) 0), (3, .ptr 0 0), (5, .int .i64 k)]) (O := fun _ => [.cells (eGp g).cells])
    (by intro i _; simp [go_sem, Obj.idsB]) rfl ?_ 0 _ ⟨by omega, rfl⟩ rfl rfl rfl rfl rfl
  rintro k ⟨hk, hp⟩
  simp only [go_sem]
  refine if_s (fun ht => ?_) (fun hf => ?_)
  · have hlt := len_lt ht
    have gk := get_map (VV.int .i64) hlt
    have bad : outU g.users[k] = true → membersR l g = 2 := fun h => by simp only [membersR, h4, any_stop hlt h, if_true, if_false, Bool.true_eq_false, Bool.false_eq_true]
    simp only [go_sem, gk]
    refine g_s (fun h5 => ?_) (fun h5 => ?_) <;> simp only [go_sem, h5, gk]
    · refine if_s (fun h6 => ?_) (fun h6 => ?_) <;> simp only [go_sem]
      · rw [bad (by simp only [outU, h5, h6]; rfl)]
      · exact ⟨k + 1, ⟨by omega, any_step hlt hp (by simp only [outU, h5, h6]; rfl)⟩, by simp only; omega, by simp only [go_sem, wrap_len hlt hum], rfl, rfl, rfl, rfl⟩
    · rw [bad (by have h5' : decide (g.users[k] < 1) = true := h5
                  simp only [outU, h5', Bool.true_or])]
  have h5 := any_end (len_ge hf) hp
  simp only [go_sem]
  -- users twice
  refine v_for (α := Nat) (base := 0) (marks := []) (pu := true) (good := fun k => k ≤ g.users.length ∧ (List.range k).any (dupAt g.users) = false) (m := fun k => g.users.length - k)
    (E := fun k => [(0, .sl (l.map eGp) 0), (3, .ptr 0 0), (6, .int .i64 k)]) (O := fun _ => [.cells (eGp g).cells])
    (by intro i _; simp [go_sem, Obj.idsB]) rfl ?_ 0 _ ⟨by omega, rfl⟩ rfl rfl rfl rfl rfl
  rintro k ⟨hk, hp⟩
  simp only [go_sem]
  refine if_s (fun ht => ?_) (fun hf => ?_)
  · have hlt := len_lt ht
    have gk := get_map (VV.int .i64) hlt
    simp only [go_sem, gk, bnd (Nat.le_of_lt hlt), take_map', Bool.true_eq_false, if_false]
    refine callD_pure (c_R05_In (g.users.take k) g.users[k] (by simp; omega)) (by simp [go_sem]) (by simp [go_sem]) ?_
    simp only [go_sem]
    refine if_s (fun h6 => ?_) (fun h6 => ?_) <;> simp only [go_sem]
    · simp only [membersR, h4, h5, dup_stop hlt h6, if_true, if_false, Bool.true_eq_false, Bool.false_eq_true]
    · exact ⟨k + 1, ⟨by omega, dup_step hlt hp h6⟩, by simp only; omega, by simp only [go_sem, wrap_len hlt hum], rfl, rfl, rfl, rfl⟩
  have h6 := dup_end (by have := len_ge hf; omega) hp
  simp only [go_sem]
  refine v_for (α := Nat) (base := 0) (marks := []) (pu := true) (good := fun k => k ≤ g.groups.length ∧ (List.range k).any (dupAt g.groups) = false) (m := fun k => g.groups.length - k)
    (E := fun k => [(0, .sl (l.map eGp) 0), (3, .ptr 0 0), (7, .int .i64 k)]) (O := fun _ => [.cells (eGp g).cells])
    (by intro i _; simp [go_sem, Obj.idsB]) rfl ?_ 0 _ ⟨by omega, rfl⟩ rfl rfl rfl rfl rfl
  rintro k ⟨hk, hp⟩
  simp only [go_sem]
  refine if_s (fun ht => ?_) (fun hf => ?_)
  · have hlt := len_lt ht
    have gk := get_map VV.str hlt
    simp only [go_sem, gk, bnd (Nat.le_of_lt hlt), take_map', Bool.true_eq_false, if_false]
    refine callD_pure (c_R43_inText (g.groups.take k) g.groups[k] (by simp; omega)) (by simp [go_sem]) (by simp [go_sem]) ?_
    rw [any_contains]
    simp only [go_sem]
    refine if_s (fun h7 => ?_) (fun h7 => ?_) <;> simp only [go_sem]
    · simp only [membersR, h4, h5, h6, dup_stop hlt h7, if_true, if_false, Bool.true_eq_false, Bool.false_eq_true]
    · exact ⟨k + 1, ⟨by omega, dup_step hlt hp h7⟩, by simp only; omega, by simp only [go_sem, wrap_len hlt hgm], rfl, rfl, rfl, rfl⟩
  have h7 := dup_end (by have := len_ge hf; omega) hp
  simp only [go_sem]
  refine v_for (α := Nat) (base := 0) (marks := []) (pu := true) (good := fun k => k ≤ g.groups.length ∧ (g.groups.take k).any (fun n => (findS l n).isNone) = false) (m := fun k => g.groups.length - k)
    (E := fun k => [(0, .sl (l.map eGp) 0), (3, .ptr 0 0), (8, .int .i64 k)]) (O := fun _ => [.cells (eGp g).cells])
    (by intro i _; simp [go_sem, Obj.idsB]) rfl ?_ 0 _ ⟨by omega, rfl⟩ rfl rfl rfl rfl rfl
  rintro k ⟨hk, hp⟩
  simp only [go_sem]
  refine if_s (fun ht => ?_) (fun hf => ?_)
  · have hlt := len_lt ht
    have gk := get_map VV.str hlt
    simp only [go_sem, gk]
    refine callW_pure (c_R43_at l g.groups[k] hlm) (by simp [go_sem]) (by simp [go_sem]) ?_
    simp only [go_sem]
    rcases at_cases l g.groups[k] with ⟨ha, hfs⟩ | ⟨j, hj, ha, hfs⟩
    · have hneg : decide ((-1 : Int) < 0) = true := by decide
      have hst := any_stop (p := fun n => (findS l n).isNone) hlt (by simp [hfs])
      simp only [go_sem, ha, hneg]
      simp only [membersR, h4, h5, h6, h7, hst, if_true, if_false, Bool.true_eq_false, Bool.false_eq_true]
    · have hneg : decide ((j : Int) < 0) = false := by simp
      simp only [go_sem, ha, hneg]
      exact ⟨k + 1, ⟨by omega, any_step hlt hp (by simp [hfs])⟩, by simp only; omega, by simp only [go_sem, wrap_len hlt hgm], rfl, rfl, rfl, rfl⟩
  have h8 := any_end (len_ge hf) hp
  simp only [go_sem]
  simp only [membersR, h4, h5, h6, h7, h8, if_true, if_false, Bool.true_eq_false, Bool.false_eq_true]
end Go.Proofs
