/- V, proofs: two policies are the same, by the code. Conditions: the lists' lengths. -/
import Derived.Test.YtlngaccdjnmgeaaGreatDoorGC2
set_option linter.unusedVariables false
set_option linter.unusedSimpArgs false
namespace Go.Proofs
open Go.V Go.RowKit

theorem same_step {α : Type} {l m : List α} {i : Nat} (hl : i < l.length) (hm : i < m.length) (h : l.take i = m.take i) (e : l[i] = m[i]) : l.take (i + 1) = m.take (i + 1) := by
  rw [take_succ hl, take_succ hm, h, e]
theorem same_stop {α : Type} {l m : List α} {i : Nat} (hl : i < l.length) (hm : i < m.length) (e : ¬ l[i] = m[i]) : ¬ l = m := by
  rintro rfl
  exact e rfl
theorem same_end {α : Type} {l m : List α} {i : Nat} (hi : i ≥ l.length) (hlm : l.length = m.length) (h : l.take i = m.take i) : l = m := by
  rwa [List.take_of_length_le hi, List.take_of_length_le (by omega)] at h
theorem same_len {α : Type} {l m : List α} (h : ((l.length : Int) != (m.length : Int)) = true) : ¬ l = m := by
  rintro rfl
  simp at h
theorem len_same {α : Type} {l m : List α} (h : ((l.length : Int) != (m.length : Int)) = false) : l.length = m.length := by
  simp at h; omega
theorem dec_beq {α : Type} [BEq α] [LawfulBEq α] [DecidableEq α] (x y : α) : decide (x = y) = (x == y) := by
  by_cases h : x = y <;> simp [h]
instance : DecidableEq Gp := fun a b => decidable_of_iff (a.name = b.name ∧ a.users = b.users ∧ a.groups = b.groups) (by
  cases a; cases b; simp)
instance : DecidableEq Rl := fun a b => decidable_of_iff (a.allow = b.allow ∧ a.group = b.group ∧ a.repo = b.repo ∧ a.glob = b.glob) (by
  cases a; cases b; simp)
theorem gp_same (a b : Gp) : decide (a = b) = ((a.name == b.name) && (decide (a.users = b.users) && decide (a.groups = b.groups))) := by
  cases a; cases b; simp only [Gp.mk.injEq, Bool.decide_and]; rw [dec_beq]
theorem rl_same (a b : Rl) : decide (a = b) = ((a.allow == b.allow) && ((a.group == b.group) && ((a.repo == b.repo) && (a.glob == b.glob)))) := by
  cases a; cases b; simp only [Rl.mk.injEq, Bool.decide_and, dec_beq]
theorem eq_rl (a b : Rl) : eqL [.bool a.allow, .str a.group, .str a.repo, .str a.glob] [.bool b.allow, .str b.group, .str b.repo, .str b.glob] = some (decide (a = b)) := by
  rw [rl_same]
  simp only [eqL, eq0]
  cases (a.allow == b.allow) <;> cases (a.group == b.group) <;> cases (a.repo == b.repo) <;> cases (a.glob == b.glob) <;> rfl

theorem c_R44_sameTexts (l m : List (List UInt8)) (hl : l.length ≤ maxLen) : PureC PR n_R44_sameTexts [.sl (l.map VV.str) 0, .sl (m.map VV.str) 0] (.bool (decide (l = m))) := by
  refine pure_of_wp m_R44_sameTexts rfl (by simp [argOk_sl]) ?_
  unfold FnW v_R44_sameTexts
  simp only [go_sem]
  refine if_s (fun h0 => ?_) (fun h0 => ?_) <;> simp only [go_sem]
  · rw [decide_eq_false (same_len h0)]
  have hlm := len_same h0
  refine v_for (α := Nat) (base := 0) (marks := []) (pu := true) (good := fun i => i ≤ l.length ∧ l.take i = m.take i) (m := fun i => l.length - i)
    (E := fun i => [(0, .sl (l.map VV.str) 0), (1, .sl (m.map VV.str) 0), (5, .int .i64 i)]) (O := fun _ => [])
    (by intro i _; simp [go_sem, Obj.idsB]) rfl ?_ 0 _ ⟨by omega, rfl⟩ rfl rfl rfl rfl rfl
  rintro i ⟨hi, ht0⟩
  simp only [go_sem]
  refine if_s (fun ht => ?_) (fun hf => ?_)
  · have hlt := len_lt ht
    have hlt2 : i < m.length := by omega
    have gi := get_map VV.str hlt
    have gj := get_map VV.str hlt2
    simp only [go_sem, gi, gj]
    refine if_s (fun h1 => ?_) (fun h1 => ?_) <;> simp only [go_sem]
    · rw [decide_eq_false (same_stop hlt hlt2 (by simpa using h1))]
    · exact ⟨i + 1, ⟨by omega, same_step hlt hlt2 ht0 (by simpa using h1)⟩, by simp only; omega, by simp only [go_sem, wrap_len hlt hl], rfl, rfl, rfl, rfl⟩
  · simp only [go_sem]
    rw [decide_eq_true (same_end (len_ge hf) hlm ht0)]

theorem c_slices_Equal_int_int (l m : List Int) (hl : l.length ≤ maxLen) : PureC PR n_slices_Equal_int_int [.sl (l.map (VV.int .i64)) 0, .sl (m.map (VV.int .i64)) 0] (.bool (decide (l = m))) := by
  refine pure_of_wp m_slices_Equal_int_int rfl (by simp [argOk_sl]) ?_
  unfold FnW v_slices_Equal_int_int
  simp only [go_sem]
  refine if_s (fun h0 => ?_) (fun h0 => ?_) <;> simp only [go_sem]
  · rw [decide_eq_false (same_len h0)]
  have hlm := len_same h0
  refine v_for (α := Nat) (base := 0) (marks := []) (pu := true) (good := fun i => i ≤ l.length ∧ l.take i = m.take i) (m := fun i => l.length - i)
    (E := fun i => [(0, .sl (l.map (VV.int .i64)) 0), (1, .sl (m.map (VV.int .i64)) 0), (12, .int .i64 l.length), (13, .int .i64 i)]) (O := fun _ => [])
    (by intro i _; simp [go_sem, Obj.idsB]) rfl ?_ 0 _ ⟨by omega, rfl⟩ rfl rfl rfl rfl rfl
  rintro i ⟨hi, ht0⟩
  simp only [go_sem]
  refine if_s (fun ht => ?_) (fun hf => ?_)
  · have hlt := len_lt ht
    have hlt2 : i < m.length := by omega
    have gi := get_map (VV.int .i64) hlt
    have gj := get_map (VV.int .i64) hlt2
    simp only [go_sem, gi, gj]
    refine if_s (fun h1 => ?_) (fun h1 => ?_) <;> simp only [go_sem]
    · rw [decide_eq_false (same_stop hlt hlt2 (by simpa using h1))]
    · exact ⟨i + 1, ⟨by omega, same_step hlt hlt2 ht0 (by simpa using h1)⟩, by simp only; omega, by simp only [go_sem, wrap_len hlt hl], rfl, rfl, rfl, rfl⟩
  · simp only [go_sem]
    rw [decide_eq_true (same_end (len_ge hf) hlm ht0)]

theorem c_slices_Equal_string_string (l m : List (List UInt8)) (hl : l.length ≤ maxLen) : PureC PR n_slices_Equal_string_string [.sl (l.map VV.str) 0, .sl (m.map VV.str) 0] (.bool (decide (l = m))) := by
  refine pure_of_wp m_slices_Equal_string_string rfl (by simp [argOk_sl]) ?_
  unfold FnW v_slices_Equal_string_string
  simp only [go_sem]
  refine if_s (fun h0 => ?_) (fun h0 => ?_) <;> simp only [go_sem]
  · rw [decide_eq_false (same_len h0)]
  have hlm := len_same h0
  refine v_for (α := Nat) (base := 0) (marks := []) (pu := true) (good := fun i => i ≤ l.length ∧ l.take i = m.take i) (m := fun i => l.length - i)
    (E := fun i => [(0, .sl (l.map VV.str) 0), (1, .sl (m.map VV.str) 0), (12, .int .i64 l.length), (13, .int .i64 i)]) (O := fun _ => [])
    (by intro i _; simp [go_sem, Obj.idsB]) rfl ?_ 0 _ ⟨by omega, rfl⟩ rfl rfl rfl rfl rfl
  rintro i ⟨hi, ht0⟩
  simp only [go_sem]
  refine if_s (fun ht => ?_) (fun hf => ?_)
  · have hlt := len_lt ht
    have hlt2 : i < m.length := by omega
    have gi := get_map VV.str hlt
    have gj := get_map VV.str hlt2
    simp only [go_sem, gi, gj]
    refine if_s (fun h1 => ?_) (fun h1 => ?_) <;> simp only [go_sem]
    · rw [decide_eq_false (same_stop hlt hlt2 (by simpa using h1))]
    · exact ⟨i + 1, ⟨by omega, same_step hlt hlt2 ht0 (by simpa using h1)⟩, by simp only; omega, by simp only [go_sem, wrap_len hlt hl], rfl, rfl, rfl, rfl⟩
  · simp only [go_sem]
    rw [decide_eq_true (same_end (len_ge hf) hlm ht0)]

theorem c_R44_SameInts (l m : List Int) (hl : l.length ≤ maxLen) : PureC PR n_R44_SameInts [.sl (l.map (VV.int .i64)) 0, .sl (m.map (VV.int .i64)) 0] (.bool (decide (l = m))) := by
  refine pure_of_wp m_R44_SameInts rfl (by simp [argOk_sl]) ?_
  unfold FnW v_R44_SameInts
  simp only [go_sem]
  refine if_s (fun h0 => ?_) (fun h0 => ?_) <;> simp only [go_sem]
  · rw [decide_eq_false (same_len h0)]
  have hlm := len_same h0
  refine v_for (α := Nat) (base := 0) (marks := []) (pu := true) (good := fun i => i ≤ l.length ∧ l.take i = m.take i) (m := fun i => l.length - i)
    (E := fun i => [(0, .sl (l.map (VV.int .i64)) 0), (1, .sl (m.map (VV.int .i64)) 0), (5, .int .i64 i)]) (O := fun _ => [])
    (by intro i _; simp [go_sem, Obj.idsB]) rfl ?_ 0 _ ⟨by omega, rfl⟩ rfl rfl rfl rfl rfl
  rintro i ⟨hi, ht0⟩
  simp only [go_sem]
  refine if_s (fun ht => ?_) (fun hf => ?_)
  · have hlt := len_lt ht
    have hlt2 : i < m.length := by omega
    have gi := get_map (VV.int .i64) hlt
    have gj := get_map (VV.int .i64) hlt2
    simp only [go_sem, gi, gj]
    refine if_s (fun h1 => ?_) (fun h1 => ?_) <;> simp only [go_sem]
    · rw [decide_eq_false (same_stop hlt hlt2 (by simpa using h1))]
    · exact ⟨i + 1, ⟨by omega, same_step hlt hlt2 ht0 (by simpa using h1)⟩, by simp only; omega, by simp only [go_sem, wrap_len hlt hl], rfl, rfl, rfl, rfl⟩
  · simp only [go_sem]
    rw [decide_eq_true (same_end (len_ge hf) hlm ht0)]

theorem c_access_sameGroup (a b : Gp) (hu : a.users.length ≤ maxLen) (hg : a.groups.length ≤ maxLen) : PureC PR n_access_sameGroup [eGp a, eGp b] (.bool (decide (a = b))) := by
  refine pure_of_wp m_access_sameGroup rfl (by simp [eGp_argOk]) ?_
  unfold FnW v_access_sameGroup
  simp only [go_sem, eGp, gp_same]
  cases h1 : (a.name == b.name) with
  | false => simp only [go_sem, Bool.false_and]
  | true =>
  simp only [go_sem]
  refine callW_pure (c_slices_Equal_int_int a.users b.users hu) (by simp only [go_sem]) (by simp only [go_sem]) ?_
  simp only [go_sem]
  cases h2 : decide (a.users = b.users) with
  | false => simp only [go_sem, Bool.false_and]
  | true =>
  simp only [go_sem]
  refine callW_pure (c_slices_Equal_string_string a.groups b.groups hg) (by simp only [go_sem]) (by simp only [go_sem]) ?_
  simp only [go_sem]

theorem c_EqualFunc_Gp (l m : List Gp) (hl : l.length ≤ maxLen) (hz : ∀ g ∈ l, g.users.length ≤ maxLen ∧ g.groups.length ≤ maxLen) : PureC PR n_slices_EqualFunc_Group_Group_Group_Group [.sl (l.map eGp) 0, .sl (m.map eGp) 0, .fn n_access_sameGroup []] (.bool (decide (l = m))) := by
  refine pure_of_wp m_slices_EqualFunc_Group_Group_Group_Group rfl (by simp [argOk_sl]; decide) ?_
  unfold FnW v_slices_EqualFunc_Group_Group_Group_Group
  simp only [go_sem]
  refine if_s (fun h0 => ?_) (fun h0 => ?_) <;> simp only [go_sem]
  · rw [decide_eq_false (same_len h0)]
  have hlm := len_same h0
  refine v_for (α := Nat) (base := 0) (marks := []) (pu := true) (good := fun i => i ≤ l.length ∧ l.take i = m.take i) (m := fun i => l.length - i)
    (E := fun i => [(1, .sl (m.map eGp) 0), (2, .fn n_access_sameGroup []), (15, .sl (l.map eGp) 0), (16, .int .i64 l.length), (17, .int .i64 i)]) (O := fun _ => [])
    (by intro i _; simp [go_sem, Obj.idsB]) rfl ?_ 0 _ ⟨by omega, rfl⟩ rfl rfl rfl rfl rfl
  rintro i ⟨hi, ht0⟩
  simp only [go_sem]
  refine if_s (fun ht => ?_) (fun hf => ?_)
  · have hlt := len_lt ht
    have hlt2 : i < m.length := by omega
    have gi := get_map eGp hlt
    have gj := get_map eGp hlt2
    have hzi := hz _ (List.getElem_mem hlt)
    simp only [go_sem, gi, gj, eGp_fold]
    refine callW_pure (c_access_sameGroup l[i] m[i] hzi.1 hzi.2) (by simp only [go_sem]) (by simp only [go_sem]) ?_
    simp only [go_sem]
    by_cases h1 : l[i] = m[i]
    · rw [decide_eq_true h1]
      simp only [go_sem]
      exact ⟨i + 1, ⟨by omega, same_step hlt hlt2 ht0 h1⟩, by simp only; omega, by simp only [go_sem, wrap_len hlt hl], rfl, rfl, rfl, rfl⟩
    · rw [decide_eq_false h1, decide_eq_false (same_stop hlt hlt2 h1)]
      simp only [go_sem]
  · simp only [go_sem]
    rw [decide_eq_true (same_end (len_ge hf) hlm ht0)]

theorem c_slices_Equal_Rule_Rule (l m : List Rl) (hl : l.length ≤ maxLen) : PureC PR n_slices_Equal_Rule_Rule [.sl (l.map eRl) 0, .sl (m.map eRl) 0] (.bool (decide (l = m))) := by
  refine pure_of_wp m_slices_Equal_Rule_Rule rfl (by simp [argOk_sl]) ?_
  unfold FnW v_slices_Equal_Rule_Rule
  simp only [go_sem]
  refine if_s (fun h0 => ?_) (fun h0 => ?_) <;> simp only [go_sem]
  · rw [decide_eq_false (same_len h0)]
  have hlm := len_same h0
  refine v_for (α := Nat) (base := 0) (marks := []) (pu := true) (good := fun i => i ≤ l.length ∧ l.take i = m.take i) (m := fun i => l.length - i)
    (E := fun i => [(0, .sl (l.map eRl) 0), (1, .sl (m.map eRl) 0), (12, .int .i64 l.length), (13, .int .i64 i)]) (O := fun _ => [])
    (by intro i _; simp [go_sem, Obj.idsB]) rfl ?_ 0 _ ⟨by omega, rfl⟩ rfl rfl rfl rfl rfl
  rintro i ⟨hi, ht0⟩
  simp only [go_sem]
  refine if_s (fun ht => ?_) (fun hf => ?_)
  · have hlt := len_lt ht
    have hlt2 : i < m.length := by omega
    have gi := get_map eRl hlt
    have gj := get_map eRl hlt2
    simp only [go_sem, gi, gj, fitsL, eq_rl]
    refine if_s (fun h1 => ?_) (fun h1 => ?_) <;> simp only [go_sem]
    · rw [decide_eq_false (same_stop hlt hlt2 (by simpa using h1))]
    · exact ⟨i + 1, ⟨by omega, same_step hlt hlt2 ht0 (by simpa using h1)⟩, by simp only; omega, by simp only [go_sem, wrap_len hlt hl], rfl, rfl, rfl, rfl⟩
  · simp only [go_sem]
    rw [decide_eq_true (same_end (len_ge hf) hlm ht0)]

def sameP (p q : Pol) : Bool := decide (p.groups = q.groups) && decide (p.rules = q.rules)
theorem c_access_Same (p q : Pol) (hg : p.groups.length ≤ maxLen) (hr : p.rules.length ≤ maxLen) (hz : ∀ g ∈ p.groups, g.users.length ≤ maxLen ∧ g.groups.length ≤ maxLen) : PureC PR n_access_Same [ePol p, ePol q] (.bool (sameP p q)) := by
  refine pure_of_wp m_access_Same rfl (by simp [ePol_argOk]) ?_
  unfold FnW v_access_Same
  simp only [go_sem, ePol]
  refine callW_pure (c_EqualFunc_Gp p.groups q.groups hg hz) (by simp only [go_sem]) (by simp only [go_sem]) ?_
  simp only [go_sem, sameP]
  cases h2 : decide (p.groups = q.groups) with
  | false => simp only [go_sem, Bool.false_and]
  | true =>
  simp only [go_sem]
  refine callW_pure (c_slices_Equal_Rule_Rule p.rules q.rules hr) (by simp only [go_sem]) (by simp only [go_sem]) ?_
  simp only [go_sem]
end Go.Proofs
