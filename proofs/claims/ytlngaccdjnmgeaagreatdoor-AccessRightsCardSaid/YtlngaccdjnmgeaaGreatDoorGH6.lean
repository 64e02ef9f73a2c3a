/- V, proofs: the document's check of a policy. Conditions: the lists' lengths. -/
import Derived.Test.YtlngaccdjnmgeaaGreatDoorGH5
set_option linter.unusedVariables false
set_option linter.unusedSimpArgs false
namespace Go.Proofs
open Go.V Go.RowKit

def ruleErrR (p : Pol) (r : Rl) : Int :=
  if p.groups.any (fun g => g.name == r.group) = false then 8
  else if (!(r.repo == []) && !simpleR r.repo) = true then 3
  else if (rightR r.glob != 0) = true then 3 else 0
def rightP (p : Pol) : Int :=
  if (rightR43 p.groups != 0) = true then rightR43 p.groups
  else if decide ((p.rules.length : Int) > 24) = true then 4
  else match p.rules.find? (fun r => ruleErrR p r != 0) with
    | some r => ruleErrR p r
    | none => 0
theorem c_R44_Right (p : Pol) (ho : okP p) (hz : ∀ r ∈ p.rules, r.repo.length ≤ maxLen) : PureC PR n_R44_Right [ePol p] (.int .i64 (rightP p)) := by
  refine pure_of_wp m_R44_Right rfl (by simp [ePol_argOk]) ?_
  unfold FnW v_R44_Right
  have hlm : p.groups.length ≤ maxLen := by rw [maxLen_eq]; have := ho.1.1; omega
  have hrm : p.rules.length ≤ maxLen := by rw [maxLen_eq]; have := ho.2; omega
  simp only [go_sem, ePol]
  refine callW_pure (c_R43_Right p.groups ho.1) (by simp only [go_sem]) (by simp only [go_sem]) ?_
  simp only [go_sem]
  refine if_s (fun h1 => ?_) (fun h1 => ?_) <;> simp only [go_sem]
  · simp only [rightP, h1, if_true]
  refine if_s (fun h2 => ?_) (fun h2 => ?_) <;> simp only [go_sem]
  · simp only [rightP, h1, h2, if_true, if_false, Bool.false_eq_true]
  refine v_for (α := Nat) (base := 0) (marks := []) (pu := true) (good := fun i => i ≤ p.rules.length ∧ (p.rules.take i).any (fun r => ruleErrR p r != 0) = false) (m := fun i => p.rules.length - i)
    (E := fun i => [(1, .ptr 0 0), (4, .int .i64 i)]) (O := fun _ => [.cells (ePol p).cells])
    (by intro i _; simp [go_sem, Obj.idsB]) rfl ?_ 0 _ ⟨by omega, rfl⟩ rfl rfl rfl rfl rfl
  rintro i ⟨hi, hp⟩
  simp only [go_sem]
  refine if_s (fun ht => ?_) (fun hf => ?_)
  · have hlt := len_lt ht
    have gi := get_map eRl hlt
    have hzr := hz _ (List.getElem_mem hlt)
    have bad : ∀ x, x ≠ 0 → ruleErrR p p.rules[i] = x → rightP p = x := fun x hx h => by
      have := find_first (p := fun r => ruleErrR p r != 0) hlt hp (by simp [h, hx])
      simp only [rightP, h1, h2, Bool.false_eq_true, if_false, this, h]
    have nxt : ruleErrR p p.rules[i] = 0 → ((p.rules.take (i + 1)).any (fun r => ruleErrR p r != 0) = false) := fun h => any_step hlt hp (by simp [h])
    simp only [go_sem, gi]
    generalize p.rules[i] = r at *
    refine v_for (α := Nat) (base := 0) (marks := []) (pu := true) (good := fun k => k ≤ p.groups.length) (m := fun k => p.groups.length - k)
      (E := fun k => [(1, .ptr 0 0), (4, .int .i64 i), (5, .ptr 1 0), (6, .bool ((p.groups.take k).any fun g => g.name == r.group)), (7, .int .i64 k)]) (O := fun _ => [.cells (ePol p).cells, .cells (eRl r).cells])
      (by intro i _; simp [go_sem, Obj.idsB]) rfl ?_ 0 _ (by omega) rfl rfl rfl rfl rfl
    intro k hk
    simp only [go_sem]
    refine if_s (fun ht2 => ?_) (fun hf2 => ?_)
    · have hlt2 := len_lt ht2
      have gk := get_map eGp hlt2
      have hs : ((p.groups.take (k + 1)).any fun g => g.name == r.group) = (((p.groups.take k).any fun g => g.name == r.group) || p.groups[k].name == r.group) := any_take hlt2
      cases hm : (p.groups.take k).any fun g => g.name == r.group with
      | true =>
        simp only [go_sem]
        exact ⟨k + 1, by omega, by simp only; omega, by simp only [go_sem, wrap_len hlt2 hlm, hs, hm], rfl, rfl, rfl, rfl⟩
      | false =>
        simp only [go_sem, gk]
        exact ⟨k + 1, by omega, by simp only; omega, by simp only [go_sem, wrap_len hlt2 hlm, hs, hm], rfl, rfl, rfl, rfl⟩
    have hke : k = p.groups.length := by have := len_ge hf2; omega
    subst hke
    simp only [go_sem, List.take_length]
    cases h3 : p.groups.any (fun g => g.name == r.group) with
    | false =>
      simp only [go_sem]
      rw [bad 8 (by decide) (by rw [ruleErrR, if_pos h3])]
    | true =>
    have n3 : ¬ (p.groups.any (fun g => g.name == r.group) = false) := by rw [h3]; simp
    simp only [go_sem]
    cases h4 : (r.repo == []) with
    | true =>
      have he : ruleErrR p r = (if (rightR r.glob != 0) = true then 3 else 0) := by
        rw [ruleErrR, if_neg n3, h4]; simp
      simp only [go_sem]
      refine callW_pure (c_R02_Right r.glob) (by simp only [go_sem]) (by simp only [go_sem]) ?_
      simp only [go_sem]
      refine if_s (fun h5 => ?_) (fun h5 => ?_) <;> simp only [go_sem]
      · rw [bad 3 (by decide) (by rw [he, if_pos h5])]
      · exact ⟨i + 1, ⟨by omega, nxt (by rw [he, if_neg (by rw [h5]; simp)])⟩, by simp only; omega, by simp only [go_sem, wrap_len hlt hrm], rfl, rfl, rfl, rfl⟩
    | false =>
      simp only [go_sem]
      refine callW_pure (c_R44_name r.repo hzr) (by simp only [go_sem]) (by simp only [go_sem]) ?_
      simp only [go_sem]
      cases h6 : simpleR r.repo with
      | false =>
        simp only [go_sem]
        rw [bad 3 (by decide) (by rw [ruleErrR, if_neg n3, h4, h6]; rfl)]
      | true =>
        have he : ruleErrR p r = (if (rightR r.glob != 0) = true then 3 else 0) := by
          rw [ruleErrR, if_neg n3, h4, h6]; simp
        simp only [go_sem]
        refine callW_pure (c_R02_Right r.glob) (by simp only [go_sem]) (by simp only [go_sem]) ?_
        simp only [go_sem]
        refine if_s (fun h5 => ?_) (fun h5 => ?_) <;> simp only [go_sem]
        · rw [bad 3 (by decide) (by rw [he, if_pos h5])]
        · exact ⟨i + 1, ⟨by omega, nxt (by rw [he, if_neg (by rw [h5]; simp)])⟩, by simp only; omega, by simp only [go_sem, wrap_len hlt hrm], rfl, rfl, rfl, rfl⟩
  · have hn := any_end (len_ge hf) hp
    have hfn : p.rules.find? (fun r => ruleErrR p r != 0) = none := by
      rw [List.find?_eq_none]
      intro r hr
      rw [List.any_eq_false] at hn
      exact hn r hr
    simp only [go_sem]
    simp only [rightP, h1, h2, hfn, Bool.false_eq_true, if_false]
end Go.Proofs
