/- V, proofs: the law AccessCans on data. Conditions: the lists' lengths. -/
import Derived.Test.YtlngaccdjnmgeaaGreatDoorGH9
import Derived.Test.YtlngaccdjnmgeaaGreatDoorGH7
set_option linter.unusedVariables false
set_option linter.unusedSimpArgs false
namespace Go.Proofs
open Go.V Go.RowKit

theorem ruleErr_same (p : Pol) (r : Rl) : ruleErrR p r = ruleErr p r := by
  unfold ruleErrR ruleErr simpleR
  rw [right_same, c47_same]
  cases p.groups.any (fun g => g.name == r.group) with
  | false => rfl
  | true =>
    simp only [Bool.true_eq_false, if_false]
    cases (r.repo == []) <;> cases validS r.repo <;> cases r.repo.any is47 <;> simp
theorem rightP_same {p : Pol} (ho : okP p) : rightP p = rightA p := by
  unfold rightP rightA
  rw [right43_same ho.1]
  have e : (fun r => ruleErrR p r != 0) = fun r => ruleErr p r != 0 := by funext r; rw [ruleErr_same]
  rw [e]
  split
  · rfl
  split
  · rfl
  cases p.rules.find? fun r => ruleErr p r != 0 with
  | none => rfl
  | some r => exact ruleErr_same p r
theorem decidingP_same {p : Pol} (ho : okP p) (u : Int) (repo path : List UInt8) : decidingP p u repo path = decidingS p u repo path := by
  unfold decidingP decidingS
  rw [rightP_same ho]
  by_cases h : (rightA p != 0) = true
  · rw [if_pos h, if_pos h]
  · rw [if_neg h, if_neg h]
    have h0 : rightA p = 0 := by simpa using h
    have e : appliesR p u repo path = appliesS p u repo path := by funext r; exact applies_same (right_parts h0).1 u repo path r
    rw [e]
theorem canP_same {p : Pol} (ho : okP p) (u : Int) (repo path : List UInt8) : canP p u repo path = canS p u repo path := by
  unfold canP canS
  rw [decidingP_same ho]
  rfl
theorem law_Cans (halive : PureC PR n_L44_alive [] (.bool true)) (p : Pol) (x : Ask) (hg : p.groups.length ≤ maxLen) (hz : ∀ r ∈ p.rules, r.repo.length ≤ maxLen) : PureC PR n_L44_AccessCans [ePol p, eAsk x] (.bool true) := by
  refine pure_of_wp m_L44_AccessCans rfl (by simp [ePol_argOk, eAsk_argOk]) ?_
  unfold FnW v_L44_AccessCans
  simp only [go_sem, ePol, eAsk]
  refine callW_pure halive rfl rfl ?_
  simp only [go_sem, ePol_fold]
  refine callW_pure (c_small p hg) (by simp only [go_sem]) (by simp only [go_sem]) ?_
  simp only [go_sem]
  cases hs : smallS p with
  | false => simp only [go_sem]
  | true =>
  simp only [go_sem]
  refine if_s (fun h2 => ?_) (fun h2 => ?_) <;> simp only [go_sem, ePol_fold]
  obtain ⟨hok, hrl, _, _⟩ := small_ok hs
  have hpl : x.path.length ≤ 1000000 := by simp at h2; omega
  first
  | refine callW_pure (c_access_Deciding p x.user x.repo x.path hok hpl) (by simp only [go_sem]) (by simp only [go_sem]) ?_
  | refine callD_pure (c_access_Deciding p x.user x.repo x.path hok hpl) (by simp only [go_sem]) (by simp only [go_sem]) ?_
  simp only [go_sem, ePol_fold]
  first
  | refine callW_pure (c_R44_Deciding p x.user x.repo x.path hok hz hpl) (by simp only [go_sem]) (by simp only [go_sem]) ?_
  | refine callD_pure (c_R44_Deciding p x.user x.repo x.path hok hz hpl) (by simp only [go_sem]) (by simp only [go_sem]) ?_
  rw [decidingP_same hok]
  have e1 : (decidingS p x.user x.repo x.path == decidingS p x.user x.repo x.path) = true := by simp
  have e2 : (canS p x.user x.repo x.path == canS p x.user x.repo x.path) = true := by simp
  simp only [go_sem, e1, ePol_fold]
  first
  | refine callW_pure (c_access_Can p x.user x.repo x.path hok hpl) (by simp only [go_sem]) (by simp only [go_sem]) ?_
  | refine callD_pure (c_access_Can p x.user x.repo x.path hok hpl) (by simp only [go_sem]) (by simp only [go_sem]) ?_
  simp only [go_sem, ePol_fold]
  first
  | refine callW_pure (c_R44_Can p x.user x.repo x.path hok hz hpl) (by simp only [go_sem]) (by simp only [go_sem]) ?_
  | refine callD_pure (c_R44_Can p x.user x.repo x.path hok hz hpl) (by simp only [go_sem]) (by simp only [go_sem]) ?_
  rw [canP_same hok]
  simp only [go_sem, e2]
end Go.Proofs
