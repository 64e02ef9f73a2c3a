/- V, proofs: two policies are the same, by the document; the law AccessRights on data. Conditions: the lists' lengths. -/
import Derived.Test.YtlngaccdjnmgeaaGreatDoorGH13
import Derived.Test.YtlngaccdjnmgeaaGreatDoorGH10
set_option linter.unusedVariables false
set_option linter.unusedSimpArgs false
namespace Go.Proofs
open Go.V Go.RowKit

theorem c_R44_Same (p q : Pol) (hg : p.groups.length ≤ maxLen) (hr : p.rules.length ≤ maxLen) (hz : ∀ g ∈ p.groups, g.users.length ≤ maxLen ∧ g.groups.length ≤ maxLen) : PureC PR n_R44_Same [ePol p, ePol q] (.bool (sameP p q)) := by
  refine pure_of_wp m_R44_Same rfl (by simp [ePol_argOk]) ?_
  unfold FnW v_R44_Same
  simp only [go_sem, ePol]
  cases h0 : ((p.groups.length : Int) != (q.groups.length : Int)) with
  | true =>
    simp only [go_sem]
    rw [sameP, decide_eq_false (same_len h0)]; rfl
  | false =>
  have hlm := len_same h0
  simp only [go_sem]
  refine if_s (fun h1 => ?_) (fun h1 => ?_) <;> simp only [go_sem]
  · rw [sameP, decide_eq_false (same_len h1), Bool.and_false]
  have hrm := len_same h1
  refine v_for (α := Nat) (base := 0) (marks := []) (pu := true) (good := fun i => i ≤ p.groups.length ∧ p.groups.take i = q.groups.take i) (m := fun i => p.groups.length - i)
    (E := fun i => [(2, .ptr 0 0), (3, .ptr 1 0), (5, .int .i64 i)]) (O := fun _ => [.cells (ePol p).cells, .cells (ePol q).cells])
    (by intro i _; simp [go_sem, Obj.idsB]) rfl ?_ 0 _ ⟨by omega, rfl⟩ rfl rfl rfl rfl rfl
  · rintro i ⟨hi, ht0⟩
    simp only [go_sem]
    refine if_s (fun ht => ?_) (fun hf => ?_)
    · have hlt := len_lt ht
      have hlt2 : i < q.groups.length := by omega
      have gi := get_map eGp hlt
      have gj := get_map eGp hlt2
      have hzi := hz _ (List.getElem_mem hlt)
      have yes : p.groups[i] = q.groups[i] → p.groups.take (i + 1) = q.groups.take (i + 1) := same_step hlt hlt2 ht0
      have no : ¬ p.groups[i] = q.groups[i] → sameP p q = false := fun h => by rw [sameP, decide_eq_false (same_stop hlt hlt2 h)]; rfl
      generalize p.groups[i] = a at *
      generalize q.groups[i] = b at *
      have hab := gp_same a b
      simp only [go_sem, gi, gj, ePol]
      cases h1 : (a.name == b.name) with
      | false =>
        rw [h1] at hab
        simp only [go_sem]
        rw [no (by simpa using hab)]
      | true =>
      simp only [go_sem]
      refine callW_pure (c_R44_SameInts a.users b.users hzi.1) (by simp only [go_sem]) (by simp only [go_sem]) ?_
      simp only [go_sem]
      cases h2 : decide (a.users = b.users) with
      | false =>
        rw [h1, h2] at hab
        simp only [go_sem]
        rw [no (by simpa using hab)]
      | true =>
      simp only [go_sem]
      refine callW_pure (c_R44_sameTexts a.groups b.groups hzi.2) (by simp only [go_sem]) (by simp only [go_sem]) ?_
      simp only [go_sem]
      rw [h1, h2] at hab
      cases h3 : decide (a.groups = b.groups) with
      | false =>
        rw [h3] at hab
        simp only [go_sem]
        rw [no (by simpa using hab)]
      | true =>
        rw [h3] at hab
        simp only [go_sem]
        exact ⟨i + 1, ⟨by omega, yes (by simpa using hab)⟩, by simp only; omega, by simp only [go_sem, wrap_len hlt hg], rfl, rfl, rfl, rfl⟩
    have hgs : p.groups = q.groups := same_end (len_ge hf) hlm ht0
    simp only [go_sem]
    refine v_for (α := Nat) (base := 0) (marks := []) (pu := true) (good := fun i => i ≤ p.rules.length ∧ p.rules.take i = q.rules.take i) (m := fun i => p.rules.length - i)
      (E := fun i => [(2, .ptr 0 0), (3, .ptr 1 0), (8, .int .i64 i)]) (O := fun _ => [.cells (ePol p).cells, .cells (ePol q).cells])
      (by intro i _; simp [go_sem, Obj.idsB]) rfl ?_ 0 _ ⟨by omega, rfl⟩ rfl rfl rfl rfl rfl
    rintro i ⟨hi, ht0⟩
    simp only [go_sem]
    refine if_s (fun ht => ?_) (fun hf => ?_)
    · have hlt := len_lt ht
      have hlt2 : i < q.rules.length := by omega
      have gi := get_map eRl hlt
      have gj := get_map eRl hlt2
      simp only [go_sem, gi, gj, fitsL, eq_rl]
      refine if_s (fun h1 => ?_) (fun h1 => ?_) <;> simp only [go_sem]
      · rw [sameP, decide_eq_false (same_stop hlt hlt2 (by simpa using h1)), Bool.and_false]
      · exact ⟨i + 1, ⟨by omega, same_step hlt hlt2 ht0 (by simpa using h1)⟩, by simp only; omega, by simp only [go_sem, wrap_len hlt hr], rfl, rfl, rfl, rfl⟩
    · simp only [go_sem]
      rw [sameP, decide_eq_true hgs, decide_eq_true (same_end (len_ge hf) hrm ht0)]; rfl

theorem law_Rights (halive : PureC PR n_L44_alive [] (.bool true)) (p q : Pol) (hgp : p.groups.length ≤ maxLen) (hgq : q.groups.length ≤ maxLen) (hz : ∀ r ∈ p.rules, r.repo.length ≤ maxLen) : PureC PR n_L44_AccessRights [ePol p, ePol q] (.bool true) := by
  refine pure_of_wp m_L44_AccessRights rfl (by simp [ePol_argOk]) ?_
  unfold FnW v_L44_AccessRights
  simp only [go_sem, ePol]
  refine callW_pure halive rfl rfl ?_
  simp only [go_sem, ePol_fold]
  refine callW_pure (c_small p hgp) (by simp only [go_sem]) (by simp only [go_sem]) ?_
  simp only [go_sem]
  cases hs : smallS p with
  | false => simp only [go_sem]
  | true =>
  simp only [go_sem, ePol_fold]
  refine callW_pure (c_small q hgq) (by simp only [go_sem]) (by simp only [go_sem]) ?_
  simp only [go_sem]
  cases hs2 : smallS q with
  | false => simp only [go_sem]
  | true =>
  have hok := (small_ok hs).1
  have hrl : p.rules.length ≤ maxLen := by rw [maxLen_eq]; have := (small_ok hs).2.1; omega
  have hgl : ∀ g ∈ p.groups, g.users.length ≤ maxLen ∧ g.groups.length ≤ maxLen := fun g hg => by
    rw [maxLen_eq]; have := (small_ok hs).2.2.2 g hg; omega
  have e1 : (rightA p == rightA p) = true := by simp
  have e2 : (sameP p q == sameP p q) = true := by simp
  have e3 : sameP p p = true := by simp [sameP]
  simp only [go_sem, ePol_fold]
  refine callD_pure (c_access_Right p hok) (by simp only [go_sem]) (by simp only [go_sem]) ?_
  simp only [go_sem, ePol_fold]
  refine callD_pure (c_R44_Right p hok hz) (by simp only [go_sem]) (by simp only [go_sem]) ?_
  rw [rightP_same hok]
  simp only [go_sem, e1, ePol_fold]
  refine callD_pure (c_access_Same p q hgp hrl hgl) (by simp only [go_sem]) (by simp only [go_sem]) ?_
  simp only [go_sem, ePol_fold]
  refine callD_pure (c_R44_Same p q hgp hrl hgl) (by simp only [go_sem]) (by simp only [go_sem]) ?_
  simp only [go_sem, e2, ePol_fold]
  refine callD_pure (c_access_Same p p hgp hrl hgl) (by simp only [go_sem]) (by simp only [go_sem]) ?_
  simp only [go_sem, e3]
end Go.Proofs
