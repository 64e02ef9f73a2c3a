/- V, proofs: the document's Deciding and Can. Conditions: the lists' lengths. -/
import Derived.Test.YtlngaccdjnmgeaaGreatDoorGH6
set_option linter.unusedVariables false
set_option linter.unusedSimpArgs false
namespace Go.Proofs
open Go.V Go.RowKit

def decidingP (p : Pol) (u : Int) (repo path : List UInt8) : Int := if (rightP p != 0) = true then -1 else idxS (appliesR p u repo path) p.rules
def canP (p : Pol) (u : Int) (repo path : List UInt8) : Bool := decide (decidingP p u repo path ≥ 0) && (match p.rules[(decidingP p u repo path).toNat]? with | some r => r.allow | none => false)
theorem decidingP_cases (p : Pol) (u : Int) (repo path : List UInt8) : decidingP p u repo path = -1 ∨ ∃ k, ∃ h : k < p.rules.length, decidingP p u repo path = (k : Int) := by
  unfold decidingP
  split
  · exact .inl rfl
  · rcases idxS_cases (appliesR p u repo path) p.rules with h | ⟨k, hk, e, _⟩
    · exact .inl h
    · exact .inr ⟨k, hk, e⟩
theorem c_R44_Deciding (p : Pol) (u : Int) (repo path : List UInt8) (ho : okP p) (hz : ∀ r ∈ p.rules, r.repo.length ≤ maxLen) (hp : path.length ≤ 1000000) :
    PureC PR n_R44_Deciding [ePol p, .int .i64 u, .str repo, .str path] (.int .i64 (decidingP p u repo path)) := by
  refine pure_of_wp m_R44_Deciding rfl (by simp [ePol_argOk, argOk_int, argOk_str]) ?_
  unfold FnW v_R44_Deciding
  have hrm : p.rules.length ≤ maxLen := by rw [maxLen_eq]; have := ho.2; omega
  simp only [go_sem, ePol]
  simp only [ePol_fold]
  refine callW_pure (c_R44_Right p ho hz) (by simp only [go_sem]) (by simp only [go_sem]) ?_
  simp only [go_sem]
  refine if_s (fun h1 => ?_) (fun h1 => ?_) <;> simp only [go_sem]
  · simp only [decidingP, h1, if_true]
  have hd : decidingP p u repo path = idxS (appliesR p u repo path) p.rules := by rw [decidingP, if_neg (by rw [h1]; simp)]
  rw [hd]
  refine v_for (α := Nat) (base := 0) (marks := []) (pu := true) (good := fun i => i ≤ p.rules.length ∧ (p.rules.take i).any (appliesR p u repo path) = false) (m := fun i => p.rules.length - i)
    (E := fun i => [(1, .int .i64 u), (2, .str repo), (3, .str path), (4, .ptr 0 0), (9, .int .i64 i)]) (O := fun _ => [.cells (ePol p).cells])
    (by intro i _; simp [go_sem, Obj.idsB]) rfl ?_ 0 _ ⟨by omega, rfl⟩ rfl rfl rfl rfl rfl
  rintro i ⟨hi, hn⟩
  simp only [go_sem]
  refine if_s (fun ht => ?_) (fun hf => ?_)
  · have hlt := len_lt ht
    have gi := get_map eRl hlt
    have yes : appliesR p u repo path p.rules[i] = true → idxS (appliesR p u repo path) p.rules = (i : Int) := fun h => idxS_at hlt hn h
    have no : appliesR p u repo path p.rules[i] = false → (p.rules.take (i + 1)).any (appliesR p u repo path) = false := fun h => any_step hlt hn h
    simp only [go_sem, gi]
    generalize p.rules[i] = r at *
    have key : ∀ b, matchR r.glob path = b → appliesR p u repo path r = (inR43 p.groups r.group u && (r.repo == [] || r.repo == repo) && b) := fun b h => by rw [appliesR, h]
    refine callW_pure (c_R43_In p.groups r.group u ho.1) (by simp only [go_sem]) (by simp only [go_sem]) ?_
    simp only [go_sem]
    cases h2 : inR43 p.groups r.group u with
    | false =>
      simp only [go_sem]
      exact ⟨i + 1, ⟨by omega, no (by simp [appliesR, h2])⟩, by simp only; omega, by simp only [go_sem, wrap_len hlt hrm], rfl, rfl, rfl, rfl⟩
    | true =>
    simp only [go_sem]
    cases h3 : (r.repo == []) with
    | true =>
      simp only [go_sem]
      refine callW_pure (c_R02_Match r.glob path hp) (by simp only [go_sem]) (by simp only [go_sem]) ?_
      simp only [go_sem]
      refine if_s (fun h5 => ?_) (fun h5 => ?_) <;> simp only [go_sem]
      · rw [yes (by rw [key _ h5, h2, h3]; rfl)]
      · exact ⟨i + 1, ⟨by omega, no (by rw [key _ h5, h2, h3]; rfl)⟩, by simp only; omega, by simp only [go_sem, wrap_len hlt hrm], rfl, rfl, rfl, rfl⟩
    | false =>
      simp only [go_sem]
      cases h4 : (r.repo == repo) with
      | false =>
        simp only [go_sem]
        exact ⟨i + 1, ⟨by omega, no (by rw [appliesR, h2, h3, h4]; rfl)⟩, by simp only; omega, by simp only [go_sem, wrap_len hlt hrm], rfl, rfl, rfl, rfl⟩
      | true =>
        simp only [go_sem]
        refine callW_pure (c_R02_Match r.glob path hp) (by simp only [go_sem]) (by simp only [go_sem]) ?_
        simp only [go_sem]
        refine if_s (fun h5 => ?_) (fun h5 => ?_) <;> simp only [go_sem]
        · rw [yes (by rw [key _ h5, h2, h3, h4]; rfl)]
        · exact ⟨i + 1, ⟨by omega, no (by rw [key _ h5, h2, h3, h4]; rfl)⟩, by simp only; omega, by simp only [go_sem, wrap_len hlt hrm], rfl, rfl, rfl, rfl⟩
  · simp only [go_sem]
    rw [idxS_none (any_end (len_ge hf) hn)]
theorem c_R44_Can (p : Pol) (u : Int) (repo path : List UInt8) (ho : okP p) (hz : ∀ r ∈ p.rules, r.repo.length ≤ maxLen) (hp : path.length ≤ 1000000) :
    PureC PR n_R44_Can [ePol p, .int .i64 u, .str repo, .str path] (.bool (canP p u repo path)) := by
  refine pure_of_wp m_R44_Can rfl (by simp [ePol_argOk, argOk_int, argOk_str]) ?_
  unfold FnW v_R44_Can
  simp only [go_sem, ePol]
  simp only [ePol_fold]
  refine callW_pure (c_R44_Deciding p u repo path ho hz hp) (by simp only [go_sem]) (by simp only [go_sem]) ?_
  simp only [go_sem]
  rcases decidingP_cases p u repo path with h | ⟨k, hk, e⟩
  · have hg : decide (decidingP p u repo path ≥ 0) = false := by rw [h]; rfl
    simp only [go_sem, canP, hg, Bool.false_and]
  · have hg : decide (decidingP p u repo path ≥ 0) = true := by rw [e]; simp
    have gk := get_map eRl hk
    have gk' := List.getElem?_eq_getElem hk
    simp only [go_sem, canP, hg, e, gk, gk', Bool.true_and]
end Go.Proofs
