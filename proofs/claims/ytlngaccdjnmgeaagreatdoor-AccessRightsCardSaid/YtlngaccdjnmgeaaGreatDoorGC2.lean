/- V, proofs: who can read; small policies; the law AccessBehind on data. -/
import Derived.Test.YtlngaccdjnmgeaaGreatDoorGC1
set_option linter.unusedVariables false
set_option linter.unusedSimpArgs false
namespace Go.Proofs
open Go.V Go.RowKit

theorem idxS_cases {α : Type} (p : α → Bool) (l : List α) : idxS p l = -1 ∨ ∃ k, ∃ h : k < l.length, idxS p l = (k : Int) ∧ p l[k] = true := by
  unfold idxS
  cases h : l.any p
  · exact .inl rfl
  · refine .inr ⟨l.findIdx p, ?_, rfl, List.findIdx_getElem⟩
    rw [List.any_eq_true] at h
    exact List.findIdx_lt_length_of_exists h
theorem deciding_cases (p : Pol) (u : Int) (repo path : List UInt8) : decidingS p u repo path = -1 ∨ ∃ k, ∃ h : k < p.rules.length, decidingS p u repo path = (k : Int) ∧ rightA p = 0 ∧ idxS (appliesS p u repo path) p.rules = (k : Int) := by
  unfold decidingS
  split
  · exact .inl rfl
  · rename_i h
    have h0 : rightA p = 0 := by simpa using h
    rcases idxS_cases (appliesS p u repo path) p.rules with h | ⟨k, hk, e, _⟩
    · exact .inl h
    · exact .inr ⟨k, hk, e, h0, e⟩
def canS (p : Pol) (u : Int) (repo path : List UInt8) : Bool := decide (decidingS p u repo path ≥ 0) && (match p.rules[(decidingS p u repo path).toNat]? with | some r => r.allow | none => false)
theorem c_access_Can (p : Pol) (u : Int) (repo path : List UInt8) (ho : okP p) (hp : path.length ≤ 1000000) :
    PureC PR n_access_Can [ePol p, .int .i64 u, .str repo, .str path] (.bool (canS p u repo path)) := by
  refine pure_of_wp m_access_Can rfl (by simp [ePol_argOk, argOk_int, argOk_str]) ?_
  unfold FnW v_access_Can
  simp only [go_sem, ePol]
  simp only [ePol_fold]
  refine callW_pure (c_access_Deciding p u repo path ho hp) (by simp only [go_sem]) (by simp only [go_sem]) ?_
  simp only [go_sem]
  rcases deciding_cases p u repo path with h | ⟨k, hk, e, _, _⟩
  · have hg : decide (decidingS p u repo path ≥ 0) = false := by rw [h]; rfl
    simp only [go_sem, canS, hg, Bool.false_and]
  · have hg : decide (decidingS p u repo path ≥ 0) = true := by rw [e]; simp
    have gk := get_map eRl hk
    have gk' := List.getElem?_eq_getElem hk
    simp only [go_sem, canS, hg, e, gk, gk', Bool.true_and]

def smallG (g : Gp) : Bool := !decide ((g.users.length : Int) > 40) && !decide ((g.groups.length : Int) > 40)
def smallS (p : Pol) : Bool := !decide ((p.groups.length : Int) > 40) && !decide ((p.rules.length : Int) > 40) && p.groups.all smallG
theorem small_ok {p : Pol} (h : smallS p = true) : okP p ∧ p.rules.length ≤ 40 ∧ p.groups.length ≤ 40 ∧ ∀ g ∈ p.groups, g.users.length ≤ 40 ∧ g.groups.length ≤ 40 := by
  simp only [smallS, Bool.and_eq_true, Bool.not_eq_true', decide_eq_false_iff_not, List.all_eq_true, smallG] at h
  obtain ⟨⟨h1, h2⟩, h3⟩ := h
  have h3' : ∀ g ∈ p.groups, g.users.length ≤ 40 ∧ g.groups.length ≤ 40 := fun g hg => by have := h3 g hg; omega
  exact ⟨⟨⟨by omega, fun g hg => by have := h3' g hg; omega⟩, by omega⟩, by omega, by omega, h3'⟩
theorem c_small (p : Pol) (hg : p.groups.length ≤ maxLen) : PureC PR n_L44_small [ePol p] (.bool (smallS p)) := by
  refine pure_of_wp m_L44_small rfl (by simp [ePol_argOk]) ?_
  unfold FnW v_L44_small
  simp only [go_sem, ePol]
  refine g_s (fun h1 => ?_) (fun h1 => ?_) <;> simp only [go_sem, h1]
  rotate_left
  · have h1' : decide ((p.groups.length : Int) > 40) = true := h1
    simp only [smallS, h1']; rfl
  refine if_s (fun h2 => ?_) (fun h2 => ?_) <;> simp only [go_sem]
  · simp only [smallS, h1, h2]; rfl
  have hs : smallS p = p.groups.all smallG := by simp only [smallS, h1, h2]; rfl
  rw [hs]
  refine v_for (α := Nat) (base := 0) (marks := []) (pu := true) (good := fun i => i ≤ p.groups.length ∧ (p.groups.take i).all smallG = true) (m := fun i => p.groups.length - i)
    (E := fun i => [(1, .ptr 0 0), (3, .int .i64 i)]) (O := fun _ => [.cells (ePol p).cells])
    (by intro i _; simp [go_sem, Obj.idsB]) rfl ?_ 0 _ ⟨by omega, rfl⟩ rfl rfl rfl rfl rfl
  rintro i ⟨hi, hp⟩
  simp only [go_sem]
  refine if_s (fun ht => ?_) (fun hf => ?_)
  · have hlt := len_lt ht
    have gi := get_map eGp hlt
    simp only [go_sem, gi]
    refine g_s (fun h3 => ?_) (fun h3 => ?_) <;> simp only [go_sem, h3, gi]
    · refine if_s (fun h4 => ?_) (fun h4 => ?_) <;> simp only [go_sem]
      · rw [all_stop hlt (by simp only [smallG, h3, h4]; rfl)]
      · exact ⟨i + 1, ⟨by omega, all_step hlt hp (by simp only [smallG, h3, h4]; rfl)⟩, by simp only; omega, by simp only [go_sem, wrap_len hlt hg], rfl, rfl, rfl, rfl⟩
    · have h3' : decide ((p.groups[i].users.length : Int) > 40) = true := h3
      rw [all_stop hlt (by simp only [smallG, h3']; rfl)]
  · simp only [go_sem]
    rw [all_end (len_ge hf) hp]

structure Ask where
  user : Int
  repo : List UInt8
  path : List UInt8
def eAsk (a : Ask) : VV := .agg [.int .i64 a.user, .str a.repo, .str a.path]
theorem eAsk_cells (a : Ask) : (eAsk a).cells = [.int .i64 a.user, .str a.repo, .str a.path] := byRfl rfl
theorem eAsk_argOk (a : Ask) : argOk (eAsk a) = true := by simp [eAsk, argOk, VV.noHnd, VV.noHnd0, VV.ids, idsL]
theorem eAsk_ids (a : Ask) (n : Nat) : (eAsk a).ids n = true := by simp [eAsk, VV.ids, idsL]
theorem eAsk_strip (a : Ask) : (eAsk a).strip = eAsk a := byRfl rfl
theorem eAsk_noTup (a : Ask) : (eAsk a).noTup = true := byRfl rfl
theorem eAsk_fold (a : Ask) : VV.agg [.int .i64 a.user, .str a.repo, .str a.path] = eAsk a := byRfl rfl
attribute [go_sem] eAsk_cells eAsk_ids eAsk_strip eAsk_noTup

/-! ### The plain law -/
theorem ruleErr_groups (p q : Pol) (h : p.groups = q.groups) (r : Rl) : ruleErr p r = ruleErr q r := by simp only [ruleErr, h]
theorem applies_groups (p q : Pol) (h : p.groups = q.groups) (u : Int) (repo path : List UInt8) : appliesS p u repo path = appliesS q u repo path := by
  funext r; simp only [appliesS, h]
theorem right_parts {p : Pol} (h : rightA p = 0) : rightG p.groups = 0 ∧ p.rules.length ≤ 24 ∧ ∀ r ∈ p.rules, ruleErr p r = 0 := by
  unfold rightA at h
  split at h
  · rename_i q; rw [h] at q; simp at q
  · rename_i q
    split at h
    · cases h
    · rename_i q2
      refine ⟨by simpa using q, by simp at q2; omega, fun r hr => ?_⟩
      split at h
      · rename_i r' hf
        have := List.find?_some hf
        rw [h] at this
        simp at this
      · rename_i hf
        rw [List.find?_eq_none] at hf
        simpa using hf r hr
theorem right_of {p : Pol} (h1 : rightG p.groups = 0) (h2 : p.rules.length ≤ 24) (h3 : ∀ r ∈ p.rules, ruleErr p r = 0) : rightA p = 0 := by
  have a1 : ¬ ((rightG p.groups != 0) = true) := by rw [h1]; simp
  have a2 : ¬ (decide ((p.rules.length : Int) > 24) = true) := by simp; omega
  have a3 : p.rules.find? (fun r => ruleErr p r != 0) = none := by
    rw [List.find?_eq_none]
    intro r hr
    simp [h3 r hr]
  rw [rightA, if_neg a1, if_neg a2, a3]
theorem idxS_inv {α : Type} {p : α → Bool} {l : List α} {k : Nat} (h : idxS p l = (k : Int)) (hk : k < l.length) : (l.take k).any p = false ∧ p l[k] = true := by
  unfold idxS at h
  split at h
  · rename_i ha
    have e : l.findIdx p = k := by omega
    rw [List.findIdx_eq hk] at e
    refine ⟨?_, e.1⟩
    rw [List.any_eq_false]
    intro x hx
    rw [List.mem_take_iff_getElem] at hx
    obtain ⟨j, hj, rfl⟩ := hx
    have := e.2 j (by omega)
    simp [this]
  · omega
/-- what decides does so as long as what is ahead of it stays -/
theorem behind {p q : Pol} {u : Int} {repo path : List UInt8} {k : Nat} (hk : k < p.rules.length) (hq : k < q.rules.length) (hg : p.groups = q.groups) (hr : q.rules.take (k + 1) = p.rules.take (k + 1)) (h : decidingS p u repo path = (k : Int)) (hR : rightA q = 0) :
    decidingS q u repo path = (k : Int) ∧ canS q u repo path = canS p u repo path := by
  have hi : idxS (appliesS p u repo path) p.rules = (k : Int) := by
    rcases deciding_cases p u repo path with e | ⟨j, _, e, _, e2⟩
    · rw [e] at h; omega
    · rw [e2, ← e, h]
  obtain ⟨h1, h2⟩ := idxS_inv hi hk
  have ht : q.rules.take k = p.rules.take k := by
    have := congrArg (List.take k) hr
    simpa [List.take_take, Nat.min_eq_left (Nat.le_succ k)] using this
  have hx : q.rules[k] = p.rules[k] := by
    have e1 : (q.rules.take (k + 1))[k]'(by simp; omega) = (p.rules.take (k + 1))[k]'(by simp; omega) := by simp only [hr]
    simpa using e1
  have hd : decidingS q u repo path = (k : Int) := by
    rw [decidingS, if_neg (by rw [hR]; simp), ← applies_groups p q hg]
    exact idxS_at hq (by rw [ht]; exact h1) (by rw [hx]; exact h2)
  refine ⟨hd, ?_⟩
  simp only [canS, hd, h, Int.toNat_natCast, List.getElem?_eq_getElem hk, List.getElem?_eq_getElem hq, hx]
end Go.Proofs
