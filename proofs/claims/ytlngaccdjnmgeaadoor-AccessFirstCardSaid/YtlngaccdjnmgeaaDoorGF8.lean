/- V, proofs: the law AccessFirst on data. Conditions: the lists' lengths. -/
import Derived.Test.YtlngaccdjnmgeaaDoorGF7
set_option linter.unusedVariables false
set_option linter.unusedSimpArgs false
namespace Go.Proofs
open Go.V Go.RowKit

theorem c_L44_applies (p : Pol) (x : Ask) (i : Nat) (hi : i < p.rules.length) (ho : okP p) (hp : x.path.length ≤ 1000000) :
    PureC PR n_L44_applies [ePol p, eAsk x, .int .i64 i] (.bool (appliesR p x.user x.repo x.path p.rules[i])) := by
  refine pure_of_wp m_L44_applies rfl (by simp [ePol_argOk, eAsk_argOk, argOk_int]) ?_
  unfold FnW v_L44_applies
  have gi := get_map eRl hi
  have hi0 : (0 : Int) ≤ (i : Int) := by omega
  simp only [go_sem, ePol, eAsk, gi]
  generalize hr : p.rules[i] = r at *
  refine callW_pure (c_R43_In p.groups r.group x.user ho.1) (by simp only [go_sem]) (by simp only [go_sem]) ?_
  simp only [go_sem]
  cases h1 : inR43 p.groups r.group x.user with
  | false =>
    simp only [go_sem, appliesR, h1, Bool.false_and]
  | true =>
  simp only [go_sem]
  cases h2 : (r.repo == []) with
  | true =>
    simp only [go_sem]
    refine callW_pure (c_R02_Match r.glob x.path hp) (by simp only [go_sem]) (by simp only [go_sem]) ?_
    simp only [go_sem, appliesR, h1, h2, Bool.true_or, Bool.true_and]
  | false =>
    simp only [go_sem]
    cases h3 : (r.repo == x.repo) with
    | false => simp only [go_sem, appliesR, h1, h2, h3, Bool.or_false, Bool.true_and, Bool.false_and]
    | true =>
      simp only [go_sem]
      refine callW_pure (c_R02_Match r.glob x.path hp) (by simp only [go_sem]) (by simp only [go_sem]) ?_
      simp only [go_sem, appliesR, h1, h2, h3, Bool.or_true, Bool.true_and]

theorem idxS_neg {α : Type} {p : α → Bool} {l : List α} (h : idxS p l = -1) : l.any p = false := by
  unfold idxS at h
  cases hq : l.any p with
  | false => rfl
  | true => rw [hq] at h; simp at h
theorem law_First (halive : PureC PR n_L44_alive [] (.bool true)) (p : Pol) (x : Ask) (hg : p.groups.length ≤ maxLen) : PureC PR n_L44_AccessFirst [ePol p, eAsk x] (.bool true) := by
  refine pure_of_wp m_L44_AccessFirst rfl (by simp [ePol_argOk, eAsk_argOk]) ?_
  unfold FnW v_L44_AccessFirst
  simp only [go_sem, ePol, eAsk]
  refine callW_pure halive rfl rfl ?_
  simp only [go_sem, ePol_fold]
  refine callW_pure (c_small p hg) (by simp only [go_sem]) (by simp only [go_sem]) ?_
  simp only [go_sem]
  cases hs : smallS p with
  | false => simp only [go_sem]
  | true =>
  simp only [go_sem]
  refine if_s (fun h2 => ?_) (fun h2 => ?_) <;> simp only [go_sem, ePol_fold]
  obtain ⟨hok, hrl, _, _⟩ := small_ok hs
  have hrm : p.rules.length ≤ maxLen := by rw [maxLen_eq]; omega
  have hpl : x.path.length ≤ 1000000 := by simp at h2; omega
  refine callW_pure (c_access_Deciding p x.user x.repo x.path hok hpl) (by simp only [go_sem]) (by simp only [go_sem]) ?_
  simp only [go_sem, ePol_fold]
  refine callW_pure (c_access_Can p x.user x.repo x.path hok hpl) (by simp only [go_sem]) (by simp only [go_sem]) ?_
  simp only [go_sem]
  -- the rounds: as long as no rule ahead of 'last' applies
  have m1 : decide ((-1 : Int) < -1) = false := by decide
  have m2 : decide ((-1 : Int) ≥ (p.rules.length : Int)) = false := by simp only [decide_eq_false_iff_not]; omega
  have m3 : decide ((-1 : Int) ≥ 0) = false := by decide
  have m4 : decide ((-1 : Int) < 0) = true := by decide
  rcases deciding_cases p x.user x.repo x.path with h | ⟨k, hk, hd, hR, hi⟩
  · have hc : canS p x.user x.repo x.path = false := by rw [canS, h]; rfl
    simp only [go_sem, h, hc, m1, m2, m3, m4, ePol_fold]
    refine callW_pure (c_access_Right p hok) (by simp only [go_sem]) (by simp only [go_sem]) ?_
    simp only [go_sem]
    cases hr : (rightA p == 0) with
    | false =>
      simp only [go_sem]
      refine v_for (α := Unit) (base := 0) (marks := []) (pu := true) (good := fun _ => True) (m := fun _ => 0)
        (E := fun _ => [(2, .ptr 0 0), (3, .ptr 1 0), (7, .int .i64 (-1)), (8, .int .i64 0)]) (O := fun _ => [.cells (ePol p).cells, .cells (eAsk x).cells])
        (by intro i _; simp [go_sem, Obj.idsB]) rfl ?_ () _ trivial rfl rfl rfl rfl rfl
      intro _ _
      have m5 : decide ((0 : Int) < -1) = false := by decide
      simp only [go_sem, m5]
    | true =>
      have hr0 : rightA p = 0 := by simpa using hr
      have hG := (right_parts hr0).1
      have hn : p.rules.any (appliesS p x.user x.repo x.path) = false := by
        apply idxS_neg
        rw [decidingS, if_neg (by rw [hr0]; simp)] at h
        exact h
      simp only [go_sem]
      refine v_for (α := Nat) (base := 0) (marks := []) (pu := true) (good := fun i => i ≤ p.rules.length) (m := fun i => p.rules.length - i)
        (E := fun i => [(2, .ptr 0 0), (3, .ptr 1 0), (7, .int .i64 p.rules.length), (8, .int .i64 i)]) (O := fun _ => [.cells (ePol p).cells, .cells (eAsk x).cells])
        (by intro i _; simp [go_sem, Obj.idsB]) rfl ?_ 0 _ (by omega) rfl rfl rfl rfl rfl
      intro i hi
      simp only [go_sem]
      refine if_s (fun ht => ?_) (fun hf => ?_)
      · have hlt := len_lt ht
        have ha : appliesR p x.user x.repo x.path p.rules[i] = false := by
          rw [applies_same hG]
          rw [List.any_eq_false] at hn
          simpa using hn _ (List.getElem_mem hlt)
        simp only [go_sem, ePol_fold, eAsk_fold]
        refine callW_pure (c_L44_applies p x i hlt hok hpl) (by simp only [go_sem]) (by simp only [go_sem]) ?_
        simp only [go_sem, ha]
        exact ⟨i + 1, by omega, by simp only; omega, by simp only [go_sem, wrap_len hlt hrm], rfl, rfl, rfl, rfl⟩
      · simp only [go_sem]
  · obtain ⟨hG, _, _⟩ := right_parts hR
    obtain ⟨hn, hx⟩ := idxS_inv hi hk
    have hc : canS p x.user x.repo x.path = p.rules[k].allow := by
      have hk0 : decide ((k : Int) ≥ 0) = true := by simp
      rw [canS, hd, hk0, Bool.true_and]
      simp only [Int.toNat_natCast, List.getElem?_eq_getElem hk]
    have hxr : appliesR p x.user x.repo x.path p.rules[k] = true := by rw [applies_same hG]; exact hx
    have k1 : decide ((k : Int) < -1) = false := by simp only [decide_eq_false_iff_not]; omega
    have k2 : decide ((k : Int) ≥ (p.rules.length : Int)) = false := by simp; omega
    have k3 : decide ((k : Int) ≥ 0) = true := by simp
    have k4 : decide ((k : Int) < 0) = false := by simp
    have k5 : ((0 : Int) != 0) = false := rfl
    have gk := get_map eRl hk
    simp only [go_sem, hd, hc, k1, k2, k3, ePol_fold]
    refine callW_pure (c_access_Right p hok) (by simp only [go_sem]) (by simp only [go_sem]) ?_
    simp only [go_sem, hR, k5, ePol_fold, eAsk_fold]
    refine callW_pure (c_L44_applies p x k hk hok hpl) (by simp only [go_sem]) (by simp only [go_sem]) ?_
    have k6 : (!(p.rules[k].allow == p.rules[k].allow)) = false := by simp
    simp only [go_sem, hxr, gk, k6, k4]
    refine v_for (α := Nat) (base := 0) (marks := []) (pu := true) (good := fun i => i ≤ k) (m := fun i => k - i)
      (E := fun i => [(2, .ptr 0 0), (3, .ptr 1 0), (7, .int .i64 k), (8, .int .i64 i)]) (O := fun _ => [.cells (ePol p).cells, .cells (eAsk x).cells])
      (by intro i _; simp [go_sem, Obj.idsB]) rfl ?_ 0 _ (by omega) rfl rfl rfl rfl rfl
    intro i hi
    simp only [go_sem]
    refine if_s (fun ht => ?_) (fun hf => ?_)
    · have hlt := len_lt ht
      have hil : i < p.rules.length := by omega
      have ha : appliesR p x.user x.repo x.path p.rules[i] = false := by
        rw [applies_same hG]
        rw [List.any_eq_false] at hn
        have := hn p.rules[i] (by rw [List.mem_take_iff_getElem]; exact ⟨i, by omega, rfl⟩)
        simpa using this
      simp only [go_sem, ePol_fold, eAsk_fold]
      refine callW_pure (c_L44_applies p x i hil hok hpl) (by simp only [go_sem]) (by simp only [go_sem]) ?_
      simp only [go_sem, ha]
      exact ⟨i + 1, by omega, by simp only; omega, by simp only [go_sem, wrap_len hil hrm], rfl, rfl, rfl, rfl⟩
    · simp only [go_sem]
end Go.Proofs
