/- V, proofs: the document's names and paths. -/
import Derived.Test.YtlngaccdjnmgeaaGreatDoorGF7
set_option linter.unusedVariables false
set_option linter.unusedSimpArgs false
namespace Go.Proofs
open Go.V Go.RowKit

def letterR (c : UInt8) : Bool := c.toNat ≥ 65 && c.toNat ≤ 90 || c.toNat ≥ 97 && c.toNat ≤ 122
def digitR (c : UInt8) : Bool := c.toNat ≥ 48 && c.toNat ≤ 57
theorem c_R02_Letter (c : UInt8) : PureC PR n_R02_Letter [byteInt c] (.bool (letterR c)) := by
  refine pure_of_wp m_R02_Letter rfl (by simp [byteInt, argOk_int]) ?_
  unfold FnW v_R02_Letter
  simp only [go_sem, byteInt]
  repeat' (with_reducible refine g_s (fun h => ?_) (fun h => ?_) <;> simp only [go_sem, h])
  all_goals first | refine sboolT ?_ | refine sboolF ?_ | refine sbool ?_
  all_goals simp only [letterR, Bool.or_eq_true, Bool.and_eq_true, Bool.not_eq_true', decide_eq_true_eq, decide_eq_false_iff_not, beq_iff_eq, beq_eq_false_iff_ne, bne_iff_ne, bne_eq_false_iff_eq, Bool.not_true, Bool.not_false, ne_eq, ge_iff_le, gt_iff_lt] at *
  all_goals omega
theorem c_R02_Digit (c : UInt8) : PureC PR n_R02_Digit [byteInt c] (.bool (digitR c)) := by
  refine pure_of_wp m_R02_Digit rfl (by simp [byteInt, argOk_int]) ?_
  unfold FnW v_R02_Digit
  simp only [go_sem, byteInt]
  repeat' (with_reducible refine g_s (fun h => ?_) (fun h => ?_) <;> simp only [go_sem, h])
  all_goals first | refine sboolT ?_ | refine sboolF ?_ | refine sbool ?_
  all_goals simp only [digitR, Bool.or_eq_true, Bool.and_eq_true, Bool.not_eq_true', decide_eq_true_eq, decide_eq_false_iff_not, beq_iff_eq, beq_eq_false_iff_ne, bne_iff_ne, bne_eq_false_iff_eq, Bool.not_true, Bool.not_false, ne_eq, ge_iff_le, gt_iff_lt] at *
  all_goals omega
theorem letter_split (c : UInt8) : letterS c = (letterR c || digitR c || (c.toNat : Int) == 46 || (c.toNat : Int) == 95 || (c.toNat : Int) == 45) := by
  rw [Bool.eq_iff_iff]
  simp only [letterS, letterR, digitR, Bool.or_eq_true, Bool.and_eq_true, decide_eq_true_eq, beq_iff_eq, ge_iff_le]
  omega

theorem c_R43_inText (l : List (List UInt8)) (s : List UInt8) (hl : l.length ≤ maxLen) : PureC PR n_R43_inText [.sl (l.map VV.str) 0, .str s] (.bool (l.any fun x => x == s)) := by
  refine pure_of_wp m_R43_inText rfl (by simp [argOk_sl, argOk_str]) ?_
  unfold FnW v_R43_inText
  simp only [go_sem]
  refine v_for (α := Nat) (base := 0) (marks := []) (pu := true) (good := fun i => i ≤ l.length ∧ (l.take i).any (fun x => x == s) = false) (m := fun i => l.length - i)
    (E := fun i => [(0, .sl (l.map VV.str) 0), (1, .str s), (5, .int .i64 i)]) (O := fun _ => [])
    (by intro i _; simp [go_sem, Obj.idsB]) rfl ?_ 0 _ ⟨by omega, rfl⟩ rfl rfl rfl rfl rfl
  rintro i ⟨hi, hp⟩
  simp only [go_sem]
  refine if_s (fun ht => ?_) (fun hf => ?_)
  · have hlt := len_lt ht
    have g := get_map VV.str hlt
    simp only [go_sem, g]
    refine if_s (fun h5 => ?_) (fun h5 => ?_) <;> simp only [go_sem]
    · rw [any_stop hlt h5]
    · exact ⟨i + 1, ⟨by omega, any_step hlt hp h5⟩, by simp only; omega, by simp only [go_sem, wrap_len hlt hl], rfl, rfl, rfl, rfl⟩
  · simp only [go_sem]
    rw [any_end (len_ge hf) hp]

theorem c_R02_name (s : List UInt8) : PureC PR n_R02_name [.str s] (.bool (nameOk s)) := by
  refine pure_of_wp m_R02_name rfl (by simp [argOk_str]) ?_
  unfold FnW v_R02_name
  simp only [go_sem]
  cases h1 : decide ((s.length : Int) < 1) with
  | true => simp only [go_sem, h1, nameOk, Bool.not_true, Bool.and_false, Bool.false_and]
  | false =>
  simp only [go_sem, h1]
  cases h2 : decide ((s.length : Int) > 24) with
  | true => simp only [go_sem, h2, nameOk, Bool.not_true, Bool.and_false, Bool.false_and]
  | false =>
  simp only [go_sem, h2]
  cases h3 : (s == [46]) with
  | true => simp only [go_sem, h3, nameOk, Bool.not_true, Bool.and_false, Bool.false_and]
  | false =>
  simp only [go_sem, h3]
  cases h4 : (s == [46, 46]) with
  | true => simp only [go_sem, h4, nameOk, Bool.not_true, Bool.and_false, Bool.false_and]
  | false =>
  have hno : nameOk s = s.all letterS := by simp only [nameOk, h1, h2, h3, h4]; rfl
  have hsl : s.length ≤ maxLen := by rw [maxLen_eq]; simp at h2; omega
  rw [hno]
  simp only [go_sem, h4]
  refine v_for (α := Nat) (base := 0) (marks := []) (pu := true) (good := fun i => i ≤ s.length ∧ (s.take i).all letterS = true) (m := fun i => s.length - i)
    (E := fun i => [(0, .str s), (3, .int .i64 i)]) (O := fun _ => [])
    (by intro i _; simp [go_sem, Obj.idsB]) rfl ?_ 0 _ ⟨by omega, rfl⟩ rfl rfl rfl rfl rfl
  rintro i ⟨hi, hp⟩
  simp only [go_sem]
  refine if_s (fun ht => ?_) (fun hf => ?_)
  · have hlt := len_lt ht
    have gi := List.getElem?_eq_getElem hlt
    have hi0 : (0 : Int) ≤ (i : Int) := by omega
    have hls := letter_split s[i]
    have next : letterS s[i] = true → ∃ x : Nat, (x ≤ s.length ∧ (s.take x).all letterS = true) ∧ x = i + 1 := fun h => ⟨_, ⟨by omega, all_step hlt hp h⟩, rfl⟩
    simp only [go_sem, gi, hi0, byteInt]
    refine callW_pure (c_R02_Letter s[i]) (by simp only [go_sem, byteInt]) (by simp only [go_sem, byteInt]) ?_
    simp only [go_sem]
    cases hL : letterR s[i] with
    | true =>
      have hok : letterS s[i] = true := by rw [hls, hL]; rfl
      simp only [go_sem]
      exact ⟨i + 1, ⟨by omega, all_step hlt hp hok⟩, by simp only; omega, by simp only [go_sem, wrap_len hlt hsl], rfl, rfl, rfl, rfl⟩
    | false =>
    simp only [go_sem, gi, hi0, byteInt]
    refine callW_pure (c_R02_Digit s[i]) (by simp only [go_sem, byteInt]) (by simp only [go_sem, byteInt]) ?_
    simp only [go_sem]
    cases hD : digitR s[i] with
    | true =>
      have hok : letterS s[i] = true := by rw [hls, hL, hD]; rfl
      simp only [go_sem]
      exact ⟨i + 1, ⟨by omega, all_step hlt hp hok⟩, by simp only; omega, by simp only [go_sem, wrap_len hlt hsl], rfl, rfl, rfl, rfl⟩
    | false =>
    simp only [go_sem, gi, hi0, byteInt]
    cases h46 : ((s[i].toNat : Int) == 46) with
    | true =>
      have hok : letterS s[i] = true := by rw [hls, hL, hD, h46]; rfl
      have n46 : ((s[i].toNat : Int) != 46) = false := by rw [bne, h46]; rfl
      simp only [go_sem, n46]
      exact ⟨i + 1, ⟨by omega, all_step hlt hp hok⟩, by simp only; omega, by simp only [go_sem, wrap_len hlt hsl], rfl, rfl, rfl, rfl⟩
    | false =>
    have n46 : ((s[i].toNat : Int) != 46) = true := by rw [bne, h46]; rfl
    simp only [go_sem, n46, gi, hi0, byteInt]
    cases h95 : ((s[i].toNat : Int) == 95) with
    | true =>
      have hok : letterS s[i] = true := by rw [hls, hL, hD, h46, h95]; rfl
      have n95 : ((s[i].toNat : Int) != 95) = false := by rw [bne, h95]; rfl
      simp only [go_sem, n95]
      exact ⟨i + 1, ⟨by omega, all_step hlt hp hok⟩, by simp only; omega, by simp only [go_sem, wrap_len hlt hsl], rfl, rfl, rfl, rfl⟩
    | false =>
    have n95 : ((s[i].toNat : Int) != 95) = true := by rw [bne, h95]; rfl
    simp only [go_sem, n95, gi, hi0, byteInt]
    cases h45 : ((s[i].toNat : Int) == 45) with
    | true =>
      have hok : letterS s[i] = true := by rw [hls, hL, hD, h46, h95, h45]; rfl
      have n45 : ((s[i].toNat : Int) != 45) = false := by rw [bne, h45]; rfl
      simp only [go_sem, n45]
      exact ⟨i + 1, ⟨by omega, all_step hlt hp hok⟩, by simp only; omega, by simp only [go_sem, wrap_len hlt hsl], rfl, rfl, rfl, rfl⟩
    | false =>
    have hno : letterS s[i] = false := by rw [hls, hL, hD, h46, h95, h45]; rfl
    have n45 : ((s[i].toNat : Int) != 45) = true := by rw [bne, h45]; rfl
    simp only [go_sem, n45]
    rw [all_stop hlt hno]
  · simp only [go_sem]
    rw [all_end (len_ge hf) hp]
end Go.Proofs
