/- V, proofs: the functions of paths and patterns of paths that look at one byte. -/
import Derived.Test.YtlngaccdjnmgeaaGreatDoorU1
import Derived.Test.YtlngaccdjnmgeaaGreatDoorF2
set_option linter.unusedVariables false
set_option linter.unusedSimpArgs false
namespace Go.Proofs
open Go.V Go.RowKit

def letterS (c : UInt8) : Bool := c.toNat ≥ 97 && c.toNat ≤ 122 || c.toNat ≥ 65 && c.toNat ≤ 90 || c.toNat ≥ 48 && c.toNat ≤ 57 || c.toNat == 46 || c.toNat == 95 || c.toNat == 45
theorem c_glob_letter (c : UInt8) : PureC PR n_glob_letter [byteInt c] (.bool (letterS c)) := by
  refine pure_of_wp m_glob_letter rfl (by simp [byteInt, argOk_int]) ?_
  unfold FnW v_glob_letter
  simp only [go_sem, byteInt]
  repeat' (with_reducible refine g_s (fun h => ?_) (fun h => ?_) <;> simp only [go_sem, h])
  all_goals first | refine sboolT ?_ | refine sboolF ?_ | refine sbool ?_
  all_goals simp only [letterS, Bool.or_eq_true, Bool.and_eq_true, Bool.not_eq_true', decide_eq_true_eq, decide_eq_false_iff_not, beq_iff_eq, beq_eq_false_iff_ne, bne_iff_ne, bne_eq_false_iff_eq, Bool.not_true, Bool.not_false, ne_eq, ge_iff_le, gt_iff_lt] at *
  all_goals omega
