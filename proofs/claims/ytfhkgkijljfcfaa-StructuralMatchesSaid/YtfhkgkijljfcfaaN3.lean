/- V, proofs: the law StructuralMatches' answer on data. -/
import Derived.Test.YtfhkgkijljfcfaaB7
import Derived.Test.YtfhkgkijljfcfaaT1
set_option linter.unusedVariables false
set_option linter.unusedSimpArgs false
namespace Go.Proofs
open Go.V Go.RowKit

theorem sameN_refl (d : Nd) : sameN d d = true := (sameN_iff _ _).2 rfl
theorem sameB_refl (d : Bd) : sameB d d = true := by simp [sameB, allS_refl sameN_refl]

theorem f3 (p n : Nd) (hp : okN p) (hn : okN n) : PureC Try.prog 3 [eN p, eN n] (.bool true) := by
  refine pure_of_wp m3 rfl (by simp [eN_argOk]) ?_
  obtain ⟨b, hb, q10⟩ := f10 p n hp hn
  unfold FnW v3
  simp only [go_sem]
  refine callW_pure alive rfl rfl ?_
  simp only [go_sem, eN_cells, eN_fold]
  refine callW_pure q10 (by first | rfl | simp only [go_sem]) (by first | rfl | simp only [go_sem]) ?_
  cases b with
  | false => simp only [go_sem]
  | true =>
  obtain ⟨s1, s2, s3, _⟩ := hb rfl
  have q11 := f11 p n hp hn s1 s2 s3
  have q12 := f12 p n hp hn s1 s2
  simp only [go_sem, eN_cells, eN_fold]
  refine callW_pure q11 (by first | rfl | simp only [go_sem]) (by first | rfl | simp only [go_sem]) ?_
  cases hm : matchR p n with
  | none =>
    simp only [go_sem, eN_cells, eN_fold, eS]
    rw [hm] at q12
    refine callW_pure q12 (by first | rfl | simp only [go_sem]) (by first | rfl | simp only [go_sem]) ?_
    simp only [go_sem, eS]
    refine callW_pure (f13 [] [] (by decide) nofun nofun) (by first | rfl | simp only [go_sem]) (by first | rfl | simp only [go_sem]) ?_
    simp only [go_sem, allS]
  | some c =>
    have bo := match_ok hm hp hn s2
    obtain ⟨n1, n2⟩ := match_names hm s3
    have ml : c.length ≤ 30 := by
      have := foldN_len (nodesR p) []
      have e : c.length = (metasR p).length := by rw [← n1, List.length_map]
      simp only [metasR, List.length_nil] at this e
      omega
    simp only [go_sem, eN_cells, eN_fold, eS]
    rw [hm] at q12
    refine callW_pure q12 (by first | rfl | simp only [go_sem]) (by first | rfl | simp only [go_sem]) ?_
    simp only [go_sem, eS]
    refine callW_pure (f13 c c (Nat.le_trans ml (by decide)) (fun d hd => (bo d hd).1) (fun d hd => (bo d hd).1)) (by first | rfl | simp only [go_sem]) (by first | rfl | simp only [go_sem]) ?_
    simp only [go_sem, allS_refl sameB_refl]
end Go.Proofs
