/- V, proofs: the law StructuralPlaces' answer on data. -/
import Derived.Test.YtfhkgkijljfcfaaN4
set_option linter.unusedVariables false
set_option linter.unusedSimpArgs false
namespace Go.Proofs
open Go.V Go.RowKit

theorem allL_append (p : Nd) (a b : List Nd) : allL p (a ++ b) = allL p a ++ allL p b := List.filterMap_append
theorem allL_at {p : Nd} {l : List Nd} {i : Nat} {b : List Bd} (h : i < l.length) (hm : matchR p l[i] = some b) : (allL p l)[(allL p (l.take i)).length]? = some (l[i], b) := by
  have e : allL p l = allL p (l.take i) ++ ((l[i], b) :: allL p (l.drop (i + 1))) := by
    have h1 := allL_some h hm
    have h2 := allL_append p (l.take (i + 1)) (l.drop (i + 1))
    rw [List.take_append_drop, h1, List.append_assoc] at h2
    exact h2
  rw [e, List.getElem?_append_right (Nat.le_refl _), Nat.sub_self]
  rfl
theorem insideM_refl (m : Mt) : insideM m m = true := by simp [insideM]
theorem outer_cover (l : List Mt) : ∀ i, i ≤ l.length → ∀ j (h : j < l.length), j < i → (outerR (l.take i)).any (insideM l[j]) = true := by
  intro i
  induction i with
  | zero => intro _ j h hj; omega
  | succ i ih =>
    intro hi j h hj
    rw [outerR_succ l i (by omega)]
    split
    · rename_i hc
      rcases Nat.lt_succ_iff_lt_or_eq.1 hj with q | rfl
      · exact ih (by omega) j h q
      · exact hc
    · rw [List.any_append]
      rcases Nat.lt_succ_iff_lt_or_eq.1 hj with q | rfl
      · rw [ih (by omega) j h q]; rfl
      · simp [insideM_refl]
theorem outer_sep (l : List Mt) : ∀ i, i ≤ l.length → (outerR (l.take i)).Pairwise fun a b => insideM b a = false := by
  intro i
  induction i with
  | zero => intro _; simp [outerR]
  | succ i ih =>
    intro hi
    rw [outerR_succ l i (by omega)]
    split
    · exact ih (by omega)
    · rename_i hc
      rw [List.pairwise_append]
      refine ⟨ih (by omega), by simp, fun a ha b hb => ?_⟩
      rw [List.mem_singleton] at hb
      subst hb
      rw [Bool.not_eq_true, List.any_eq_false] at hc
      simpa using hc a ha

set_option maxHeartbeats 1000000 in
theorem f8 (p t : Nd) (hp : okN p) (ht : okN t) : PureC Try.prog 8 [eN p, eN t] (.bool true) := by
  refine pure_of_wp m8 rfl (by simp [eN_argOk]) ?_
  obtain ⟨b, hb, q10⟩ := f10 p t hp ht
  unfold FnW v8
  simp only [go_sem]
  refine callW_pure alive rfl rfl ?_
  simp only [go_sem, eN_cells, eN_fold]
  refine callW_pure q10 (by first | rfl | simp only [go_sem]) (by first | rfl | simp only [go_sem]) ?_
  cases b with
  | false => simp only [go_sem]
  | true =>
  obtain ⟨s1, s2, s3, _⟩ := hb rfl
  have q16 := f16 p t hp ht s1 s2 s3
  have q29 := f29 _ t (Nat.lt_succ_self _) ht (cap150 s2)
  have q11 : ∀ x ∈ nodesR t, PureC Try.prog 11 [eN p, eN x] (eS (matchR p x)) := fun x hx => f11 p x hp (nodesR_ok t ht x hx) s1 (Nat.le_trans (nodes_sub t x hx) s2) s3
  have okl := allL_ok hp ht s1 s2 s3
  have okn := nodesR_ok t ht
  have okb : ∀ x ∈ nodesR t, ∀ b, matchR p x = some b → b.length ≤ maxLen ∧ ∀ y ∈ b, okB y := fun x hx b hb' =>
    ⟨Nat.le_trans (match_len hb' s1 s3) (by decide), fun y hy => (match_ok hb' hp (okn x hx) (Nat.le_trans (nodes_sub t x hx) s2) y hy).1⟩
  simp only [go_sem, eN_cells, eN_fold]
  refine callW_pure q16 (by first | rfl | simp only [go_sem]) (by first | rfl | simp only [go_sem]) ?_
  simp only [go_sem, eN_cells, eN_fold]
  refine callW_pure q29 (by first | rfl | simp only [go_sem]) (by first | rfl | simp only [go_sem]) ?_
  generalize nodesR t = ns at *
  generalize hl : allL p ns = l at *
  have ll : l.length ≤ 150 := by have := allL_len p ns; rw [hl] at this; omega
  simp only [go_sem]
  refine v_for (good := fun i => i ≤ ns.length) (m := fun i => ns.length - i)
    (E := fun i => [(2, .ptr 0 0), (5, .sl (l.map eM) 0), (6, .sl (ns.map eN) 0), (7, .int .i64 (allL p (ns.take i)).length), (8, .int .i64 i)]) (O := fun i => [.cells (eN p).cells, .cells (eN t).cells])
    (by intro i _; simp [go_sem, Obj.idsB, eN_cells]) rfl ?_ 0 _ (by omega) (by simp [go_sem, allL]) (by simp [eN_cells]) rfl rfl
  intro i hi
  simp only [go_sem, eN_cells]
  refine if_s (fun ht => ?_) (fun hf => ?_)
  · have hlt : i < ns.length := by simpa using ht
    have g1 := get_map eN hlt
    have w : IntKind.i64.wrap ((i : Int) + 1) = ((i + 1 : Nat) : Int) := wrap_succ (by omega)
    simp only [go_sem, g1, eN_cells, eN_fold]
    refine callD_pure (q11 _ (List.getElem_mem hlt)) (by first | rfl | simp only [go_sem]) (by first | rfl | simp only [go_sem]) ?_
    cases hm : matchR p ns[i] with
    | none =>
      have hs := allL_none hlt hm
      simp only [go_sem, eS]
      exact ⟨i + 1, by omega, by simp only; omega, by simp only [go_sem, w, hs], by simp only [go_sem, eN_cells], rfl, rfl⟩
    | some b =>
      have hs := allL_some hlt hm
      have ha := allL_at hlt hm
      rw [hl] at ha
      have hk : (allL p (ns.take i)).length < l.length := by
        apply Nat.lt_of_not_le
        intro hle
        rw [List.getElem?_eq_none hle] at ha
        cases ha
      have g2 : (l.map eM)[(allL p (ns.take i)).length]? = some (eM (ns[i], b)) := by rw [List.getElem?_map, ha]; rfl
      have hks : (allL p (ns.take (i + 1))).length = (allL p (ns.take i)).length + 1 := by rw [hs]; simp
      obtain ⟨b1, b2⟩ := okb _ (List.getElem_mem hlt) b hm
      generalize (allL p (ns.take i)).length = k at *
      have hge : decide (l.length ≤ k) = false := by rw [decide_eq_false_iff_not]; omega
      have w2 : IntKind.i64.wrap ((k : Int) + 1) = ((k + 1 : Nat) : Int) := wrap_succ (by omega)
      simp only [go_sem, eS, g1, g2, hge, eM_cells, eN_cells, eN_fold]
      refine callD_pure (f30 _ ns[i] ns[i] (Nat.lt_succ_self _) (okn _ (List.getElem_mem hlt)) (okn _ (List.getElem_mem hlt))) (by first | rfl | simp only [go_sem]) (by first | rfl | simp only [go_sem]) ?_
      simp only [go_sem, g1, g2, hge, sameN_refl, eM_cells, eN_cells, eN_fold]
      refine callD_pure (f13 b b b1 b2 b2) (by first | rfl | simp only [go_sem]) (by first | rfl | simp only [go_sem]) ?_
      simp only [go_sem, allS_refl sameB_refl]
      exact ⟨i + 1, by omega, by simp only; omega, by simp only [go_sem, w, w2, hks], by simp only [go_sem, eN_cells], rfl, rfl⟩
  · have hge : i = ns.length := by
      have : ns.length ≤ i := by simpa using hf
      omega
    subst hge
    have hne : ((l.length : Int) != (l.length : Int)) = false := by simp
    simp only [go_sem, List.take_length, hl, hne]
    have l88 : l.length * 88 ≤ 35184372088832 := Nat.le_trans (Nat.mul_le_mul_right 88 ll) (by decide)
    refine callW_pure (f18 l l88) (by first | rfl | simp only [go_sem]) (by first | rfl | simp only [go_sem]) ?_
    have cov := fun j h => outer_cover l l.length (Nat.le_refl _) j h h
    have sep := outer_sep l l.length (Nat.le_refl _)
    have lo := outerR_len' l
    rw [List.take_length] at cov sep
    generalize outerR l = out at *
    simp only [go_sem]
    refine v_for (good := fun i => i ≤ l.length) (m := fun i => l.length - i)
      (E := fun i => [(5, .sl (l.map eM) 0), (11, .sl (out.map eM) 0), (12, .int .i64 i)]) (O := fun i => [.cells (eN p).cells, .cells (eN t).cells])
      (by intro i _; simp [go_sem, Obj.idsB, eN_cells]) rfl ?_ 0 _ (by omega) (by simp [go_sem]) (by simp [eN_cells]) rfl rfl
    intro i hi
    simp only [go_sem, eN_cells]
    refine if_s (fun ht => ?_) (fun hf => ?_)
    · have hlt : i < l.length := by simpa using ht
      have g1 := get_map eM hlt
      have w : IntKind.i64.wrap ((i : Int) + 1) = ((i + 1 : Nat) : Int) := wrap_succ (by omega)
      have cv := cov i hlt
      simp only [go_sem]
      refine v_for (good := fun j => j ≤ out.length) (m := fun j => out.length - j)
        (E := fun j => [(5, .sl (l.map eM) 0), (11, .sl (out.map eM) 0), (12, .int .i64 i), (13, .bool ((out.take j).any (insideM l[i]))), (14, .int .i64 j)]) (O := fun i => [.cells (eN p).cells, .cells (eN t).cells])
        (by intro i _; simp [go_sem, Obj.idsB, eN_cells]) rfl ?_ 0 _ (by omega) (by simp [go_sem]) (by simp [eN_cells]) rfl rfl
      intro j hj
      simp only [go_sem, eN_cells]
      refine if_s (fun ht => ?_) (fun hf => ?_)
      · have hjt : j < out.length := by simpa using ht
        have g2 := get_map eM hjt
        have hs := any_take_succ (insideM l[i]) out j hjt
        have w2 : IntKind.i64.wrap ((j : Int) + 1) = ((j + 1 : Nat) : Int) := wrap_succ (by omega)
        cases hx : (out.take j).any (insideM l[i]) with
        | true =>
          simp only [go_sem, hx]
          exact ⟨j + 1, by omega, by simp only; omega, by simp only [go_sem, w2, hs, hx], by simp only [go_sem, eN_cells], rfl, rfl⟩
        | false =>
        cases h1 : decide (l[i].1.at' ≥ out[j].1.at') with
        | false =>
          simp only [go_sem, hx, g1, g2, eM_cells, h1]
          exact ⟨j + 1, by omega, by simp only; omega, by simp only [go_sem, w2, hs, hx, insideM, h1, Bool.false_and], by simp only [go_sem, eN_cells], rfl, rfl⟩
        | true =>
          simp only [go_sem, hx, g1, g2, eM_cells, h1]
          exact ⟨j + 1, by omega, by simp only; omega, by simp only [go_sem, w2, hs, hx, insideM, h1, Bool.true_and], by simp only [go_sem, eN_cells], rfl, rfl⟩
      · have hge : j = out.length := by
          have : out.length ≤ j := by simpa using hf
          omega
        subst hge
        simp only [go_sem, List.take_length, cv]
        exact ⟨i + 1, by omega, by simp only; omega, by simp only [go_sem, w], by simp only [go_sem, eN_cells], rfl, rfl⟩
    · simp only [go_sem]
      refine v_for (good := fun i => i ≤ out.length) (m := fun i => out.length - i)
        (E := fun i => [(11, .sl (out.map eM) 0), (15, .int .i64 i)]) (O := fun i => [.cells (eN p).cells, .cells (eN t).cells])
        (by intro i _; simp [go_sem, Obj.idsB, eN_cells]) rfl ?_ 0 _ (by omega) (by simp [go_sem]) (by simp [eN_cells]) rfl rfl
      intro i hi
      simp only [go_sem, eN_cells]
      refine if_s (fun ht => ?_) (fun hf => ?_)
      · have hlt : i < out.length := by simpa using ht
        have g1 := get_map eM hlt
        have w : IntKind.i64.wrap ((i : Int) + 1) = ((i + 1 : Nat) : Int) := wrap_succ (by omega)
        simp only [go_sem]
        refine v_for (good := fun j => j ≤ i) (m := fun j => i - j)
          (E := fun j => [(11, .sl (out.map eM) 0), (15, .int .i64 i), (16, .int .i64 j)]) (O := fun i => [.cells (eN p).cells, .cells (eN t).cells])
          (by intro i _; simp [go_sem, Obj.idsB, eN_cells]) rfl ?_ 0 _ (by omega) (by simp [go_sem]) (by simp [eN_cells]) rfl rfl
        intro j hj
        simp only [go_sem, eN_cells]
        refine if_s (fun ht => ?_) (fun hf => ?_)
        · have hjt : j < i := by simpa using ht
          have hjo : j < out.length := by omega
          have g2 := get_map eM hjo
          have w2 : IntKind.i64.wrap ((j : Int) + 1) = ((j + 1 : Nat) : Int) := wrap_succ (by omega)
          have hs := List.pairwise_iff_getElem.1 sep j i hjo hlt hjt
          rw [insideM] at hs
          cases h1 : decide (out[i].1.at' ≥ out[j].1.at') with
          | false =>
            simp only [go_sem, g1, g2, eM_cells, h1]
            exact ⟨j + 1, by omega, by simp only; omega, by simp only [go_sem, w2], by simp only [go_sem, eN_cells], rfl, rfl⟩
          | true =>
            rw [h1, Bool.true_and] at hs
            simp only [go_sem, g1, g2, eM_cells, h1, hs]
            exact ⟨j + 1, by omega, by simp only; omega, by simp only [go_sem, w2], by simp only [go_sem, eN_cells], rfl, rfl⟩
        · simp only [go_sem]
          exact ⟨i + 1, by omega, by simp only; omega, by simp only [go_sem, w], by simp only [go_sem, eN_cells], rfl, rfl⟩
      · simp only [go_sem]
end Go.Proofs
