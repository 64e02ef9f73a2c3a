/- V, proofs: the law StructuralFinds' answer on data. -/
import Derived.Test.YtfhkgkijljfcfaaN6
set_option linter.unusedVariables false
set_option linter.unusedSimpArgs false
namespace Go.Proofs
open Go.V Go.RowKit

mutual
theorem fill_nodes {b : List Bd} {V : Nat} (hv : ∀ name, (nodesRs (valueR b name).1).length ≤ V) : ∀ p : Nd, (nodesR (fillR b p)).length ≤ (nodesR p).length * (V + 1)
  | .mk k t a e ks => by
    have hp := nodesR_pos (.mk k t a e ks)
    have h1 : V + 1 ≤ (nodesR (.mk k t a e ks)).length * (V + 1) := Nat.le_mul_of_pos_left _ hp
    rw [fillR_eq]
    split
    · split
      · rename_i y hy
        have := hv (Nd.mk k t a e ks).text
        rw [hy] at this
        simp only [nodesRs, List.append_nil] at this
        omega
      · exact Nat.le_mul_of_pos_right _ (Nat.succ_pos _)
    · have h2 := fills_nodes hv ks
      show (nodesR (.mk k t 0 0 (fillKs b ks))).length ≤ _
      simp only [nodesR, List.length_cons, Nat.add_mul, Nat.one_mul] at h1 ⊢
      omega
theorem fills_nodes {b : List Bd} {V : Nat} (hv : ∀ name, (nodesRs (valueR b name).1).length ≤ V) : ∀ l : List Nd, (nodesRs (fillKs b l)).length ≤ (nodesRs l).length * (V + 1)
  | [] => by simp [fillKs, nodesRs]
  | d :: r => by
    have h1 := fill_nodes hv d
    have h2 := fills_nodes hv r
    have h3 := hv d.text
    have h4 : V + 1 ≤ (nodesR d).length * (V + 1) := Nat.le_mul_of_pos_left _ (nodesR_pos d)
    simp only [fillKs, nodesRs, nodesRs_append, List.length_append, Nat.add_mul]
    split
    · simp only [nodesRs, List.append_nil]; omega
    · omega
end

def sumR (l : List Bd) : Nat := (nodesRs (l.flatMap (·.2))).length
theorem sumR_take (l : List Bd) (i : Nat) (h : i < l.length) : sumR (l.take (i + 1)) = sumR (l.take i) + (nodesRs l[i].2).length := by
  unfold sumR
  rw [List.take_add_one, List.getElem?_eq_getElem h, List.flatMap_append, nodesRs_append, List.length_append]
  simp
theorem sumR_mem : ∀ {l : List Bd} {x : Bd}, x ∈ l → (nodesRs x.2).length ≤ sumR l
  | y :: r, x, h => by
    have e : sumR (y :: r) = (nodesRs y.2).length + sumR r := by simp [sumR, nodesRs_append]
    rcases List.mem_cons.1 h with rfl | h
    · omega
    · have := sumR_mem h; omega
theorem value_nodes {l : List Bd} {V : Nat} (h : sumR l ≤ V) (name : List UInt8) : (nodesRs (valueR l name).1).length ≤ V := by
  unfold valueR
  split
  · rename_i y hy
    exact Nat.le_trans (sumR_mem (List.mem_of_find?_eq_some hy)) h
  · exact Nat.zero_le _
theorem count_no {d : Nd} {k : Int} (h : countR d k = 0) : ∀ x ∈ nodesR d, (x.kind == k) = false := fun x hx => by
  have := List.length_eq_zero_iff.1 h
  rw [List.filter_eq_nil_iff] at this
  simpa using this x hx
theorem count_bound (d : Nd) (k : Int) : countR d k ≤ (nodesR d).length := List.length_filter_le _ _

set_option maxHeartbeats 2000000 in
theorem f7 (p n : Nd) (l : List Bd) (hp : okN p) (hn : okN n) (ll : l.length ≤ maxLen) (ol : ∀ b ∈ l, okB b) : PureC Try.prog 7 [eN p, eN n, .sl (l.map eB) 0] (.bool true) := by
  refine pure_of_wp m7 rfl (by simp [eN_argOk, argOk_sl]) ?_
  obtain ⟨bf, hbf, q10⟩ := f10 p n hp hn
  unfold FnW v7
  simp only [go_sem]
  refine callW_pure alive rfl rfl ?_
  simp only [go_sem, eN_cells, eN_fold]
  refine callW_pure q10 (by first | rfl | simp only [go_sem]) (by first | rfl | simp only [go_sem]) ?_
  cases bf with
  | false => simp only [go_sem]
  | true =>
  obtain ⟨s1, s2, s3, _⟩ := hbf rfl
  cases h30 : decide ((l.length : Int) > 30) with
  | true => simp only [go_sem, h30]
  | false =>
  have l30 : l.length ≤ 30 := by have := of_decide_eq_false h30; omega
  simp only [go_sem, h30]
  refine v_for (α := Nat × Int) (good := fun a => a.1 ≤ l.length ∧ 0 ≤ a.2 ∧ a.2 ≤ 61 ∧ (a.2 ≤ 30 → a.2 = sumR (l.take a.1))) (m := fun a => l.length - a.1)
    (E := fun a => [(2, .sl (l.map eB) 0), (3, .ptr 0 0), (4, .ptr 1 0), (7, .int .i64 a.2), (8, .int .i64 a.1)]) (O := fun _ => [.cells (eN p).cells, .cells (eN n).cells])
    (by intro i _; simp [go_sem, Obj.idsB, eN_cells]) rfl ?_ (0, 0) _ ⟨by simp, by simp, by simp, fun _ => by simp [sumR, nodesRs]⟩ (by simp only [go_sem]) (by simp [eN_cells]) rfl rfl
  rintro ⟨i, y⟩ ⟨hi, y0, y1, y2⟩
  simp only at hi y0 y1 y2
  simp only [go_sem, eN_cells]
  refine if_s (fun ht => ?_) (fun hf => ?_)
  · have hlt : i < l.length := by simpa using ht
    have g1 := get_map eB hlt
    have ob := ol _ (List.getElem_mem hlt)
    have hsum := sumR_take l i hlt
    have w : IntKind.i64.wrap ((i : Int) + 1) = ((i + 1 : Nat) : Int) := wrap_succ (by omega)
    simp only [go_sem]
    refine v_for (α := Nat × Int) (good := fun a => a.1 ≤ l[i].2.length ∧ 0 ≤ a.2 ∧ a.2 ≤ 61 ∧ (a.2 ≤ 30 → a.2 = sumR (l.take i) + (nodesRs (l[i].2.take a.1)).length)) (m := fun a => l[i].2.length - a.1)
      (E := fun a => [(2, .sl (l.map eB) 0), (3, .ptr 0 0), (4, .ptr 1 0), (7, .int .i64 a.2), (8, .int .i64 i), (9, .int .i64 a.1)]) (O := fun _ => [.cells (eN p).cells, .cells (eN n).cells])
      (by intro i _; simp [go_sem, Obj.idsB, eN_cells]) rfl ?_ (0, y) _ ⟨by simp, y0, y1, fun h => by simp only [List.take_zero, nodesRs, List.length_nil]; have := y2 h; omega⟩ (by simp only [go_sem]) (by simp [eN_cells]) rfl rfl
    rintro ⟨k, z⟩ ⟨hk, z0, z1, z2⟩
    simp only at hk z0 z1 z2
    cases h1 : decide ((k : Int) < l[i].2.length) with
    | false =>
      have hge : k = l[i].2.length := by have := of_decide_eq_false h1; omega
      simp only [go_sem, g1, eB_cells, eN_cells, h1]
      refine ⟨(i + 1, z), ⟨by simp only; omega, z0, z1, fun h => ?_⟩, by simp only; omega, by simp only [go_sem, w], by simp only [go_sem, eN_cells], rfl, rfl⟩
      simp only at h ⊢
      have := z2 h
      rw [hge, List.take_length] at this
      omega
    | true =>
    have hkt : k < l[i].2.length := by have := of_decide_eq_true h1; omega
    cases h2 : decide (z ≤ 30) with
    | false =>
      have hz := of_decide_eq_false h2
      simp only [go_sem, g1, eB_cells, eN_cells, h1, h2]
      exact ⟨(i + 1, z), ⟨by simp only; omega, z0, z1, fun h => absurd h hz⟩, by simp only; omega, by simp only [go_sem, w], by simp only [go_sem, eN_cells], rfl, rfl⟩
    | true =>
      have hz := of_decide_eq_true h2
      have g2 := get_map eN hkt
      obtain ⟨r, ⟨r1, r2, r3⟩, q26⟩ := f26 _ l[i].2[k] (Nat.lt_succ_self _) (ob.2 _ (List.getElem_mem hkt)) 30 (by omega) (by omega)
      have hs := nodesRs_take l[i].2 k hkt
      have w1 : IntKind.i64.wrap ((k : Int) + 1) = ((k + 1 : Nat) : Int) := wrap_len hkt ob.1
      have w2 : IntKind.i64.wrap (z + r) = z + r := wrap_id (by omega) (by omega)
      simp only [go_sem, g1, g2, eB_cells, eN_cells, eN_fold, h1, h2]
      refine callW_pure q26 (by first | rfl | simp only [go_sem]) (by first | rfl | simp only [go_sem]) ?_
      simp only [go_sem, w2]
      refine ⟨(k + 1, z + r), ⟨by simp only; omega, by simp only; omega, by simp only; omega, fun h => ?_⟩, by simp only; omega, by simp only [go_sem, w1], by simp only [go_sem, eN_cells], rfl, rfl⟩
      simp only at h ⊢
      rw [hs, List.length_append]
      have := z2 hz
      have := r3 (by omega)
      omega
  · have hge : i = l.length := by
      have : l.length ≤ i := by simpa using hf
      omega
    subst hge
    rw [List.take_length] at y2
    cases h2 : decide (y > 30) with
    | true => simp only [go_sem, h2]
    | false =>
    have hy := of_decide_eq_false h2
    have hsum : sumR l ≤ 30 := by have := y2 (by omega); omega
    have ol2 : ∀ x ∈ l, okB2 x := fun x hx => ⟨ol x hx, by
      have := nodes_len x.2
      have := sumR_mem hx
      omega⟩
    have c25 := f27 p hp (cap30 s1) 25
    have c26 := f27 p hp (cap30 s1) 26
    have b25 := count_bound p 25
    have b26 := count_bound p 26
    have w1 : IntKind.i64.wrap ((countR p 25 : Int) + (countR p 26 : Int)) = (countR p 25 : Int) + (countR p 26 : Int) := wrap_id (by omega) (by omega)
    simp only [go_sem, h2, eN_cells, eN_fold]
    refine callD_pure c25 (by first | rfl | simp only [go_sem]) (by first | rfl | simp only [go_sem]) ?_
    simp only [go_sem, eN_cells, eN_fold]
    refine callD_pure c26 (by first | rfl | simp only [go_sem]) (by first | rfl | simp only [go_sem]) ?_
    cases hz : ((countR p 25 : Int) + (countR p 26 : Int) == 0) with
    | true =>
      have hz' := beq_iff_eq.1 hz
      have hm : ∀ x ∈ nodesR p, metaR x = false := fun x hx => by
        rw [metaR, count_no (by omega) x hx, count_no (by omega) x hx]; rfl
      have hg := match_ground (n := n) s1 hm
      have q11 := f11 p n hp hn s1 s2 s3
      have q28 := f28 _ p n (Nat.lt_succ_self _) hp hn
      simp only [go_sem, w1, hz, eN_cells, eN_fold]
      refine callW_pure q11 (by first | rfl | simp only [go_sem]) (by first | rfl | simp only [go_sem]) ?_
      rw [← hg] at q28
      cases hmt : matchR p n with
      | none =>
        rw [hmt] at q28
        simp only [go_sem, eS, eN_cells, eN_fold]
        refine callW_pure q28 (by first | rfl | simp only [go_sem]) (by first | rfl | simp only [go_sem]) ?_
        simp only [go_sem, Option.isSome_none]
      | some c =>
        rw [hmt] at q28
        simp only [go_sem, eS, eN_cells, eN_fold]
        refine callW_pure q28 (by first | rfl | simp only [go_sem]) (by first | rfl | simp only [go_sem]) ?_
        simp only [go_sem, Option.isSome_some]
    | false =>
    have q25 := f25 l ol2 ll _ p (Nat.lt_succ_self _) hp (by omega)
    have fo := fill_ok ol2 p hp (by omega)
    have fs : (nodesR (fillR l p)).length ≤ 930 := by
      have h1 := fill_nodes (value_nodes hsum) p
      have h2 : (nodesR p).length * (30 + 1) ≤ 30 * (30 + 1) := Nat.mul_le_mul_right _ s1
      omega
    have sm := fun h1 h2 => match_some (p := p) (n := fillR l p) (l := l) s1 h1 (eqN_refl _) h2
    have fc : (nodesR (fillR l p)).length * 64 ≤ 35184372088832 := Nat.le_trans (Nat.mul_le_mul_right 64 fs) (by decide)
    have d25 := f27 _ fo fc 25
    have d26 := f27 _ fo fc 26
    have e25 := count_bound (fillR l p) 25
    have e26 := count_bound (fillR l p) 26
    have q11 := f11g p (fillR l p) hp fo s1 (by omega) s3
    have nm : countR (fillR l p) 25 = 0 → countR (fillR l p) 26 = 0 → ∀ x ∈ nodesR (fillR l p), metaR x = false := fun a1 a2 x hx => by
      rw [metaR, count_no a1 x hx, count_no a2 x hx]; rfl
    clear fc
    generalize fillR l p = f at *
    have w2 : IntKind.i64.wrap ((countR f 25 : Int) + (countR f 26 : Int)) = (countR f 25 : Int) + (countR f 26 : Int) := wrap_id (by omega) (by omega)
    simp only [go_sem, w1, hz, eN_cells, eN_fold]
    refine callW_pure q25 (by first | rfl | simp only [go_sem]) (by first | rfl | simp only [go_sem]) ?_
    cases h26 : (p.kind == 26) with
    | true => simp only [go_sem, h26, eN_cells, eN_fold]
    | false =>
    simp only [go_sem, h26, eN_cells, eN_fold]
    refine callD_pure d25 (by first | rfl | simp only [go_sem]) (by first | rfl | simp only [go_sem]) ?_
    simp only [go_sem, h26, eN_cells, eN_fold]
    refine callD_pure d26 (by first | rfl | simp only [go_sem]) (by first | rfl | simp only [go_sem]) ?_
    cases hg : decide ((countR f 25 : Int) + (countR f 26 : Int) > 0) with
    | true => simp only [go_sem, h26, w2, hg, eN_cells, eN_fold]
    | false =>
      have hg' := of_decide_eq_false hg
      have hs := sm h26 (nm (by omega) (by omega))
      simp only [go_sem, h26, w2, hg, eN_cells, eN_fold]
      refine callW_pure q11 (by first | rfl | simp only [go_sem]) (by first | rfl | simp only [go_sem]) ?_
      obtain ⟨c, hc⟩ := Option.isSome_iff_exists.1 hs
      simp only [go_sem, hc, eS]
end Go.Proofs
