/- V, proofs: the law StructuralAlls' answer on data. -/
import Derived.Test.YtfhkgkijljfcfaaB7
import Derived.Test.YtfhkgkijljfcfaaB2
import Derived.Test.YtfhkgkijljfcfaaT1
set_option linter.unusedVariables false
set_option linter.unusedSimpArgs false
namespace Go.Proofs
open Go.V Go.RowKit

mutual
theorem nodes_sub : ∀ d : Nd, ∀ x ∈ nodesR d, (nodesR x).length ≤ (nodesR d).length
  | .mk k t a e ks => by
    intro x hx
    simp only [nodesR, List.mem_cons] at hx
    rcases hx with rfl | hx
    · exact Nat.le_refl _
    · have := nodesRs_sub ks x hx
      simp only [nodesR, List.length_cons]
      omega
theorem nodesRs_sub : ∀ l : List Nd, ∀ x ∈ nodesRs l, (nodesR x).length ≤ (nodesRs l).length
  | [], x, hx => by simp [nodesRs] at hx
  | d :: r, x, hx => by
    simp only [nodesRs, List.mem_append] at hx
    simp only [nodesRs, List.length_append]
    rcases hx with hx | hx
    · have := nodes_sub d x hx; omega
    · have := nodesRs_sub r x hx; omega
end

def allL (p : Nd) (l : List Nd) : List Mt := l.filterMap fun n => (matchR p n).map fun b => (n, b)
theorem allL_some {p : Nd} {l : List Nd} {i : Nat} {b : List Bd} (h : i < l.length) (hm : matchR p l[i] = some b) : allL p (l.take (i + 1)) = allL p (l.take i) ++ [(l[i], b)] := by
  unfold allL
  rw [List.take_add_one, List.getElem?_eq_getElem h, List.filterMap_append]
  simp [hm]
theorem allL_none {p : Nd} {l : List Nd} {i : Nat} (h : i < l.length) (hm : matchR p l[i] = none) : allL p (l.take (i + 1)) = allL p (l.take i) := by
  unfold allL
  rw [List.take_add_one, List.getElem?_eq_getElem h, List.filterMap_append]
  simp [hm]
theorem allL_len (p : Nd) (l : List Nd) : (allL p l).length ≤ l.length := List.length_filterMap_le _ _
theorem cap64 {a b n : Nat} (h : a + b ≤ n) (hn : (n + 1) * 64 ≤ 35184372088832) : (a + 1 + b) * 64 ≤ 35184372088832 := Nat.le_trans (Nat.mul_le_mul_right 64 (by omega)) hn

theorem f29 : ∀ (n : Nat) (d : Nd), SizeOf.sizeOf d < n → okN d → (nodesR d).length * 64 ≤ 35184372088832 → PureC Try.prog 29 [eN d] (.sl ((nodesR d).map eN) 0) := by
  intro n
  induction n with
  | zero => intro d h; omega
  | succ n ih =>
    intro d hn ho hc
    obtain ⟨hl, hk⟩ := kids_ok ho
    have hz : ∀ x ∈ d.kids, SizeOf.sizeOf x < n := fun x hx => by have := kids_lt hx; omega
    rw [nodesR_kids] at hc ⊢
    simp only [List.length_cons] at hc
    refine pure_of_wp m29 rfl (by simp [eN_argOk]) ?_
    unfold FnW v29
    simp only [go_sem, eN_fold, eN_cells]
    refine v_for (good := fun i => i ≤ d.kids.length) (m := fun i => d.kids.length - i)
      (E := fun i => [(3, .sl ((d :: nodesRs (d.kids.take i)).map eN) 3), (9, .sl (d.kids.map eN) 0), (10, .int .i64 d.kids.length), (11, .int .i64 i)]) (O := fun i => [.cells (eN d).cells, .tok ((nodesRs (d.kids.take i)).length + 1) 5])
      (by intro i _; simp [go_sem, Obj.idsB, eN_cells]) rfl ?_ 0 _ (by omega) (by simp [go_sem, nodesRs]) (by simp [nodesRs, eN_cells]) rfl rfl
    intro i hi
    simp only [go_sem, eN_cells]
    refine if_s (fun ht => ?_) (fun hf => ?_)
    · have hlt : i < d.kids.length := by simpa using ht
      have g1 := get_map eN hlt
      have hs := nodesRs_take d.kids i hlt
      have hle := nodesRs_len d.kids (i + 1)
      rw [hs, List.length_append] at hle
      have hcap := cap64 hle hc
      have hsub : (nodesR d.kids[i]).length * 64 ≤ 35184372088832 := Nat.le_trans (Nat.mul_le_mul_right 64 (by clear hc hcap; omega)) hc
      have q := ih d.kids[i] (hz _ (List.getElem_mem hlt)) (hk _ (List.getElem_mem hlt)) hsub
      clear hc hsub hle
      generalize nodesRs (d.kids.take i) = out at *
      generalize nodesR d.kids[i] = new at *
      simp only [go_sem, g1, eN_cells, eN_fold]
      refine callW_pure q (by first | rfl | simp only [go_sem]) (by first | rfl | simp only [go_sem]) ?_
      simp only [go_sem, hcap, eN_cells]
      exact ⟨i + 1, by clear hcap; omega, by clear hcap; simp only; omega, by simp only [go_sem, wrap_len hlt hl, hs, List.map_append], by simp only [go_sem, hs, List.length_append, eN_cells, Nat.add_right_comm], rfl, rfl⟩
    · have hge : i = d.kids.length := by
        have : d.kids.length ≤ i := by simpa using hf
        clear hc
        omega
      subst hge
      simp only [go_sem, List.take_length]

theorem cap88 {i n : Nat} (h : i < n) (hn : n ≤ 1000) : (i + 1) * 88 ≤ 35184372088832 := Nat.le_trans (Nat.mul_le_mul_right 88 (show i + 1 ≤ 1000 by omega)) (by decide)
theorem cap150 {n : Nat} (h : n ≤ 150) : n * 64 ≤ 35184372088832 := by omega

theorem f14 (p t : Nd) (hp : okN p) (ht : okN t) (h1 : (nodesR p).length ≤ 30) (h2 : (nodesR t).length ≤ 150) : PureC Try.prog 14 [eN p, eN t] (.sl ((allL p (nodesR t)).map eM) 0) := by
  refine pure_of_wp m14 rfl (by simp [eN_argOk]) ?_
  have q37 := f37 _ t (Nat.lt_succ_self _) ht (cap150 h2)
  have q12 : ∀ x ∈ nodesR t, PureC Try.prog 12 [eN p, eN x] (eS (matchR p x)) := fun x hx => f12 p x hp (nodesR_ok t ht x hx) h1 (Nat.le_trans (nodes_sub t x hx) h2)
  generalize nodesR t = l at *
  unfold FnW v14
  simp only [go_sem, eN_fold, eN_cells]
  refine callW_pure q37 (by first | rfl | simp only [go_sem]) (by first | rfl | simp only [go_sem]) ?_
  simp only [go_sem]
  refine v_for (good := fun i => i ≤ l.length) (m := fun i => l.length - i)
    (E := fun i => [(2, .ptr 0 0), (5, .sl ((allL p (l.take i)).map eM) 4), (6, .sl (l.map eN) 0), (7, .int .i64 i)]) (O := fun i => [.cells (eN p).cells, .cells (eN t).cells, .tok (allL p (l.take i)).length 6])
    (by intro i _; simp [go_sem, Obj.idsB, eN_cells]) rfl ?_ 0 _ (by omega) (by simp [go_sem, allL]) (by simp [allL, eN_cells]) rfl rfl
  intro i hi
  simp only [go_sem, eN_cells]
  refine if_s (fun ht => ?_) (fun hf => ?_)
  · have hlt : i < l.length := by simpa using ht
    have g1 := get_map eN hlt
    have w : IntKind.i64.wrap ((i : Int) + 1) = ((i + 1 : Nat) : Int) := wrap_succ (by omega)
    have hle : (allL p (l.take i)).length ≤ i := Nat.le_trans (allL_len _ _) (by rw [List.length_take]; omega)
    have hcap := cap88 (Nat.lt_of_le_of_lt hle hlt) (by omega)
    simp only [go_sem, g1, eN_cells, eN_fold]
    refine callD_pure (q12 _ (List.getElem_mem hlt)) (by first | rfl | simp only [go_sem]) (by first | rfl | simp only [go_sem]) ?_
    cases hm : matchR p l[i] with
    | none =>
      have hs := allL_none hlt hm
      simp only [go_sem, eS]
      exact ⟨i + 1, by omega, by simp only; omega, by simp only [go_sem, w, hs], by simp only [go_sem, hs, eN_cells], rfl, rfl⟩
    | some b =>
      have hs := allL_some hlt hm
      simp only [go_sem, eS, g1, eN_cells, hcap, VV.canon, VV.canon0]
      exact ⟨i + 1, by omega, by simp only; omega, by simp only [go_sem, w, hs, List.map_append, eM], by simp only [go_sem, hs, List.length_append, eN_cells], rfl, rfl⟩
  · have hge : i = l.length := by
      have : l.length ≤ i := by simpa using hf
      omega
    subst hge
    simp only [go_sem, List.take_length]

theorem f16 (p t : Nd) (hp : okN p) (ht : okN t) (h1 : (nodesR p).length ≤ 30) (h2 : (nodesR t).length ≤ 150) (hb : bareR p = true) : PureC Try.prog 16 [eN p, eN t] (.sl ((allL p (nodesR t)).map eM) 0) := by
  refine pure_of_wp m16 rfl (by simp [eN_argOk]) ?_
  have q29 := f29 _ t (Nat.lt_succ_self _) ht (cap150 h2)
  have q11 : ∀ x ∈ nodesR t, PureC Try.prog 11 [eN p, eN x] (eS (matchR p x)) := fun x hx => f11 p x hp (nodesR_ok t ht x hx) h1 (Nat.le_trans (nodes_sub t x hx) h2) hb
  generalize nodesR t = l at *
  unfold FnW v16
  simp only [go_sem, eN_fold, eN_cells]
  refine callW_pure q29 (by first | rfl | simp only [go_sem]) (by first | rfl | simp only [go_sem]) ?_
  simp only [go_sem]
  refine v_for (good := fun i => i ≤ l.length) (m := fun i => l.length - i)
    (E := fun i => [(2, .ptr 0 0), (5, .sl ((allL p (l.take i)).map eM) 4), (11, .sl (l.map eN) 0), (12, .int .i64 l.length), (13, .int .i64 i)]) (O := fun i => [.cells (eN p).cells, .cells (eN t).cells, .tok (allL p (l.take i)).length 6])
    (by intro i _; simp [go_sem, Obj.idsB, eN_cells]) rfl ?_ 0 _ (by omega) (by simp [go_sem, allL]) (by simp [allL, eN_cells]) rfl rfl
  intro i hi
  simp only [go_sem, eN_cells]
  refine if_s (fun ht => ?_) (fun hf => ?_)
  · have hlt : i < l.length := by simpa using ht
    have g1 := get_map eN hlt
    have w : IntKind.i64.wrap ((i : Int) + 1) = ((i + 1 : Nat) : Int) := wrap_succ (by omega)
    have hle : (allL p (l.take i)).length ≤ i := Nat.le_trans (allL_len _ _) (by rw [List.length_take]; omega)
    have hcap := cap88 (Nat.lt_of_le_of_lt hle hlt) (by omega)
    simp only [go_sem, g1, eN_cells, eN_fold]
    refine callW_pure (q11 _ (List.getElem_mem hlt)) (by first | rfl | simp only [go_sem]) (by first | rfl | simp only [go_sem]) ?_
    cases hm : matchR p l[i] with
    | none =>
      have hs := allL_none hlt hm
      simp only [go_sem, eS]
      exact ⟨i + 1, by omega, by simp only; omega, by simp only [go_sem, w, hs], by simp only [go_sem, hs, eN_cells], rfl, rfl⟩
    | some b =>
      have hs := allL_some hlt hm
      simp only [go_sem, eS, g1, eN_cells, hcap, VV.canon, VV.canon0]
      exact ⟨i + 1, by omega, by simp only; omega, by simp only [go_sem, w, hs, List.map_append, eM], by simp only [go_sem, hs, List.length_append, eN_cells], rfl, rfl⟩
  · have hge : i = l.length := by
      have : l.length ≤ i := by simpa using hf
      omega
    subst hge
    simp only [go_sem, List.take_length]

def holdsL (p : Nd) (l : List Nd) : Bool := l.any fun n => (matchR p n).isSome
theorem f17 (p t : Nd) (hp : okN p) (ht : okN t) (h1 : (nodesR p).length ≤ 30) (h2 : (nodesR t).length ≤ 150) : PureC Try.prog 17 [eN p, eN t] (.bool (holdsL p (nodesR t))) := by
  refine pure_of_wp m17 rfl (by simp [eN_argOk]) ?_
  have q29 := f29 _ t (Nat.lt_succ_self _) ht (cap150 h2)
  have q34 : ∀ x ∈ nodesR t, _ := fun x hx => f34 (ob0 := [.cells (eN p).cells, .cells (eN t).cells, .cells (eN x).cells]) (by simp [Obj.idsB, idsL, VV.ids, eN_cells]) p x hp (nodesR_ok t ht x hx) h1 (Nat.le_trans (nodes_sub t x hx) h2)
  generalize nodesR t = l at *
  unfold FnW v17
  simp only [go_sem, eN_fold, eN_cells]
  refine callW_pure q29 (by first | rfl | simp only [go_sem]) (by first | rfl | simp only [go_sem]) ?_
  simp only [go_sem]
  refine v_for (good := fun i => i ≤ l.length ∧ ∀ j (h : j < l.length), j < i → (matchR p l[j]).isSome = false) (m := fun i => l.length - i)
    (E := fun i => [(2, .ptr 0 0), (10, .sl (l.map eN) 0), (11, .int .i64 l.length), (12, .int .i64 i)]) (O := fun i => [.cells (eN p).cells, .cells (eN t).cells])
    (by intro i _; simp [go_sem, Obj.idsB, eN_cells]) rfl ?_ 0 _ ⟨by omega, by omega⟩ (by simp [go_sem]) (by simp [eN_cells]) rfl rfl
  rintro i ⟨hi, hn⟩
  simp only [go_sem, eN_cells]
  refine if_s (fun ht => ?_) (fun hf => ?_)
  · have hlt : i < l.length := by simpa using ht
    have g1 := get_map eN hlt
    have w : IntKind.i64.wrap ((i : Int) + 1) = ((i + 1 : Nat) : Int) := wrap_succ (by omega)
    have q := q34 _ (List.getElem_mem hlt)
    simp only [eN_cells, List.length_cons, List.length_nil, Nat.reduceAdd, List.cons_append, List.nil_append] at q
    simp only [go_sem, g1, eN_cells, eN_fold]
    refine callW_det q (by first | rfl | simp only [go_sem]) (by first | rfl | simp only [go_sem]) (.inr rfl) ?_
    cases hm : (matchR p l[i]).isSome with
    | true =>
      have hr : holdsL p l = true := List.any_eq_true.2 ⟨l[i], List.getElem_mem hlt, hm⟩
      simp only [go_sem, hr]
    | false =>
      simp only [go_sem]
      refine ⟨i + 1, ⟨by omega, fun j h hj => ?_⟩, by simp only; omega, by simp only [go_sem, w], by simp only [go_sem, eN_cells], rfl, rfl⟩
      rcases Nat.lt_succ_iff_lt_or_eq.1 hj with q | rfl
      · exact hn j h q
      · exact hm
  · have hge : l.length ≤ i := by simpa using hf
    have hr : holdsL p l = false := by
      rw [holdsL, List.any_eq_false]
      intro x hx
      obtain ⟨j, hj, rfl⟩ := List.getElem_of_mem hx
      simpa using hn j hj (by omega)
    simp only [go_sem, hr]

theorem sameN_refl (d : Nd) : sameN d d = true := (sameN_iff _ _).2 rfl
theorem sameB_refl (d : Bd) : sameB d d = true := by simp [sameB, allS_refl sameN_refl]
theorem sameM_refl (d : Mt) : sameM d d = true := by simp [sameM, allS_refl sameB_refl, sameN_refl]
theorem outerR_mem (l : List Mt) : ∀ i, i ≤ l.length → ∀ m ∈ outerR (l.take i), m ∈ l := by
  intro i
  induction i with
  | zero => intro _ m h; simp [outerR] at h
  | succ i ih =>
    intro h m hm
    rw [outerR_succ l i (by omega)] at hm
    split at hm
    · exact ih (by omega) m hm
    · rw [List.mem_append] at hm
      rcases hm with hm | hm
      · exact ih (by omega) m hm
      · rw [List.mem_singleton] at hm; subst hm; exact List.getElem_mem _
theorem outerR_mem' (l : List Mt) : ∀ m ∈ outerR l, m ∈ l := by
  have := outerR_mem l l.length (Nat.le_refl _)
  rwa [List.take_length] at this
theorem outerR_len' (l : List Mt) : (outerR l).length ≤ l.length := by
  have := outerR_len l l.length (Nat.le_refl _)
  rwa [List.take_length] at this

theorem match_len {p n : Nd} {c : List Bd} (hm : matchR p n = some c) (h1 : (nodesR p).length ≤ 30) (hb : bareR p = true) : c.length ≤ 30 := by
  obtain ⟨n1, n2⟩ := match_names hm hb
  have := foldN_len (nodesR p) []
  have e : c.length = (metasR p).length := by rw [← n1, List.length_map]
  simp only [metasR, List.length_nil] at this e
  omega
theorem allL_ok {p t : Nd} (hp : okN p) (ht : okN t) (h1 : (nodesR p).length ≤ 30) (h2 : (nodesR t).length ≤ 150) (hb : bareR p = true) : ∀ m ∈ allL p (nodesR t), okM m := fun m hm => by
  unfold allL at hm
  rw [List.mem_filterMap] at hm
  obtain ⟨x, hx, he⟩ := hm
  rw [Option.map_eq_some_iff] at he
  obtain ⟨b, hb', rfl⟩ := he
  have ox := nodesR_ok t ht x hx
  have sx := Nat.le_trans (nodes_sub t x hx) h2
  exact ⟨ox, Nat.le_trans (match_len hb' h1 hb) (by decide), fun y hy => (match_ok hb' hp ox sx y hy).1⟩
theorem holds_len (p : Nd) : ∀ l : List Nd, (holdsL p l == decide (((allL p l).length : Int) > 0)) = true
  | [] => rfl
  | x :: r => by
    have ih := holds_len p r
    cases hm : matchR p x with
    | none =>
      have e : allL p (x :: r) = allL p r := by simp [allL, List.filterMap_cons, hm]
      have e2 : holdsL p (x :: r) = holdsL p r := by simp [holdsL, hm]
      rw [e, e2]
      exact ih
    | some b => simp [holdsL, allL, hm]

theorem f4 (p t : Nd) (hp : okN p) (ht : okN t) : PureC Try.prog 4 [eN p, eN t] (.bool true) := by
  refine pure_of_wp m4 rfl (by simp [eN_argOk]) ?_
  obtain ⟨b, hb, q10⟩ := f10 p t hp ht
  unfold FnW v4
  simp only [go_sem]
  refine callW_pure alive rfl rfl ?_
  simp only [go_sem, eN_cells, eN_fold]
  refine callW_pure q10 (by first | rfl | simp only [go_sem]) (by first | rfl | simp only [go_sem]) ?_
  cases b with
  | false => simp only [go_sem]
  | true =>
  obtain ⟨s1, s2, s3, _⟩ := hb rfl
  have q14 := f14 p t hp ht s1 s2
  have q16 := f16 p t hp ht s1 s2 s3
  have q17 := f17 p t hp ht s1 s2
  have ok := allL_ok hp ht s1 s2 s3
  have hh := holds_len p (nodesR t)
  have hl := allL_len p (nodesR t)
  generalize holdsL p (nodesR t) = hd at *
  generalize allL p (nodesR t) = l at *
  have ll : l.length ≤ 150 := by omega
  have lm : l.length ≤ maxLen := Nat.le_trans ll (by decide)
  have lo := outerR_len' l
  have l88 : l.length * 88 ≤ 35184372088832 := Nat.le_trans (Nat.mul_le_mul_right 88 ll) (by decide)
  simp only [go_sem, eN_cells, eN_fold]
  refine callW_pure q14 (by first | rfl | simp only [go_sem]) (by first | rfl | simp only [go_sem]) ?_
  simp only [go_sem, eN_cells, eN_fold]
  refine callW_pure q16 (by first | rfl | simp only [go_sem]) (by first | rfl | simp only [go_sem]) ?_
  simp only [go_sem, eN_cells, eN_fold]
  refine callW_pure (f15 l l lm ok ok) (by first | rfl | simp only [go_sem]) (by first | rfl | simp only [go_sem]) ?_
  simp only [go_sem, eN_cells, eN_fold, allS_refl sameM_refl]
  refine callW_pure q17 (by first | rfl | simp only [go_sem]) (by first | rfl | simp only [go_sem]) ?_
  simp only [go_sem, hh, allS_refl sameM_refl]
  refine callW_pure (f18 l l88) (by first | rfl | simp only [go_sem]) (by first | rfl | simp only [go_sem]) ?_
  simp only [go_sem, hh, allS_refl sameM_refl]
  refine callW_pure (f19 l l88) (by first | rfl | simp only [go_sem]) (by first | rfl | simp only [go_sem]) ?_
  simp only [go_sem, hh, allS_refl sameM_refl]
  refine callW_pure (f15 (outerR l) (outerR l) (Nat.le_trans lo lm) (fun d hd => ok d (outerR_mem' l d hd)) (fun d hd => ok d (outerR_mem' l d hd))) (by first | rfl | simp only [go_sem]) (by first | rfl | simp only [go_sem]) ?_
  simp only [go_sem, hh, allS_refl sameM_refl]
end Go.Proofs
