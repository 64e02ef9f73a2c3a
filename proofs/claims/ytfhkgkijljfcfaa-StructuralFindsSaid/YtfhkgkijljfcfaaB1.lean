/- V, proofs: the answers of SameAll. -/
import Derived.Test.YtfhkgkijljfcfaaF1
import Derived.Test.YtfhkgkijljfcfaaA4
set_option linter.unusedVariables false
set_option linter.unusedSimpArgs false
namespace Go.Proofs
open Go.V Go.RowKit

theorem wrap_nat {n : Nat} (h : n < 2 ^ 63) : IntKind.i64.wrap n = n := by
  have h1 : (n : Int) % (2 ^ 64 : Int) = n := Int.emod_eq_of_lt (by omega) (by omega)
  unfold IntKind.wrap
  simp only [IntKind.bits, h1]
  rw [if_neg]
  simp only [IntKind.signed, Bool.true_and, decide_eq_true_eq]
  omega
theorem wrap_succ {n : Nat} (h : n + 1 < 2 ^ 63) : IntKind.i64.wrap ((n : Int) + 1) = ((n + 1 : Nat) : Int) := by
  have e : ((n : Int) + 1) = ((n + 1 : Nat) : Int) := by omega
  rw [e, wrap_nat h]

theorem wrap_len {i n : Nat} (h : i < n) (hn : n ≤ maxLen) : IntKind.i64.wrap ((i : Int) + 1) = ((i + 1 : Nat) : Int) :=
  wrap_succ (by have : maxLen = 9223372036854775807 := rfl; omega)
mutual
def sameN : Nd → Nd → Bool
  | .mk k t a e ks, .mk k' t' a' e' ks' => k == k' && t == t' && a == a' && e == e' && sameNs ks ks'
def sameNs : List Nd → List Nd → Bool
  | [], [] => true
  | x :: r, y :: s => sameN x y && sameNs r s
  | _, _ => false
end
mutual
theorem sameN_iff : ∀ x y, sameN x y = true ↔ x = y
  | .mk k t a e ks, .mk k' t' a' e' ks' => by simp [sameN, sameNs_iff ks ks', and_assoc]
theorem sameNs_iff : ∀ x y, sameNs x y = true ↔ x = y
  | [], [] => by simp [sameNs]
  | x :: r, y :: s => by simp [sameNs, sameN_iff x y, sameNs_iff r s]
  | [], y :: s => by simp [sameNs]
  | x :: r, [] => by simp [sameNs]
end

theorem eN_agg (d : Nd) : eN d = .agg [.int .i64 d.kind, .str d.text, .int .i64 d.at', .int .i64 d.en, .sl (d.kids.map eN) 0] := by
  cases d; simp [eN, eNs_map, Nd.kind, Nd.text, Nd.at', Nd.en, Nd.kids]
theorem eN_cells (d : Nd) : (eN d).cells = [.int .i64 d.kind, .str d.text, .int .i64 d.at', .int .i64 d.en, .sl (d.kids.map eN) 0] := by
  rw [eN_agg]; rfl
theorem eN_fold (d : Nd) : .agg [.int .i64 d.kind, .str d.text, .int .i64 d.at', .int .i64 d.en, .sl (d.kids.map eN) 0] = eN d := (eN_agg d).symm
theorem eN_ids (d : Nd) (n : Nat) : (eN d).ids n = true := by rw [eN_agg]; simp [VV.ids, idsL]
theorem eN_strip (d : Nd) : (eN d).strip = eN d := by rw [eN_agg]; simp [VV.strip, VV.strip0]
theorem eN_noTup (d : Nd) : (eN d).noTup = true := by rw [eN_agg]; rfl
theorem eN_argOk (d : Nd) : argOk (eN d) = true := by rw [eN_agg]; simp [argOk, VV.noHnd, VV.noHnd0, VV.ids, idsL]

theorem eN_canon (d : Nd) : (eN d).canon = true := by rw [eN_agg]; rfl
attribute [go_sem] eN_canon eN_ids eN_strip eN_noTup

theorem f30 : ∀ (n : Nat) (x y : Nd), SizeOf.sizeOf x < n → okN x → okN y → PureC Try.prog 30 [eN x, eN y] (.bool (sameN x y)) := by
  intro n
  induction n with
  | zero => intro x y h; omega
  | succ n ih =>
    rintro ⟨k, t, a, e, ks⟩ ⟨k', t', a', e', ks'⟩ hn hx hy
    refine pure_of_wp m30 rfl (by simp [eN_argOk]) ?_
    simp only [eN_agg, Nd.kind, Nd.text, Nd.at', Nd.en, Nd.kids]
    unfold FnW v30
    have kk : ∀ b, sameN (.mk k t a e ks) (.mk k' t' a' e' ks') = b ↔ (k == k' && t == t' && a == a' && e == e' && sameNs ks ks') = b := fun b => by simp [sameN]
    cases h1 : (k != k') with
    | true =>
      have hr : sameN (.mk k t a e ks) (.mk k' t' a' e' ks') = false := by
        have : k ≠ k' := by simpa using h1
        simp [sameN, this]
      simp [go_sem, h1, hr]
    | false =>
    cases h2 : (t == t') with
    | false =>
      have hr : sameN (.mk k t a e ks) (.mk k' t' a' e' ks') = false := by
        simp [sameN, h2]
      simp [go_sem, h1, h2, hr]
    | true =>
    cases h3 : (a != a') with
    | true =>
      have hr : sameN (.mk k t a e ks) (.mk k' t' a' e' ks') = false := by
        have : a ≠ a' := by simpa using h3
        simp [sameN, this]
      simp [go_sem, h1, h2, h3, hr]
    | false =>
    cases h4 : (e != e') with
    | true =>
      have hr : sameN (.mk k t a e ks) (.mk k' t' a' e' ks') = false := by
        have : e ≠ e' := by simpa using h4
        simp [sameN, this]
      simp [go_sem, h1, h2, h3, h4, hr]
    | false =>
    by_cases h5 : ks.length = ks'.length
    rotate_left
    · have hr : sameN (.mk k t a e ks) (.mk k' t' a' e' ks') = false := by
        cases hs : sameN (.mk k t a e ks) (.mk k' t' a' e' ks') with
        | false => rfl
        | true => cases (sameN_iff _ _).1 hs; exact absurd rfl h5
      have h5' : ((ks.length : Int) != (ks'.length : Int)) = true := by simp only [bne_iff_ne, ne_eq]; omega
      simp [go_sem, h1, h2, h3, h4, h5', hr]
    have h5' : ((ks.length : Int) != (ks'.length : Int)) = false := by simp [h5]
    simp only [go_sem, h1, h2, h3, h4, h5']
    obtain ⟨_, _, _, _, lk, ok⟩ := hx
    obtain ⟨_, _, _, _, lk', ok'⟩ := hy
    rw [okNs_iff] at ok ok'
    refine v_for (good := fun i => i ≤ ks.length ∧ ∀ j (h : j < ks.length) (h' : j < ks'.length), j < i → sameN ks[j] ks'[j] = true) (m := fun i => ks.length - i)
      (E := fun i => [(2, .ptr 0 0), (3, .ptr 1 0), (5, .int .i64 i)]) (O := fun _ => [.cells [.int .i64 k, .str t, .int .i64 a, .int .i64 e, .sl (ks.map eN) 0], .cells [.int .i64 k', .str t', .int .i64 a', .int .i64 e', .sl (ks'.map eN) 0]])
      (by intro i _; simp [go_sem, Obj.idsB]) rfl ?_ 0 _ ⟨by omega, by omega⟩ rfl rfl rfl rfl
    rintro i ⟨hi, hs⟩
    simp only [go_sem]
    refine if_s (fun ht => ?_) (fun hf => ?_)
    · have hlt : i < ks.length := by simpa using ht
      have g1 : (ks.map eN)[i]? = some (eN ks[i]) := by simp [hlt]
      have g2 : (ks'.map eN)[i]? = some (eN ks'[i]) := by simp [h5 ▸ hlt]
      simp only [go_sem, g1, g2, eN_cells, eN_fold]
      refine callD_pure (ih ks[i] ks'[i] ?_ (ok _ (List.getElem_mem _)) (ok' _ (List.getElem_mem _))) (by simp [go_sem]) (by simp [go_sem]) ?_
      · have := List.sizeOf_lt_of_mem (List.getElem_mem (l := ks) hlt)
        simp only [Nd.mk.sizeOf_spec] at hn
        omega
      cases hb : sameN ks[i] ks'[i] with
      | false =>
        have hr : sameN (.mk k t a e ks) (.mk k' t' a' e' ks') = false := by
          cases hs : sameN (.mk k t a e ks) (.mk k' t' a' e' ks') with
          | false => rfl
          | true =>
            cases (sameN_iff _ _).1 hs
            rw [(sameN_iff _ _).2 rfl] at hb
            cases hb
        simp [go_sem, hb, hr]
      | true =>
        simp only [go_sem, hb]
        refine ⟨i + 1, ⟨by omega, fun j h h' hj => ?_⟩, by simp only; omega, by simp [go_sem, wrap_len hlt lk], rfl, rfl, rfl⟩
        rcases Nat.lt_succ_iff_lt_or_eq.1 hj with q | rfl
        · exact hs j h h' q
        · exact hb
    · have hge : ks.length ≤ i := by simpa using hf
      have hr : sameN (.mk k t a e ks) (.mk k' t' a' e' ks') = true := by
        have h1' : k = k' := by simpa using h1
        have h2' : t = t' := by simpa using h2
        have h3' : a = a' := by simpa using h3
        have h4' : e = e' := by simpa using h4
        have h5' : ks = ks' := List.ext_getElem h5 fun j h h' => (sameN_iff _ _).1 (hs j h h' (by omega))
        exact (sameN_iff _ _).2 (by rw [h1', h2', h3', h4', h5'])
      simp [go_sem, hr]
end Go.Proofs

/- V, proofs: the answers of SameNodes, SameBinds, SameMatches and inside. -/
set_option linter.unusedVariables false
set_option linter.unusedSimpArgs false
namespace Go.Proofs
open Go.V Go.RowKit

/-- two lists, member by member -/
def allS {α : Type} (f : α → α → Bool) : List α → List α → Bool
  | [], [] => true
  | x :: r, y :: s => f x y && allS f r s
  | _, _ => false
section
variable {α : Type} {f : α → α → Bool}
theorem allS_len : ∀ {l l' : List α}, l.length ≠ l'.length → allS f l l' = false
  | [], [], h => absurd rfl h
  | x :: r, y :: s, h => by simp [allS, allS_len (l := r) (l' := s) (by simpa using h)]
  | [], y :: s, _ => rfl
  | x :: r, [], _ => rfl
theorem allS_at : ∀ {l l' : List α} {i : Nat} (h : i < l.length) (h' : i < l'.length), f l[i] l'[i] = false → allS f l l' = false
  | x :: r, y :: s, 0, _, _, h => by simp at h; simp [allS, h]
  | x :: r, y :: s, i + 1, h, h', q => by
    simp [allS, allS_at (l := r) (l' := s) (i := i) (by simpa using h) (by simpa using h') (by simpa using q)]
theorem allS_all : ∀ {l l' : List α}, l.length = l'.length → (∀ j (h : j < l.length) (h' : j < l'.length), f l[j] l'[j] = true) → allS f l l' = true
  | [], [], _, _ => rfl
  | x :: r, y :: s, h, q => by
    have h0 := q 0 (by simp) (by simp)
    simp only [List.getElem_cons_zero] at h0
    simp only [allS, h0, Bool.true_and]
    exact allS_all (by simpa using h) fun j h h' => by
      have := q (j + 1) (by simp only [List.length_cons]; omega) (by simp only [List.length_cons]; omega)
      simpa only [List.getElem_cons_succ] using this
theorem allS_refl (hf : ∀ x, f x x = true) : ∀ l : List α, allS f l l = true
  | [] => rfl
  | x :: r => by simp [allS, hf, allS_refl hf r]
end
theorem sameNs_allS : ∀ a b, sameNs a b = allS sameN a b
  | [], [] => by simp [sameNs, allS]
  | x :: r, y :: s => by simp [sameNs, allS, sameNs_allS r s]
  | [], y :: s => by simp [sameNs, allS]
  | x :: r, [] => by simp [sameNs, allS]

theorem eL_ids {α : Type} (f : α → VV) (l : List α) (n : Nat) : (VV.sl (l.map f) 0).ids n = true := by simp [VV.ids]

def sameB (a b : Bd) : Bool := a.1 == b.1 && allS sameN a.2 b.2
abbrev Mt := Nd × List Bd
def eM (m : Mt) : VV := .agg [.int .i64 m.1.kind, .str m.1.text, .int .i64 m.1.at', .int .i64 m.1.en, .sl (m.1.kids.map eN) 0, .sl (m.2.map eB) 0]
def sameM (a b : Mt) : Bool := sameN a.1 b.1 && allS sameB a.2 b.2
theorem eM_cells (m : Mt) : (eM m).cells = [.int .i64 m.1.kind, .str m.1.text, .int .i64 m.1.at', .int .i64 m.1.en, .sl (m.1.kids.map eN) 0, .sl (m.2.map eB) 0] := rfl
theorem eM_fold (m : Mt) : .agg [.int .i64 m.1.kind, .str m.1.text, .int .i64 m.1.at', .int .i64 m.1.en, .sl (m.1.kids.map eN) 0, .sl (m.2.map eB) 0] = eM m := rfl
theorem eM_ids (m : Mt) (n : Nat) : (eM m).ids n = true := by simp [eM, VV.ids, idsL]
theorem eM_strip (m : Mt) : (eM m).strip = eM m := by simp [eM, VV.strip, VV.strip0]
theorem eM_noTup (m : Mt) : (eM m).noTup = true := rfl
theorem eB_cells (m : Bd) : (eB m).cells = [.str m.1, .sl (m.2.map eN) 0] := rfl
theorem eB_fold (m : Bd) : .agg [.str m.1, .sl (m.2.map eN) 0] = eB m := rfl
theorem eB_ids (m : Bd) (n : Nat) : (eB m).ids n = true := by simp [eB, VV.ids, idsL]
theorem eB_strip (m : Bd) : (eB m).strip = eB m := by simp [eB, VV.strip, VV.strip0]
theorem eB_noTup (m : Bd) : (eB m).noTup = true := rfl
theorem argOk_sl {l : List VV} : argOk (.sl l 0) = true := by simp [argOk, VV.noHnd, VV.noHnd0, VV.ids]
theorem argOk_str {l : List UInt8} : argOk (.str l) = true := by simp [argOk, VV.noHnd, VV.noHnd0, VV.ids]
theorem argOk_int {k : IntKind} {n : Int} : argOk (.int k n) = true := by simp [argOk, VV.noHnd, VV.noHnd0, VV.ids]
theorem eM_canon (m : Mt) : (eM m).canon = true := rfl
theorem eB_canon (m : Bd) : (eB m).canon = true := rfl
attribute [go_sem] eM_canon eB_canon eM_ids eM_strip eM_noTup eB_ids eB_strip eB_noTup

theorem f22 (a b : List Nd) (la : a.length ≤ maxLen) (oa : ∀ d ∈ a, okN d) (ob : ∀ d ∈ b, okN d) : PureC Try.prog 22 [.sl (a.map eN) 0, .sl (b.map eN) 0] (.bool (allS sameN a b)) := by
  refine pure_of_wp m22 rfl (by simp [argOk_sl]) ?_
  unfold FnW v22
  by_cases h5 : a.length = b.length
  rotate_left
  · have h5' : ((a.length : Int) != (b.length : Int)) = true := by simp only [bne_iff_ne, ne_eq]; omega
    simp [go_sem, h5', allS_len h5]
  have h5' : ((a.length : Int) != (b.length : Int)) = false := by simp [h5]
  simp only [go_sem, h5']
  refine v_for (good := fun i => i ≤ a.length ∧ ∀ j (h : j < a.length) (h' : j < b.length), j < i → sameN a[j] b[j] = true) (m := fun i => a.length - i)
    (E := fun i => [(0, .sl (a.map eN) 0), (1, .sl (b.map eN) 0), (5, .int .i64 i)]) (O := fun _ => [])
    (by intro i _; simp [go_sem, Obj.idsB]) rfl ?_ 0 _ ⟨by omega, by omega⟩ rfl rfl rfl rfl
  rintro i ⟨hi, hs⟩
  simp only [go_sem]
  refine if_s (fun ht => ?_) (fun hf => ?_)
  · have hlt : i < a.length := by simpa using ht
    have g1 : (a.map eN)[i]? = some (eN a[i]) := by simp [hlt]
    have g2 : (b.map eN)[i]? = some (eN b[i]) := by simp [h5 ▸ hlt]
    simp only [go_sem, g1, g2, eN_cells, eN_fold]
    refine callD_pure (f30 _ a[i] b[i] (Nat.lt_succ_self _) (oa _ (List.getElem_mem _)) (ob _ (List.getElem_mem _))) (by simp [go_sem]) (by simp [go_sem]) ?_
    cases hb : sameN a[i] b[i] with
    | false => simp [go_sem, hb, allS_at hlt (h5 ▸ hlt) hb]
    | true =>
      simp only [go_sem, hb]
      refine ⟨i + 1, ⟨by omega, fun j h h' hj => ?_⟩, by simp only; omega, by simp [go_sem, wrap_len hlt la], rfl, rfl, rfl⟩
      rcases Nat.lt_succ_iff_lt_or_eq.1 hj with q | rfl
      · exact hs j h h' q
      · exact hb
  · have hge : a.length ≤ i := by simpa using hf
    simp [go_sem, allS_all h5 fun j h h' => hs j h h' (by omega)]

def okB (b : Bd) : Prop := b.2.length ≤ maxLen ∧ ∀ d ∈ b.2, okN d
def okM (m : Mt) : Prop := okN m.1 ∧ m.2.length ≤ maxLen ∧ ∀ b ∈ m.2, okB b

theorem f13 (a b : List Bd) (la : a.length ≤ maxLen) (oa : ∀ d ∈ a, okB d) (ob : ∀ d ∈ b, okB d) : PureC Try.prog 13 [.sl (a.map eB) 0, .sl (b.map eB) 0] (.bool (allS sameB a b)) := by
  refine pure_of_wp m13 rfl (by simp [argOk_sl]) ?_
  unfold FnW v13
  by_cases h5 : a.length = b.length
  rotate_left
  · have h5' : ((a.length : Int) != (b.length : Int)) = true := by simp only [bne_iff_ne, ne_eq]; omega
    simp [go_sem, h5', allS_len h5]
  have h5' : ((a.length : Int) != (b.length : Int)) = false := by simp [h5]
  simp only [go_sem, h5']
  refine v_for (good := fun i => i ≤ a.length ∧ ∀ j (h : j < a.length) (h' : j < b.length), j < i → sameB a[j] b[j] = true) (m := fun i => a.length - i)
    (E := fun i => [(0, .sl (a.map eB) 0), (1, .sl (b.map eB) 0), (5, .int .i64 i)]) (O := fun _ => [])
    (by intro i _; simp [go_sem, Obj.idsB]) rfl ?_ 0 _ ⟨by omega, by omega⟩ rfl rfl rfl rfl
  rintro i ⟨hi, hs⟩
  simp only [go_sem]
  refine if_s (fun ht => ?_) (fun hf => ?_)
  · have hlt : i < a.length := by simpa using ht
    have hlt' : i < b.length := h5 ▸ hlt
    have g1 : (a.map eB)[i]? = some (eB a[i]) := by simp [hlt]
    have g2 : (b.map eB)[i]? = some (eB b[i]) := by simp [hlt']
    have hv : ∀ x, sameB a[i] b[i] = x ↔ (a[i].1 == b[i].1 && allS sameN a[i].2 b[i].2) = x := fun x => by rw [sameB]
    cases h1 : (a[i].1 == b[i].1) with
    | false =>
      have hr := allS_at hlt hlt' ((hv false).2 (by simp [h1]))
      simp [go_sem, g1, g2, eB_cells, h1, hr]
    | true =>
    simp only [go_sem, g1, g2, eB_cells, h1]
    refine callD_pure (f22 a[i].2 b[i].2 (oa _ (List.getElem_mem _)).1 (oa _ (List.getElem_mem _)).2 (ob _ (List.getElem_mem _)).2) (by simp [go_sem]) (by simp [go_sem]) ?_
    cases hb : allS sameN a[i].2 b[i].2 with
    | false =>
      have hr := allS_at hlt hlt' ((hv false).2 (by simp [hb]))
      simp [go_sem, hb, hr]
    | true =>
      simp only [go_sem, hb]
      refine ⟨i + 1, ⟨by omega, fun j h h' hj => ?_⟩, by simp only; omega, by simp [go_sem, wrap_len hlt la], rfl, rfl, rfl⟩
      rcases Nat.lt_succ_iff_lt_or_eq.1 hj with q | rfl
      · exact hs j h h' q
      · exact (hv true).2 (by simp [h1, hb])
  · have hge : a.length ≤ i := by simpa using hf
    simp [go_sem, allS_all h5 fun j h h' => hs j h h' (by omega)]

theorem f15 (a b : List Mt) (la : a.length ≤ maxLen) (oa : ∀ d ∈ a, okM d) (ob : ∀ d ∈ b, okM d) : PureC Try.prog 15 [.sl (a.map eM) 0, .sl (b.map eM) 0] (.bool (allS sameM a b)) := by
  refine pure_of_wp m15 rfl (by simp [argOk_sl]) ?_
  unfold FnW v15
  by_cases h5 : a.length = b.length
  rotate_left
  · have h5' : ((a.length : Int) != (b.length : Int)) = true := by simp only [bne_iff_ne, ne_eq]; omega
    simp [go_sem, h5', allS_len h5]
  have h5' : ((a.length : Int) != (b.length : Int)) = false := by simp [h5]
  simp only [go_sem, h5']
  refine v_for (good := fun i => i ≤ a.length ∧ ∀ j (h : j < a.length) (h' : j < b.length), j < i → sameM a[j] b[j] = true) (m := fun i => a.length - i)
    (E := fun i => [(0, .sl (a.map eM) 0), (1, .sl (b.map eM) 0), (5, .int .i64 i)]) (O := fun _ => [])
    (by intro i _; simp [go_sem, Obj.idsB]) rfl ?_ 0 _ ⟨by omega, by omega⟩ rfl rfl rfl rfl
  rintro i ⟨hi, hs⟩
  simp only [go_sem]
  refine if_s (fun ht => ?_) (fun hf => ?_)
  · have hlt : i < a.length := by simpa using ht
    have hlt' : i < b.length := h5 ▸ hlt
    have g1 : (a.map eM)[i]? = some (eM a[i]) := by simp [hlt]
    have g2 : (b.map eM)[i]? = some (eM b[i]) := by simp [hlt']
    have hv : ∀ x, sameM a[i] b[i] = x ↔ (sameN a[i].1 b[i].1 && allS sameB a[i].2 b[i].2) = x := fun x => by rw [sameM]
    have q1 := oa _ (List.getElem_mem hlt)
    have q2 := ob _ (List.getElem_mem hlt')
    simp only [go_sem, g1, g2, eM_cells, eN_fold]
    refine callD_pure (f30 _ a[i].1 b[i].1 (Nat.lt_succ_self _) q1.1 q2.1) (by simp [go_sem]) (by simp [go_sem]) ?_
    cases h1 : sameN a[i].1 b[i].1 with
    | false =>
      have hr := allS_at hlt hlt' ((hv false).2 (by simp [h1]))
      simp [go_sem, h1, hr]
    | true =>
    simp only [go_sem, g1, g2, eM_cells, h1]
    refine callD_pure (f13 a[i].2 b[i].2 q1.2.1 q1.2.2 q2.2.2) (by simp [go_sem]) (by simp [go_sem]) ?_
    cases hb : allS sameB a[i].2 b[i].2 with
    | false =>
      have hr := allS_at hlt hlt' ((hv false).2 (by simp [hb]))
      simp [go_sem, hb, hr]
    | true =>
      simp only [go_sem, hb]
      refine ⟨i + 1, ⟨by omega, fun j h h' hj => ?_⟩, by simp only; omega, by simp [go_sem, wrap_len hlt la], rfl, rfl, rfl⟩
      rcases Nat.lt_succ_iff_lt_or_eq.1 hj with q | rfl
      · exact hs j h h' q
      · exact (hv true).2 (by simp [h1, hb])
  · have hge : a.length ≤ i := by simpa using hf
    simp [go_sem, allS_all h5 fun j h h' => hs j h h' (by omega)]

def insideM (a b : Mt) : Bool := decide (a.1.at' ≥ b.1.at') && decide (a.1.en ≤ b.1.en)
theorem eM_agg (m : Mt) : eM m = .agg [.int .i64 m.1.kind, .str m.1.text, .int .i64 m.1.at', .int .i64 m.1.en, .sl (m.1.kids.map eN) 0, .sl (m.2.map eB) 0] := rfl
theorem eM_argOk (m : Mt) : argOk (eM m) = true := by rw [eM_agg]; simp [argOk, VV.noHnd, VV.noHnd0, VV.ids, idsL]
theorem f38 (a b : Mt) : PureC Try.prog 38 [eM a, eM b] (.bool (insideM a b)) := by
  refine pure_of_wp m38 rfl (by simp [eM_argOk]) ?_
  unfold FnW v38
  simp only [eM_agg, insideM]
  cases h1 : decide (a.1.at' ≥ b.1.at') with
  | false => simp [go_sem, h1]
  | true => simp [go_sem, h1]
end Go.Proofs
