/- V, proofs: the answers of SameAll. -/
import Derived.Test.YtfhkgkijljfcfaaF1
import Derived.Test.YtfhkgkijljfcfaaE1
set_option linter.unusedVariables false
set_option linter.unusedSimpArgs false
namespace Go.Proofs
open Go.V Go.RowKit

theorem wrap_nat {n : Nat} (h : n < 2 ^ 63) : IntKind.i64.wrap n = n := by
  have h1 : (n : Int) % (2 ^ 64 : Int) = n := Int.emod_eq_of_lt (by omega) (by omega)
  unfold IntKind.wrap
  simp only [IntKind.bits, h1]
  rw [if_neg]
  simp only [IntKind.signed, Bool.true_and, decide_eq_true_eq]
  omega
theorem wrap_succ {n : Nat} (h : n + 1 < 2 ^ 63) : IntKind.i64.wrap ((n : Int) + 1) = ((n + 1 : Nat) : Int) := by
  have e : ((n : Int) + 1) = ((n + 1 : Nat) : Int) := by omega
  rw [e, wrap_nat h]

theorem wrap_len {i n : Nat} (h : i < n) (hn : n ≤ maxLen) : IntKind.i64.wrap ((i : Int) + 1) = ((i + 1 : Nat) : Int) :=
  wrap_succ (by have : maxLen = 9223372036854775807 := rfl; omega)
mutual
def sameN : Nd → Nd → Bool
  | .mk k t a e ks, .mk k' t' a' e' ks' => k == k' && t == t' && a == a' && e == e' && sameNs ks ks'
def sameNs : List Nd → List Nd → Bool
  | [], [] => true
  | x :: r, y :: s => sameN x y && sameNs r s
  | _, _ => false
end
mutual
theorem sameN_iff : ∀ x y, sameN x y = true ↔ x = y
  | .mk k t a e ks, .mk k' t' a' e' ks' => by simp [sameN, sameNs_iff ks ks', and_assoc]
theorem sameNs_iff : ∀ x y, sameNs x y = true ↔ x = y
  | [], [] => by simp [sameNs]
  | x :: r, y :: s => by simp [sameNs, sameN_iff x y, sameNs_iff r s]
  | [], y :: s => by simp [sameNs]
  | x :: r, [] => by simp [sameNs]
end

theorem eN_agg (d : Nd) : eN d = .agg [.int .i64 d.kind, .str d.text, .int .i64 d.at', .int .i64 d.en, .sl (d.kids.map eN) 0] := by
  cases d; simp [eN, eNs_map, Nd.kind, Nd.text, Nd.at', Nd.en, Nd.kids]
theorem eN_cells (d : Nd) : (eN d).cells = [.int .i64 d.kind, .str d.text, .int .i64 d.at', .int .i64 d.en, .sl (d.kids.map eN) 0] := by
  rw [eN_agg]; rfl
theorem eN_fold (d : Nd) : .agg [.int .i64 d.kind, .str d.text, .int .i64 d.at', .int .i64 d.en, .sl (d.kids.map eN) 0] = eN d := (eN_agg d).symm
theorem eN_ids (d : Nd) (n : Nat) : (eN d).ids n = true := by rw [eN_agg]; simp [VV.ids, idsL]
theorem eN_strip (d : Nd) : (eN d).strip = eN d := by rw [eN_agg]; simp [VV.strip, VV.strip0]
theorem eN_noTup (d : Nd) : (eN d).noTup = true := by rw [eN_agg]; rfl
theorem eN_argOk (d : Nd) : argOk (eN d) = true := by rw [eN_agg]; simp [argOk, VV.noHnd, VV.noHnd0, VV.ids, idsL]

theorem eN_canon (d : Nd) : (eN d).canon = true := by rw [eN_agg]; rfl
attribute [go_sem] eN_canon eN_ids eN_strip eN_noTup

theorem f30 : ∀ (n : Nat) (x y : Nd), SizeOf.sizeOf x < n → okN x → okN y → PureC Try.prog 30 [eN x, eN y] (.bool (sameN x y)) := by
  intro n
  induction n with
  | zero => intro x y h; omega
  | succ n ih =>
    rintro ⟨k, t, a, e, ks⟩ ⟨k', t', a', e', ks'⟩ hn hx hy
    refine pure_of_wp m30 rfl (by simp [eN_argOk]) ?_
    simp only [eN_agg, Nd.kind, Nd.text, Nd.at', Nd.en, Nd.kids]
    unfold FnW v30
    have kk : ∀ b, sameN (.mk k t a e ks) (.mk k' t' a' e' ks') = b ↔ (k == k' && t == t' && a == a' && e == e' && sameNs ks ks') = b := fun b => by simp [sameN]
    cases h1 : (k != k') with
    | true =>
      have hr : sameN (.mk k t a e ks) (.mk k' t' a' e' ks') = false := by
        have : k ≠ k' := by simpa using h1
        simp [sameN, this]
      simp [go_sem, h1, hr]
    | false =>
    cases h2 : (t == t') with
    | false =>
      have hr : sameN (.mk k t a e ks) (.mk k' t' a' e' ks') = false := by
        simp [sameN, h2]
      simp [go_sem, h1, h2, hr]
    | true =>
    cases h3 : (a != a') with
    | true =>
      have hr : sameN (.mk k t a e ks) (.mk k' t' a' e' ks') = false := by
        have : a ≠ a' := by simpa using h3
        simp [sameN, this]
      simp [go_sem, h1, h2, h3, hr]
    | false =>
    cases h4 : (e != e') with
    | true =>
      have hr : sameN (.mk k t a e ks) (.mk k' t' a' e' ks') = false := by
        have : e ≠ e' := by simpa using h4
        simp [sameN, this]
      simp [go_sem, h1, h2, h3, h4, hr]
    | false =>
    by_cases h5 : ks.length = ks'.length
    rotate_left
    · have hr : sameN (.mk k t a e ks) (.mk k' t' a' e' ks') = false := by
        cases hs : sameN (.mk k t a e ks) (.mk k' t' a' e' ks') with
        | false => rfl
        | true => cases (sameN_iff _ _).1 hs; exact absurd rfl h5
      have h5' : ((ks.length : Int) != (ks'.length : Int)) = true := by simp only [bne_iff_ne, ne_eq]; omega
      simp [go_sem, h1, h2, h3, h4, h5', hr]
    have h5' : ((ks.length : Int) != (ks'.length : Int)) = false := by simp [h5]
    simp only [go_sem, h1, h2, h3, h4, h5']
    obtain ⟨_, _, _, _, lk, ok⟩ := hx
    obtain ⟨_, _, _, _, lk', ok'⟩ := hy
    rw [okNs_iff] at ok ok'
    refine v_for (good := fun i => i ≤ ks.length ∧ ∀ j (h : j < ks.length) (h' : j < ks'.length), j < i → sameN ks[j] ks'[j] = true) (m := fun i => ks.length - i)
      (E := fun i => [(2, .ptr 0 0), (3, .ptr 1 0), (5, .int .i64 i)]) (O := fun _ => [.cells [.int .i64 k, .str t, .int .i64 a, .int .i64 e, .sl (ks.map eN) 0], .cells [.int .i64 k', .str t', .int .i64 a', .int .i64 e', .sl (ks'.map eN) 0]])
      (by intro i _; simp [go_sem, Obj.idsB]) rfl ?_ 0 _ ⟨by omega, by omega⟩ rfl rfl rfl rfl
    rintro i ⟨hi, hs⟩
    simp only [go_sem]
    refine if_s (fun ht => ?_) (fun hf => ?_)
    · have hlt : i < ks.length := by simpa using ht
      have g1 : (ks.map eN)[i]? = some (eN ks[i]) := by simp [hlt]
      have g2 : (ks'.map eN)[i]? = some (eN ks'[i]) := by simp [h5 ▸ hlt]
      simp only [go_sem, g1, g2, eN_cells, eN_fold]
      refine callD_pure (ih ks[i] ks'[i] ?_ (ok _ (List.getElem_mem _)) (ok' _ (List.getElem_mem _))) (by simp [go_sem]) (by simp [go_sem]) ?_
      · have := List.sizeOf_lt_of_mem (List.getElem_mem (l := ks) hlt)
        simp only [Nd.mk.sizeOf_spec] at hn
        omega
      cases hb : sameN ks[i] ks'[i] with
      | false =>
        have hr : sameN (.mk k t a e ks) (.mk k' t' a' e' ks') = false := by
          cases hs : sameN (.mk k t a e ks) (.mk k' t' a' e' ks') with
          | false => rfl
          | true =>
            cases (sameN_iff _ _).1 hs
            rw [(sameN_iff _ _).2 rfl] at hb
            cases hb
        simp [go_sem, hb, hr]
      | true =>
        simp only [go_sem, hb]
        refine ⟨i + 1, ⟨by omega, fun j h h' hj => ?_⟩, by simp only; omega, by simp [go_sem, wrap_len hlt lk], rfl, rfl, rfl⟩
        rcases Nat.lt_succ_iff_lt_or_eq.1 hj with q | rfl
        · exact hs j h h' q
        · exact hb
    · have hge : ks.length ≤ i := by simpa using hf
      have hr : sameN (.mk k t a e ks) (.mk k' t' a' e' ks') = true := by
        have h1' : k = k' := by simpa using h1
        have h2' : t = t' := by simpa using h2
        have h3' : a = a' := by simpa using h3
        have h4' : e = e' := by simpa using h4
        have h5' : ks = ks' := List.ext_getElem h5 fun j h h' => (sameN_iff _ _).1 (hs j h h' (by omega))
        exact (sameN_iff _ _).2 (by rw [h1', h2', h3', h4', h5'])
      simp [go_sem, hr]
end Go.Proofs
