/- V, proofs: slices.BinarySearchFunc on keys, saved.has. Conditions: the list is in order, each once; its length. -/
import Derived.Test.YtifahgjmdiandaaGreatDoorSA5
set_option linter.unusedVariables false
set_option linter.unusedSimpArgs false
namespace Go.Proofs
open Go.V Go.RowKit

def strictK (l : List Ky) : Prop := l.Pairwise (fun x y => ltK x y = true)
theorem strict_at {l : List Ky} (h : strictK l) {i j : Nat} (hi : i < l.length) (hj : j < l.length) (hij : i < j) : ltK l[i] l[j] = true :=
  List.pairwise_iff_getElem.1 h i j hi hj hij
theorem ltK_irrefl (a : Ky) : ltK a a = false := ltL_irrefl _
theorem ltK_trans {a b c : Ky} (h : ltK a b = true) (k : ltK b c = true) : ltK a c = true := ltL_trans h k
/-- where the keys below a key end -/
def cutAt (l : List Ky) (t : Ky) (i : Nat) : Prop := (∀ q (h : q < l.length), q < i → ltK l[q] t = true) ∧ ∀ q (h : q < l.length), i ≤ q → ltK l[q] t = false
def bsI (l : List Ky) (t : Ky) : Nat := l.countP (fun x => ltK x t)
theorem cut_is {l : List Ky} {t : Ky} {i : Nat} (hi : i ≤ l.length) (h : cutAt l t i) : i = bsI l t := by
  have e : l = l.take i ++ l.drop i := (List.take_append_drop i l).symm
  have h1 : (l.take i).countP (fun x => ltK x t) = i := by
    have : (l.take i).countP (fun x => ltK x t) = (l.take i).length := List.countP_eq_length.2 fun x hx => by
      obtain ⟨q, hq, rfl⟩ := List.mem_take_iff_getElem.1 hx
      exact h.1 q (by omega) (by omega)
    rw [this, List.length_take]; omega
  have h2 : (l.drop i).countP (fun x => ltK x t) = 0 := List.countP_eq_zero.2 fun x hx => by
    obtain ⟨q, hq, rfl⟩ := List.mem_drop_iff_getElem.1 hx
    have := h.2 (i + q) (by omega) (by omega)
    simp [this]
  rw [bsI]
  conv => rhs; rw [e]
  rw [List.countP_append, h1, h2, Nat.add_zero]
theorem cut_mem {l : List Ky} {t : Ky} {i : Nat} (hs : strictK l) (h : cutAt l t i) (hi : i < l.length) : decide (l[i] = t) = decide (t ∈ l) := by
  by_cases e : l[i] = t
  · rw [decide_eq_true e, decide_eq_true (by rw [← e]; exact List.getElem_mem hi)]
  · rw [decide_eq_false e, decide_eq_false]
    intro hm
    obtain ⟨q, hq, rfl⟩ := List.mem_iff_getElem.1 hm
    rcases Nat.lt_trichotomy q i with h1 | h1 | h1
    · have := h.1 q hq h1; rw [ltK_irrefl] at this; cases this
    · subst h1; exact e rfl
    · have := h.2 i hi (Nat.le_refl _); rw [strict_at hs hi hq h1] at this; cases this
theorem cut_none {l : List Ky} {t : Ky} {i : Nat} (h : cutAt l t i) (hi : l.length ≤ i) : decide (t ∈ l) = false := by
  rw [decide_eq_false]
  intro hm
  obtain ⟨q, hq, rfl⟩ := List.mem_iff_getElem.1 hm
  have := h.1 q hq (by omega); rw [ltK_irrefl] at this; cases this
theorem ordK_dec (a b : Ky) : decide (ordK a b < 0) = ltK a b := ltOf_K a b
theorem ordK_zero (a b : Ky) : (ordK a b == 0) = decide (a = b) := by
  have h := ordL_zero (a := fK a) (b := fK b) rfl
  rw [← ordK_eq] at h
  by_cases e : a = b
  · subst e
    rw [h.2 rfl]; simp
  · rw [decide_eq_false e]
    have : ¬ ordK a b = 0 := fun q => e (fK_inj (h.1 q))
    simpa using this
theorem shr1 (n : Nat) : shI .shr .u64 (n : Int) 1 = some (.int .u64 ((n / 2 : Nat) : Int)) := by
  simp only [shI]
  rw [if_neg (by omega)]
  have : min (1 : Int).toNat IntKind.u64.bits = 1 := by decide
  rw [this]
  congr 2
  show (n : Int).fdiv 2 = _
  rw [Int.fdiv_eq_ediv_of_nonneg _ (by omega)]
  omega
theorem wrap_u64 {n : Nat} (h : n < 18446744073709551616) : IntKind.u64.wrap (n : Int) = (n : Int) := by
  simp [IntKind.wrap, IntKind.bits, IntKind.signed]
  omega

theorem c_BinarySearch (l : List Ky) (t : Ky) (hl : l.length ≤ 1000000) (hs : strictK l) :
    PureC PR n_slices_BinarySearchFunc_Key_Key_Key [.sl (l.map eKy) 0, eKy t, .fn n_saved_order []] (.tup [.int .i64 (bsI l t), .bool (decide (t ∈ l))]) := by
  refine pure_of_wp m_slices_BinarySearchFunc_Key_Key_Key rfl (by simp [argOk_sl, eKy_argOk]; decide) ?_
  unfold FnW v_slices_BinarySearchFunc_Key_Key_Key
  simp only [go_sem, eKy]
  refine v_for (α := Nat × Nat) (base := 0) (marks := []) (pu := true) (good := fun y => y.1 ≤ y.2 ∧ y.2 ≤ l.length ∧ (∀ q (h : q < l.length), q < y.1 → ltK l[q] t = true) ∧ ∀ q (h : q < l.length), y.2 ≤ q → ltK l[q] t = false) (m := fun y => y.2 - y.1)
    (E := fun y => [(0, .sl (l.map eKy) 0), (2, .fn n_saved_order []), (4, .ptr 0 0), (8, .int .i64 l.length), (9, .int .i64 y.1), (10, .int .i64 y.2)]) (O := fun _ => [.cells (eKy t).cells])
    (by intro i _; simp [go_sem, Obj.idsB]) rfl ?_ (0, l.length) _ ⟨by omega, by simp, fun q h k => absurd k (by simp), fun q h k => absurd h (by simp at k; omega)⟩ rfl rfl rfl rfl rfl
  rintro ⟨i, j⟩ ⟨hij, hj, h1, h2⟩
  simp only at hij hj h1 h2
  simp only [go_sem]
  refine if_s (fun ht => ?_) (fun hf => ?_)
  · have hlt : i < j := by simp at ht; omega
    have hw1 : IntKind.i64.wrap ((i : Int) + (j : Int)) = ((i + j : Nat) : Int) := by rw [wrap_int (by omega) (by omega)]; omega
    have hw2 : IntKind.u64.wrap ((i + j : Nat) : Int) = ((i + j : Nat) : Int) := wrap_u64 (by omega)
    have hw3 : IntKind.i64.wrap (((i + j) / 2 : Nat) : Int) = (((i + j) / 2 : Nat) : Int) := wrap_int (by omega) (by omega)
    have hh1 : i ≤ (i + j) / 2 := by omega
    have hh2 : (i + j) / 2 < j := by omega
    simp only [go_sem, hw1, hw2, shr1, hw3]
    generalize (i + j) / 2 = h at *
    have hhl : h < l.length := by omega
    have gh := get_map eKy hhl
    have hw4 : IntKind.i64.wrap ((h : Int) + 1) = ((h + 1 : Nat) : Int) := by rw [wrap_int (by omega) (by omega)]; omega
    simp only [go_sem, gh, eKy_fold]
    refine callD_pure (c_order l[h] t) (by simp only [go_sem]) (by simp only [go_sem]) ?_
    simp only [go_sem, ordK_dec]
    refine if_s (fun h3 => ?_) (fun h3 => ?_) <;> simp only [go_sem]
    · refine ⟨(h + 1, j), ⟨by simp only; omega, hj, fun q hq k => ?_, h2⟩, by simp only; omega, by simp only [go_sem, hw4], rfl, rfl, rfl, rfl⟩
      simp only at k
      rcases Nat.lt_or_ge q h with hqh | hqh
      · exact ltK_trans (strict_at hs hq hhl hqh) h3
      · have : q = h := by omega
        subst this; exact h3
    · refine ⟨(i, h), ⟨hh1, by simp only; omega, h1, fun q hq k => ?_⟩, by simp only; omega, by simp only [go_sem], rfl, rfl, rfl, rfl⟩
      simp only at k
      rcases Nat.lt_or_ge h q with hqh | hqh
      · cases c : ltK l[q] t with
        | false => rfl
        | true => rw [ltK_trans (strict_at hs hhl hq hqh) c] at h3; cases h3
      · have : q = h := by omega
        subst this; exact h3
  · have hij' : i = j := by simp at hf; omega
    subst hij'
    have hcut : cutAt l t i := ⟨h1, h2⟩
    have hI := cut_is hj hcut
    rw [← hI]
    simp only [go_sem]
    by_cases hin : i < l.length
    · have hd : decide ((i : Int) < (l.length : Int)) = true := by simp; omega
      have gi := get_map eKy hin
      simp only [go_sem, hd, gi, eKy_fold]
      refine callD_pure (c_order l[i] t) (by simp only [go_sem]) (by simp only [go_sem]) ?_
      simp only [go_sem, ordK_zero, cut_mem hs hcut hin]
    · have hd : decide ((i : Int) < (l.length : Int)) = false := by simp; omega
      simp only [go_sem, hd, cut_none hcut (by omega)]

theorem bs_le (l : List Ky) (t : Ky) : bsI l t ≤ l.length := List.countP_le_length
/-- every list in order is cut -/
theorem bs_cut {l : List Ky} (hs : strictK l) (t : Ky) : cutAt l t (bsI l t) := by
  have key : ∀ l : List Ky, strictK l → ∃ i, i ≤ l.length ∧ cutAt l t i := by
    intro l
    induction l with
    | nil => intro _; exact ⟨0, Nat.le_refl _, fun q h => absurd h (by simp), fun q h => absurd h (by simp)⟩
    | cons a r ih =>
      intro hs
      have hs' := List.pairwise_cons.1 hs
      cases c : ltK a t with
      | true =>
        obtain ⟨i, hi, h1, h2⟩ := ih hs'.2
        refine ⟨i + 1, by simp; omega, fun q hq k => ?_, fun q hq k => ?_⟩
        · match q, hq, k with
          | 0, _, _ => exact c
          | q + 1, hq, k => exact h1 q (by simpa using hq) (by omega)
        · match q, hq, k with
          | 0, _, k => omega
          | q + 1, hq, k => exact h2 q (by simpa using hq) (by omega)
      | false =>
        refine ⟨0, by simp, fun q hq k => absurd k (by omega), fun q hq k => ?_⟩
        match q, hq with
        | 0, _ => exact c
        | q + 1, hq =>
          have hlt := hs'.1 (r[q]'(by simpa using hq)) (List.getElem_mem _)
          simp only [List.getElem_cons_succ]
          cases d : ltK (r[q]'(by simpa using hq)) t with
          | false => rfl
          | true => rw [ltK_trans hlt d] at c; cases c
  obtain ⟨i, hi, hc⟩ := key l hs
  rw [← cut_is hi hc]; exact hc
theorem c_has (l : List Ky) (t : Ky) (hl : l.length ≤ 1000000) (hs : strictK l) : PureC PR n_saved_has [.sl (l.map eKy) 0, eKy t] (.bool (decide (t ∈ l))) := by
  refine pure_of_wp m_saved_has rfl (by simp [argOk_sl, eKy_argOk]) ?_
  unfold FnW v_saved_has
  simp only [go_sem, eKy]
  simp only [eKy_fold]
  refine callW_pure (c_BinarySearch l t hl hs) (by simp only [go_sem]) (by simp only [go_sem]) ?_
  have hcut := bs_cut hs t
  have hle := bs_le l t
  simp only [go_sem]
  generalize bsI l t = i at *
  by_cases hin : i < l.length
  · have hd : decide ((i : Int) < (l.length : Int)) = true := by simp; omega
    have gi := get_map eKy hin
    simp only [go_sem, hd, gi, fitsL, eq_ky, cut_mem hs hcut hin]
  · have hd : decide ((i : Int) < (l.length : Int)) = false := by simp; omega
    simp only [go_sem, hd, cut_none hcut (by omega)]
end Go.Proofs
