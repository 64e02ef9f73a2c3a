/- Plain laws: the code and the document match alike. -/
import Derived.Test.YtlngaccdjnmgeaaGreatDoorGF5
set_option linter.unusedVariables false
set_option linter.unusedSimpArgs false
namespace Go.Proofs
open Go.V Go.RowKit

def reachB (fr : List Bool) (ok : Nat → Bool) : Nat → Bool
  | 0 => fr.getD 0 false
  | j + 1 => fr.getD (j + 1) false || (reachB fr ok j && ok j)
theorem reachB_iff {fr : List Bool} {ok : Nat → Bool} : ∀ j, reachB fr ok j = true ↔ ∃ i, i ≤ j ∧ fr.getD i false = true ∧ ∀ k, i ≤ k → k < j → ok k = true
  | 0 => by
    rw [reachB]
    constructor
    · intro h; exact ⟨0, Nat.le_refl _, h, fun k _ hk => absurd hk (by omega)⟩
    · rintro ⟨i, hi, h, _⟩
      have : i = 0 := by omega
      subst this; exact h
  | j + 1 => by
    rw [reachB, Bool.or_eq_true, Bool.and_eq_true, reachB_iff j]
    constructor
    · rintro (h | ⟨⟨i, h1, h2, h3⟩, h4⟩)
      · exact ⟨j + 1, Nat.le_refl _, h, fun k hk hk2 => absurd hk2 (by omega)⟩
      · refine ⟨i, by omega, h2, fun k hk hk2 => ?_⟩
        by_cases e : k = j
        · subst e; exact h4
        · exact h3 k hk (by omega)
    · rintro ⟨i, h1, h2, h3⟩
      by_cases e : i = j + 1
      · subst e; exact .inl h2
      · exact .inr ⟨⟨i, by omega, h2, fun k hk hk2 => h3 k hk (by omega)⟩, h3 j (by omega) (by omega)⟩
theorem getD_set {l : List Bool} {i j : Nat} {v : Bool} (hi : i < l.length) : (l.set i v).getD j false = if i = j then v else l.getD j false := by
  simp only [List.getD_eq_getElem?_getD, List.getElem?_set]
  by_cases h : i = j
  · subst h; simp [hi]
  · simp [h]
theorem getD_repl {n j : Nat} : (List.replicate n false).getD j false = false := by
  simp only [List.getD_eq_getElem?_getD, List.getElem?_replicate]
  split <;> rfl

theorem nrow_star {x : El} {p : List UInt8} {fr : List Bool} (hs : starK x = true) : ∀ i, i ≤ p.length + 1 → ∀ j, (nrow x p fr i).getD j false = (decide (j < i) && reachB fr (fun k => x.kind == 1 || ((p.getD k 0).toNat : Int) != 47) j)
  | 0, _, j => by rw [nrow, getD_repl]; simp
  | i + 1, hi, j => by
    have hl := nrow_len x p fr i
    have ih := nrow_star (p := p) (fr := fr) hs i (by omega)
    rw [nrow, nstep, if_pos hs, getD_set (l := nrow x p fr i) (by omega)]
    by_cases e : i = j
    · subst e
      rw [if_pos rfl]
      have : decide (i < i + 1) = true := by simp
      rw [this, Bool.true_and, starAt]
      cases i with
      | zero => simp [reachB]
      | succ m =>
        rw [reachB]
        have h1 : (m + 1 - 1) = m := rfl
        rw [h1, ih m]
        simp
    · rw [if_neg e, ih j]
      congr 1
      simp
      omega
theorem fillR_iff {x : El} {p : List UInt8} : ∀ (n k : Nat) (nx : List Bool) (j : Nat), k + n = p.length → nx.length = p.length + 1 →
    ((fillR x p n k nx).getD j false = true ↔ nx.getD j false = true ∨ (k < j ∧ j ≤ p.length ∧ ∀ m, k ≤ m → m < j → (x.kind == 4 || ((p.getD m 0).toNat : Int) != 47) = true))
  | 0, k, nx, j, hk, hl => by
    rw [fillR]
    constructor
    · exact .inl
    · rintro (h | ⟨h1, h2, _⟩)
      · exact h
      · omega
  | n + 1, k, nx, j, hk, hl => by
    have hkl : decide ((k : Int) < (p.length : Int)) = true := by simp; omega
    rw [fillR]
    cases hok : (x.kind == 4 || ((p.getD k 0).toNat : Int) != 47) with
    | true =>
      have hg : goesK x p k = true := by rw [goesK, hkl, hok]; rfl
      rw [if_pos hg, fillR_iff n (k + 1) (nx.set (k + 1) true) j (by omega) (by simp [hl]), getD_set (by omega)]
      constructor
      · rintro (h | ⟨h1, h2, h3⟩)
        · by_cases e : k + 1 = j
          · refine .inr ⟨by omega, by omega, fun m hm hm2 => ?_⟩
            have : m = k := by omega
            subst this; exact hok
          · rw [if_neg e] at h; exact .inl h
        · refine .inr ⟨by omega, h2, fun m hm hm2 => ?_⟩
          by_cases e : m = k
          · subst e; exact hok
          · exact h3 m (by omega) hm2
      · rintro (h | ⟨h1, h2, h3⟩)
        · refine .inl ?_
          by_cases e : k + 1 = j
          · rw [if_pos e]
          · rw [if_neg e]; exact h
        · by_cases e : k + 1 = j
          · exact .inl (by rw [if_pos e])
          · exact .inr ⟨by omega, h2, fun m hm hm2 => h3 m (by omega) hm2⟩
    | false =>
      have hg : goesK x p k = false := by rw [goesK, hok, Bool.and_false]
      rw [if_neg (by rw [hg]; simp)]
      constructor
      · exact .inl
      · rintro (h | ⟨h1, h2, h3⟩)
        · exact h
        · have := h3 k (Nat.le_refl _) h1
          rw [hok] at this; cases this
theorem rrow_star {x : El} {p : List UInt8} {fr : List Bool} (hs : starR x = true) : ∀ i, i ≤ p.length + 1 → ∀ j, ((rrow x p fr i).getD j false = true ↔
    j ≤ p.length ∧ ∃ i', i' < i ∧ i' ≤ j ∧ fr.getD i' false = true ∧ ∀ m, i' ≤ m → m < j → (x.kind == 4 || ((p.getD m 0).toNat : Int) != 47) = true)
  | 0, _, j => by
    rw [rrow, getD_repl]
    constructor
    · intro h; cases h
    · rintro ⟨_, i', h, _⟩; omega
  | i + 1, hi, j => by
    have hl := rrow_len x p fr i
    have ih := rrow_star (p := p) (fr := fr) hs i (by omega) j
    rw [rrow, rstep]
    cases hb : fr.getD i false with
    | false =>
      rw [if_pos rfl, ih]
      constructor
      · rintro ⟨h0, i', h1, h2⟩; exact ⟨h0, i', by omega, h2⟩
      · rintro ⟨h0, i', h1, h2, h3, h4⟩
        have : i' ≠ i := by rintro rfl; rw [hb] at h3; cases h3
        exact ⟨h0, i', by omega, h2, h3, h4⟩
    | true =>
      rw [if_neg (by simp), if_pos hs, fillR_iff _ _ _ _ (by omega) (by simp [hl]), getD_set (l := rrow x p fr i) (by omega)]
      constructor
      · rintro (h | ⟨h1, h2, h3⟩)
        · by_cases e : i = j
          · subst e
            exact ⟨by omega, i, by omega, Nat.le_refl _, hb, fun m h1 h2 => absurd h2 (by omega)⟩
          · rw [if_neg e, ih] at h
            obtain ⟨h0, i', h1, h2⟩ := h
            exact ⟨h0, i', by omega, h2⟩
        · exact ⟨h2, i, by omega, by omega, hb, h3⟩
      · rintro ⟨h0, i', h1, h2, h3, h4⟩
        by_cases e : i' = i
        · subst e
          by_cases e2 : i' = j
          · exact .inl (by rw [if_pos e2])
          · exact .inr ⟨by omega, h0, h4⟩
        · refine .inl ?_
          by_cases e2 : i = j
          · rw [if_pos e2]
          · rw [if_neg e2, ih]
            exact ⟨h0, i', by omega, h2, h3, h4⟩
theorem list_ext {a b : List Bool} (hl : a.length = b.length) (h : ∀ j, j < a.length → a.getD j false = b.getD j false) : a = b := by
  apply List.ext_getElem hl
  intro j h1 h2
  have := h j h1
  simpa [List.getD_eq_getElem?_getD, h1, h2] using this
theorem one_stands {x : El} (hk : kOk x) (hs : starK x = false) (c : UInt8) : oneS (conv x) c = standsS x c := by
  rcases hk with h | h | h | h | h
  · have e : conv x = ⟨1, x.c, false, []⟩ := by rw [conv, if_pos h]
    rw [e, standsS, if_pos h]; rfl
  · simp [starK, h] at hs
  · simp [starK, h] at hs
  · have e : conv x = ⟨2, 0, false, []⟩ := by rw [conv, if_neg (by omega), if_neg (by omega), if_neg (by omega), if_pos h]
    rw [e, standsS, if_neg (by omega), if_pos h, oneS, if_neg (by simp)]
    cases h47 : ((c.toNat : Int) == 47) with
    | true => simp only [bne, h47]; rfl
    | false => simp only [bne, h47]; rfl
  · have e : conv x = ⟨5, 0, x.neg, x.set⟩ := by rw [conv, if_neg (by omega), if_neg (by omega), if_neg (by omega), if_neg (by omega)]
    rw [e, standsS, if_neg (by omega), if_neg (by omega), oneS, if_neg (by simp)]
    cases h47 : ((c.toNat : Int) == 47) with
    | true => simp only [bne, h47]; rfl
    | false =>
      simp only [bne, h47, Bool.false_eq_true, if_false]
      rw [if_neg (by simp)]
      cases x.set.any (inR c) <;> cases x.neg <;> rfl
theorem row_same {x : El} {p : List UInt8} {fr : List Bool} (hk : kOk x) : rrow (conv x) p fr (p.length + 1) = nrow x p fr (p.length + 1) := by
  cases hs : starK x with
  | false =>
    have hs2 : starR (conv x) = false := by
      rcases hk with h | h | h | h | h
      · have e : conv x = ⟨1, x.c, false, []⟩ := by rw [conv, if_pos h]
        rw [e]; rfl
      · simp [starK, h] at hs
      · simp [starK, h] at hs
      · have e : conv x = ⟨2, 0, false, []⟩ := by rw [conv, if_neg (by omega), if_neg (by omega), if_neg (by omega), if_pos h]
        rw [e]; rfl
      · have e : conv x = ⟨5, 0, x.neg, x.set⟩ := by rw [conv, if_neg (by omega), if_neg (by omega), if_neg (by omega), if_neg (by omega)]
        rw [e]; rfl
    have : ∀ i, rrow (conv x) p fr i = nrow x p fr i := by
      intro i
      induction i with
      | zero => rfl
      | succ i ih =>
        rw [rrow, nrow, ih, rstep, nstep, hs, hs2, one_stands hk hs]
        cases hb : fr.getD i false with
        | false => simp
        | true =>
          have : decide ((i : Int) < (p.length : Int)) = decide (i < p.length) := by simp
          rw [this]
          simp
    exact this _
  | true =>
    have hs2 : starR (conv x) = true ∧ ((conv x).kind == 4) = (x.kind == 1) := by
      rcases hk with h | h | h | h | h
      · simp [starK, h] at hs
      · have e : conv x = ⟨4, 0, false, []⟩ := by rw [conv, if_neg (by omega), if_pos h]
        rw [e, h]; exact ⟨rfl, rfl⟩
      · have e : conv x = ⟨3, 0, false, []⟩ := by rw [conv, if_neg (by omega), if_neg (by omega), if_pos h]
        rw [e, h]; exact ⟨rfl, rfl⟩
      · simp [starK, h] at hs
      · simp [starK, h] at hs
    apply list_ext
    · rw [rrow_len, nrow_len]
    · intro j hj
      rw [rrow_len] at hj
      have h1 := rrow_star (p := p) (fr := fr) hs2.1 (p.length + 1) (Nat.le_refl _) j
      rw [hs2.2] at h1
      rw [Bool.eq_iff_iff, h1, nrow_star hs (p.length + 1) (Nat.le_refl _) j]
      have : decide (j < p.length + 1) = true := by simpa using hj
      rw [this, Bool.true_and, reachB_iff]
      constructor
      · rintro ⟨_, i, h1, h2, h3, h4⟩; exact ⟨i, h2, h3, h4⟩
      · rintro ⟨i, h2, h3, h4⟩; exact ⟨by omega, i, by omega, h2, h3, h4⟩
theorem mrow_same {p : List UInt8} : ∀ (l : List El) (fr : List Bool), (∀ x ∈ l, kOk x) → mrowR p (l.map conv) fr = mrow p l fr
  | [], _, _ => rfl
  | x :: r, fr, h => by
    rw [List.map_cons, mrowR, mrow, row_same (h x (by simp)), mrow_same r _ fun y hy => h y (by simp [hy])]
theorem match_same (g p : List UInt8) : matchR g p = globMatchS g p := by
  unfold matchR globMatchS
  rw [right_same]
  by_cases h : globRightS g = 0
  · rw [if_pos h, if_pos h]
    cases hq : globP g with
    | none =>
      exfalso
      unfold globRightS at h
      rw [hq] at h
      split at h <;> simp at h
    | some l =>
      obtain ⟨h1, h2⟩ := parse_print _ g [] l (by simp) hq
      rw [elemsP_eq h1, hq]
      simp only [Option.map_some]
      rw [mrow_same l _ h2]
  · rw [if_neg h, if_neg h]
end Go.Proofs
