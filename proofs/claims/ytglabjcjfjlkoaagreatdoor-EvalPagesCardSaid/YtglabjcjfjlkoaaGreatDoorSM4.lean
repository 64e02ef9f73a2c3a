/- Plain laws: the merge in place and the whole sort give a sorted list that keeps equals in order. No program. -/
import Derived.Test.YtglabjcjfjlkoaaGreatDoorSM3
set_option linter.unusedVariables false
set_option linter.unusedSimpArgs false
namespace Go.Proofs

theorem flat_ge {α : Type} {lt : α → α → Bool} {k : Nat} (hk : 0 < k) : ∀ (M : List (List α)), (∀ b ∈ M, b.length = k ∧ srt lt b) → M.length ≤ M.flatten.length
  | [], _ => by simp
  | x :: M, h => by
    have := flat_ge hk M fun b hb => h b (by simp [hb])
    have h1 := (h x (by simp)).1
    rw [List.flatten_cons, List.length_append, List.length_cons]
    omega
section
variable {α : Type} [Inhabited α] {lt : α → α → Bool}
theorem bang_u {P u R : List α} {i : Nat} (h1 : P.length ≤ i) (h2 : i < P.length + u.length) : (P ++ (u ++ R))[i]! = u[i - P.length]'(by omega) := by
  have h : i < (P ++ (u ++ R)).length := by simp; omega
  rw [getElem!_pos (P ++ (u ++ R)) i h, List.getElem_append_right h1, List.getElem_append_left (by omega)]
theorem bang_v {P u v S : List α} {i : Nat} (h1 : P.length + u.length ≤ i) (h2 : i < P.length + u.length + v.length) : (P ++ (u ++ (v ++ S)))[i]! = v[i - (P.length + u.length)]'(by omega) := by
  have e : P ++ (u ++ (v ++ S)) = (P ++ u) ++ (v ++ S) := by simp
  rw [e]
  have := bang_u (P := P ++ u) (u := v) (R := S) (i := i) (by simpa using h1) (by simpa using h2)
  rw [this]
  congr 1
  simp
theorem symE_ok (u v P S : List α) (hu : 0 < u.length) (hv : 0 < v.length) : ∃ k t, k ≤ u.length ∧ t ≤ v.length ∧ symE lt P.length (P.length + u.length) (P.length + u.length + v.length) (P ++ (u ++ (v ++ S))) = P.length + k ∧
    (P.length + (P.length + u.length + v.length)) / 2 = P.length + k + t ∧ (∀ (p : 0 < k) (q : t < v.length) (h : k - 1 < u.length), lt v[t] u[k - 1] = false) ∧ (∀ (p : k < u.length) (q : 0 < t) (h : t - 1 < v.length), lt v[t - 1] u[k] = true) := by
  rw [symE]
  obtain ⟨mid, hmid⟩ : ∃ mid, mid = (P.length + (P.length + u.length + v.length)) / 2 := ⟨_, rfl⟩
  rw [← hmid]
  obtain ⟨i0, hi0⟩ : ∃ i0, i0 = (if mid < P.length + u.length then mid + (P.length + u.length) - (P.length + u.length + v.length) else P.length) := ⟨_, rfl⟩
  obtain ⟨j0, hj0⟩ : ∃ j0, j0 = (if mid < P.length + u.length then mid else P.length + u.length) := ⟨_, rfl⟩
  rw [← hi0, ← hj0]
  have hij : (i0 = mid + (P.length + u.length) - (P.length + u.length + v.length) ∧ j0 = mid ∧ mid < P.length + u.length) ∨ (i0 = P.length ∧ j0 = P.length + u.length ∧ P.length + u.length ≤ mid) := by
    by_cases h : mid < P.length + u.length
    · rw [if_pos h] at hi0 hj0; exact .inl ⟨hi0, hj0, h⟩
    · rw [if_neg h] at hi0 hj0; exact .inr ⟨hi0, hj0, by omega⟩
  obtain ⟨h1, h2, h3, h4⟩ := bsr_ok (fun c => !lt (P ++ (u ++ (v ++ S)))[mid + (P.length + u.length) - 1 - c]! (P ++ (u ++ (v ++ S)))[c]!) (P.length + u.length + v.length - P.length) i0 j0 (by omega) (by omega)
  revert h1 h2 h3 h4
  generalize bsr _ _ i0 j0 = s
  intro h1 h2 h3 h4
  refine ⟨s - P.length, mid - s, by omega, by omega, by omega, by omega, fun p q h => ?_, fun p q h => ?_⟩
  · have := h3 (by omega)
    have e1 : mid + (P.length + u.length) - 1 - (s - 1) = P.length + u.length + (mid - s) := by omega
    simp only [e1, Bool.not_eq_true'] at this
    rw [bang_v (by omega) (by omega), bang_u (by omega) (by omega)] at this
    have e2 : P.length + u.length + (mid - s) - (P.length + u.length) = mid - s := by omega
    have e3 : s - 1 - P.length = s - P.length - 1 := by omega
    simp only [e2, e3] at this
    exact this
  · have := h4 (by omega)
    have e1 : mid + (P.length + u.length) - 1 - s = P.length + u.length + (mid - s - 1) := by omega
    simp only [e1, Bool.not_eq_false'] at this
    rw [bang_v (by omega) (by omega), bang_u (by omega) (by omega)] at this
    have e2 : P.length + u.length + (mid - s - 1) - (P.length + u.length) = mid - s - 1 := by omega
    simp only [e2] at this
    exact this
theorem sym_left (W : Wk lt) (x : α) (v P S : List α) (sv : srt lt v) : ∃ w, shU (bsr (fun h => lt (P ++ x :: (v ++ S))[h]! (P ++ x :: (v ++ S))[P.length]!) v.length (P.length + 1) (P.length + 1 + v.length) - 1 - P.length) P.length (P ++ x :: (v ++ S)) = P ++ (w ++ S) ∧ srt lt w ∧ stb lt ([x] ++ v) w := by
  obtain ⟨h1, h2, h3, h4⟩ := bsr_ok (fun h => lt (P ++ x :: (v ++ S))[h]! (P ++ x :: (v ++ S))[P.length]!) v.length (P.length + 1) (P.length + 1 + v.length) (by omega) (by omega)
  revert h1 h2 h3 h4
  generalize bsr _ _ (P.length + 1) (P.length + 1 + v.length) = r
  intro h1 h2 h3 h4
  have ex : (P ++ x :: (v ++ S))[P.length]! = x := bang_mid rfl
  have ev : ∀ i (h0 : P.length + 1 ≤ i) (h : i < P.length + 1 + v.length), (P ++ x :: (v ++ S))[i]! = v[i - (P.length + 1)]'(by omega) := fun i p q => bang_v (P := P) (u := [x]) (v := v) (S := S) (i := i) p q
  obtain ⟨t, rfl⟩ : ∃ t, r = P.length + 1 + t := ⟨r - (P.length + 1), by omega⟩
  obtain ⟨a1, a2⟩ := one_left W sv (x := x) (t := t) (by omega) (fun q => by
    have := h4 (by omega)
    simp only [ex] at this
    rw [ev _ (by omega) (by omega)] at this
    have e : P.length + 1 + t - (P.length + 1) = t := by omega
    simp only [e] at this
    exact this) (fun q => by
    have := h3 (by omega)
    simp only [ex] at this
    rw [ev _ (by omega) (by omega)] at this
    have e : P.length + 1 + t - 1 - (P.length + 1) = t - 1 := by omega
    simp only [e] at this
    exact this)
  refine ⟨_, ?_, a1, a2⟩
  have e : P.length + 1 + t - 1 - P.length = (v.take t).length := by rw [List.length_take]; omega
  have s := shU_ok (v.take t) P (v.drop t ++ S) x
  have e2 : v.take t ++ (v.drop t ++ S) = v ++ S := by rw [← List.append_assoc, List.take_append_drop]
  rw [e2] at s
  rw [e, s]
  simp
theorem sym_right (W : Wk lt) (y : α) (u P S : List α) (su : srt lt u) : ∃ w, shD (P.length + u.length - bsr (fun h => !lt (P ++ (u ++ y :: S))[P.length + u.length]! (P ++ (u ++ y :: S))[h]!) u.length P.length (P.length + u.length)) (P.length + u.length) (P ++ (u ++ y :: S)) = P ++ (w ++ S) ∧ srt lt w ∧ stb lt (u ++ [y]) w := by
  obtain ⟨h1, h2, h3, h4⟩ := bsr_ok (fun h => !lt (P ++ (u ++ y :: S))[P.length + u.length]! (P ++ (u ++ y :: S))[h]!) u.length P.length (P.length + u.length) (by omega) (by omega)
  revert h1 h2 h3 h4
  generalize bsr _ _ P.length (P.length + u.length) = r
  intro h1 h2 h3 h4
  have ey : (P ++ (u ++ y :: S))[P.length + u.length]! = y := by
    have e : P ++ (u ++ y :: S) = (P ++ u) ++ y :: S := by simp
    rw [e]
    exact bang_mid (by simp)
  have eu : ∀ i (h0 : P.length ≤ i) (h : i < P.length + u.length), (P ++ (u ++ y :: S))[i]! = u[i - P.length]'(by omega) := fun i p q => bang_u (P := P) (u := u) (R := y :: S) (i := i) p q
  obtain ⟨s, rfl⟩ : ∃ s, r = P.length + s := ⟨r - P.length, by omega⟩
  obtain ⟨a1, a2⟩ := one_right W su (y := y) (s := s) (by omega) (fun q => by
    have := h3 (by omega)
    simp only [ey, Bool.not_eq_true'] at this
    rw [eu _ (by omega) (by omega)] at this
    have e : P.length + s - 1 - P.length = s - 1 := by omega
    simp only [e] at this
    exact this) (fun q => by
    have := h4 (by omega)
    simp only [ey, Bool.not_eq_false'] at this
    rw [eu _ (by omega) (by omega)] at this
    have e : P.length + s - P.length = s := by omega
    simp only [e] at this
    exact this)
  refine ⟨_, ?_, a1, a2⟩
  have e : P.length + u.length - (P.length + s) = (u.drop s).length := by rw [List.length_drop]; omega
  have q := shD_ok (u.drop s).length (u.drop s) (P ++ u.take s) S y rfl
  have e2 : (P ++ u.take s).length + (u.drop s).length = P.length + u.length := by rw [List.length_append, List.length_take, List.length_drop]; omega
  have e3 : (P ++ u.take s) ++ (u.drop s ++ y :: S) = P ++ (u ++ y :: S) := by
    have : u.take s ++ (u.drop s ++ y :: S) = u ++ y :: S := by rw [← List.append_assoc, List.take_append_drop]
    rw [List.append_assoc, this]
  rw [e2, e3] at q
  rw [e, q]
  simp
theorem symS_ok (W : Wk lt) : ∀ (n : Nat) (u v P S : List α), 0 < u.length → 0 < v.length → srt lt u → srt lt v → u.length + v.length ≤ n →
    ∃ w, symS lt n P.length (P.length + u.length) (P.length + u.length + v.length) (P ++ (u ++ (v ++ S))) = P ++ (w ++ S) ∧ srt lt w ∧ stb lt (u ++ v) w
  | 0, u, v, P, S, hu, hv, _, _, hn => by omega
  | n + 1, u, v, P, S, hu, hv, su, sv, hn => by
    rw [symS]
    by_cases c1 : P.length + u.length - P.length = 1
    · rw [if_pos c1]
      obtain ⟨x, rfl⟩ := List.length_eq_one_iff.1 (show u.length = 1 by omega)
      have := sym_left W x v P S sv
      have e : P.length + [x].length + v.length - (P.length + [x].length) = v.length := by omega
      rw [e]
      exact this
    rw [if_neg c1]
    by_cases c2 : P.length + u.length + v.length - (P.length + u.length) = 1
    · rw [if_pos c2]
      obtain ⟨y, rfl⟩ := List.length_eq_one_iff.1 (show v.length = 1 by omega)
      have := sym_right W y u P S su
      have e : P.length + u.length - P.length = u.length := by omega
      rw [e]
      exact this
    rw [if_neg c2]
    dsimp only
    obtain ⟨k, t, hk, ht, hs, hm, c12, c21⟩ := symE_ok (lt := lt) u v P S hu hv
    rw [hs, hm]
    have he : P.length + k + t + (P.length + u.length) - (P.length + k) = P.length + u.length + t := by omega
    rw [he]
    have lu1 : (u.take k).length = k := by rw [List.length_take]; omega
    have lu2 : (u.drop k).length = u.length - k := by rw [List.length_drop]
    have lv1 : (v.take t).length = t := by rw [List.length_take]; omega
    have lv2 : (v.drop t).length = v.length - t := by rw [List.length_drop]
    have eu : ∀ R : List α, u.take k ++ (u.drop k ++ R) = u ++ R := fun R => by rw [← List.append_assoc, List.take_append_drop]
    have ev : ∀ R : List α, v.take t ++ (v.drop t ++ R) = v ++ R := fun R => by rw [← List.append_assoc, List.take_append_drop]
    have hD1 : (if P.length + k < P.length + u.length ∧ P.length + u.length < P.length + u.length + t then rotS (P.length + u.length) (P.length + u.length + t - (P.length + k)) (P.length + u.length - (P.length + k)) (P.length + u.length + t - (P.length + u.length)) (P ++ (u ++ (v ++ S))) else P ++ (u ++ (v ++ S))) =
        P ++ (u.take k ++ (v.take t ++ (u.drop k ++ (v.drop t ++ S)))) := by
      split
      · rename_i hc
        have r := rotS_ok (m := P.length + u.length) (P.length + u.length + t - (P.length + k)) (u.drop k) (v.take t) (P ++ u.take k) (v.drop t ++ S) (by omega) (by omega) (by omega) (by rw [List.length_append]; omega)
        rw [List.append_assoc, ev, eu, lu2, lv1] at r
        have e1 : P.length + u.length - (P.length + k) = u.length - k := by omega
        have e2 : P.length + u.length + t - (P.length + u.length) = t := by omega
        rw [e1, e2, r, List.append_assoc]
      · rename_i hc
        have : k = u.length ∨ t = 0 := by omega
        rcases this with rfl | rfl
        · rw [List.take_length, List.drop_length, List.nil_append, ev]
        · rw [List.take_zero, List.drop_zero, List.nil_append, eu]
    rw [hD1]
    have hL : ∃ w1, (if P.length < P.length + k ∧ P.length + k < P.length + k + t then symS lt n P.length (P.length + k) (P.length + k + t) (P ++ (u.take k ++ (v.take t ++ (u.drop k ++ (v.drop t ++ S))))) else P ++ (u.take k ++ (v.take t ++ (u.drop k ++ (v.drop t ++ S))))) =
        P ++ (w1 ++ (u.drop k ++ (v.drop t ++ S))) ∧ srt lt w1 ∧ stb lt (u.take k ++ v.take t) w1 := by
      split
      · rename_i hc
        have ih := symS_ok W n (u.take k) (v.take t) P (u.drop k ++ (v.drop t ++ S)) (by omega) (by omega) (srt_take su k) (srt_take sv t) (by omega)
        rw [lu1, lv1] at ih
        exact ih
      · rename_i hc
        refine ⟨u.take k ++ v.take t, by rw [List.append_assoc], ?_, stb.refl _⟩
        have : k = 0 ∨ t = 0 := by omega
        rcases this with rfl | rfl
        · rw [List.take_zero, List.nil_append]; exact srt_take sv t
        · rw [List.take_zero, List.append_nil]; exact srt_take su k
    obtain ⟨w1, hw1, s1, b1⟩ := hL
    rw [hw1]
    have lw1 : w1.length = k + t := by have := b1.len W; rw [List.length_append] at this; omega
    have hR : ∃ w2, (if P.length + k + t < P.length + u.length + t ∧ P.length + u.length + t < P.length + u.length + v.length then symS lt n (P.length + k + t) (P.length + u.length + t) (P.length + u.length + v.length) (P ++ (w1 ++ (u.drop k ++ (v.drop t ++ S)))) else P ++ (w1 ++ (u.drop k ++ (v.drop t ++ S)))) =
        P ++ (w1 ++ (w2 ++ S)) ∧ srt lt w2 ∧ stb lt (u.drop k ++ v.drop t) w2 := by
      split
      · rename_i hc
        obtain ⟨w2, i1, i2, i3⟩ := symS_ok W n (u.drop k) (v.drop t) (P ++ w1) S (by omega) (by omega) (srt_drop su k) (srt_drop sv t) (by omega)
        refine ⟨w2, ?_, i2, i3⟩
        rw [lu2, lv2, List.length_append, lw1] at i1
        have e1 : P.length + (k + t) = P.length + k + t := by omega
        have e2 : P.length + k + t + (u.length - k) = P.length + u.length + t := by omega
        have e3 : P.length + u.length + t + (v.length - t) = P.length + u.length + v.length := by omega
        rw [e1, e2, e3, List.append_assoc, List.append_assoc] at i1
        exact i1
      · rename_i hc
        refine ⟨u.drop k ++ v.drop t, by rw [List.append_assoc], ?_, stb.refl _⟩
        have : k = u.length ∨ t = v.length := by omega
        rcases this with rfl | rfl
        · rw [List.drop_length, List.nil_append]; exact srt_drop sv t
        · rw [List.drop_length, List.append_nil]; exact srt_drop su k
    obtain ⟨w2, hw2, s2, b2⟩ := hR
    rw [hw2]
    have j := mrg_join W (u1 := u.take k) (u2 := u.drop k) (v1 := v.take t) (v2 := v.drop t) (by rw [List.take_append_drop]; exact su) (by rw [List.take_append_drop]; exact sv)
      (part12 W su sv hk ht fun p q => c12 p q (by omega)) (part21 W su sv hk ht fun p q => c21 p q (by omega)) s1 s2 b1 b2
    rw [List.take_append_drop, List.take_append_drop] at j
    exact ⟨w1 ++ w2, by rw [List.append_assoc], j.1, j.2⟩

/-! ### the whole sort -/
theorem st1_ok (W : Wk lt) {n k : Nat} (hk : 0 < k) : ∀ (f : Nat) (L : List (List α)) (R : List α), (∀ b ∈ L, b.length = k ∧ srt lt b) → n = L.flatten.length + R.length → R.length < f →
    ∃ (M : List (List α)) (T : List α), st1 lt n k f L.flatten.length (L.flatten ++ R) = M.flatten ++ T ∧ (∀ b ∈ M, b.length = k ∧ srt lt b) ∧ T.length < k ∧ srt lt T ∧ stb lt (L.flatten ++ R) (M.flatten ++ T)
  | 0, _, _, _, _, h => by omega
  | f + 1, L, R, hL, hn, hf => by
    rw [st1]
    by_cases hc : L.flatten.length + k ≤ n
    · rw [if_pos hc]
      obtain ⟨x, r, R2, rfl, hr⟩ : ∃ x r R2, R = x :: (r ++ R2) ∧ r.length = k - 1 := by
        cases R with
        | nil => rw [List.length_nil] at hn; omega
        | cons x R1 => exact ⟨x, R1.take (k - 1), R1.drop (k - 1), by rw [List.take_append_drop], by rw [List.length_take]; rw [List.length_cons] at hn; omega⟩
      obtain ⟨w, i1, i2, i3⟩ := insI_ok W r [x] L.flatten R2 (srt_single x)
      have lw : w.length = k := by have := i3.len W; rw [List.length_append, List.length_singleton] at this; omega
      rw [hr] at i1
      have e0 : L.flatten ++ x :: (r ++ R2) = L.flatten ++ ([x] ++ (r ++ R2)) := rfl
      have e1 : L.flatten.length + [x].length = L.flatten.length + 1 := rfl
      rw [e1] at i1
      rw [e0, i1]
      have e2 : (L ++ [w]).flatten = L.flatten ++ w := by simp
      rw [List.length_cons, List.length_append, hr] at hn hf
      obtain ⟨M, T, j1, j2, j3, j4, j5⟩ := st1_ok W (n := n) hk f (L ++ [w]) R2 (fun b hb => by
        rcases List.mem_append.1 hb with hb | hb
        · exact hL b hb
        · rw [List.mem_singleton] at hb; subst hb; exact ⟨lw, i2⟩) (by
        rw [e2, List.length_append, lw]; omega) (by omega)
      have e3 : (L.flatten ++ w).length = L.flatten.length + k := by rw [List.length_append, lw]
      rw [e2, e3, List.append_assoc] at j1
      rw [e2, List.append_assoc] at j5
      refine ⟨M, T, j1, j2, j3, j4, stb.trans ?_ j5⟩
      have := (stb.refl (lt := lt) L.flatten).app (i3.app (stb.refl R2))
      simpa using this
    · rw [if_neg hc]
      cases R with
      | nil =>
        refine ⟨L, [], ?_, hL, hk, List.Pairwise.nil, stb.refl _⟩
        have : n - (L.flatten.length + 1) = 0 := by rw [List.length_nil] at hn; omega
        rw [this, insI]
      | cons x r =>
        obtain ⟨w, i1, i2, i3⟩ := insI_ok W r [x] L.flatten [] (srt_single x)
        have lw : w.length = r.length + 1 := by have := i3.len W; simp at this; omega
        rw [List.length_cons] at hn
        have e : n - (L.flatten.length + 1) = r.length := by omega
        refine ⟨L, w, ?_, hL, by omega, i2, ?_⟩
        · rw [e]
          rw [List.append_nil, List.append_nil] at i1
          exact i1
        · exact (stb.refl (lt := lt) L.flatten).app i3
theorem st2_ok (W : Wk lt) {n k : Nat} (hk : 0 < k) : ∀ (f : Nat) (L M : List (List α)) (T : List α), (∀ b ∈ L, b.length = 2 * k ∧ srt lt b) → (∀ b ∈ M, b.length = k ∧ srt lt b) → T.length < k → srt lt T → n = L.flatten.length + (M.flatten.length + T.length) → M.length < 2 * f →
    ∃ (L' : List (List α)) (T' : List α), st2 lt n k f L.flatten.length (L.flatten ++ (M.flatten ++ T)) = L'.flatten ++ T' ∧ (∀ b ∈ L', b.length = 2 * k ∧ srt lt b) ∧ T'.length < 2 * k ∧ srt lt T' ∧ stb lt (L.flatten ++ (M.flatten ++ T)) (L'.flatten ++ T')
  | 0, _, _, _, _, _, _, _, _, h => by omega
  | f + 1, L, M, T, hL, hM, hT, sT, hn, hf => by
    rw [st2]
    match M, hM, hn, hf with
    | x :: y :: M2, hM, hn, hf =>
      obtain ⟨lx, sx⟩ := hM x (by simp)
      obtain ⟨ly, sy⟩ := hM y (by simp)
      simp only [List.flatten_cons, List.length_append, lx, ly] at hn
      rw [if_pos (by omega)]
      obtain ⟨w, i1, i2, i3⟩ := symS_ok W (2 * k) x y L.flatten (M2.flatten ++ T) (by omega) (by omega) sx sy (by omega)
      have lw : w.length = 2 * k := by have := i3.len W; rw [List.length_append] at this; omega
      have e0 : L.flatten ++ ((x :: y :: M2).flatten ++ T) = L.flatten ++ (x ++ (y ++ (M2.flatten ++ T))) := by simp
      have e1 : L.flatten.length + x.length + y.length = L.flatten.length + 2 * k := by omega
      rw [e1, lx] at i1
      rw [e0, i1]
      have e2 : (L ++ [w]).flatten = L.flatten ++ w := by simp
      obtain ⟨L', T', j1, j2, j3, j4, j5⟩ := st2_ok W (n := n) hk f (L ++ [w]) M2 T (fun b hb => by
        rcases List.mem_append.1 hb with hb | hb
        · exact hL b hb
        · rw [List.mem_singleton] at hb; subst hb; exact ⟨lw, i2⟩) (fun b hb => hM b (by simp [hb])) hT sT (by
        rw [e2, List.length_append, lw]; omega) (by rw [List.length_cons, List.length_cons] at hf; omega)
      have e3 : (L.flatten ++ w).length = L.flatten.length + 2 * k := by rw [List.length_append, lw]
      rw [e2, e3, List.append_assoc] at j1
      rw [e2, List.append_assoc] at j5
      refine ⟨L', T', j1, j2, j3, j4, stb.trans ?_ j5⟩
      have := (stb.refl (lt := lt) L.flatten).app (i3.app (stb.refl (M2.flatten ++ T)))
      simpa using this
    | [x], hM, hn, hf =>
      obtain ⟨lx, sx⟩ := hM x (by simp)
      simp only [List.flatten_cons, List.flatten_nil, List.append_nil, lx] at hn
      rw [if_neg (by omega)]
      have e0 : L.flatten ++ ([x].flatten ++ T) = L.flatten ++ (x ++ T) := by simp
      rw [e0]
      by_cases h0 : T.length = 0
      · rw [if_neg (by omega)]
        have : T = [] := List.eq_nil_of_length_eq_zero h0
        subst this
        exact ⟨L, x, by simp, hL, by omega, sx, by simpa using stb.refl _⟩
      · rw [if_pos (by omega)]
        obtain ⟨w, i1, i2, i3⟩ := symS_ok W (n - L.flatten.length) x T L.flatten [] (by omega) (by omega) sx sT (by omega)
        have lw : w.length = k + T.length := by have := i3.len W; rw [List.length_append] at this; omega
        have e1 : L.flatten.length + x.length + T.length = n := by omega
        rw [e1, lx, List.append_nil, List.append_nil] at i1
        exact ⟨L, w, i1, hL, by omega, i2, (stb.refl (lt := lt) L.flatten).app i3⟩
    | [], hM, hn, hf =>
      simp only [List.flatten_nil, List.length_nil] at hn
      rw [if_neg (by omega), if_neg (by omega)]
      exact ⟨L, T, by simp, hL, by omega, sT, by simpa using stb.refl _⟩
theorem st3_ok (W : Wk lt) {n : Nat} : ∀ (f k : Nat) (M : List (List α)) (T : List α), 0 < k → (∀ b ∈ M, b.length = k ∧ srt lt b) → T.length < k → srt lt T → n = M.flatten.length + T.length → n ≤ k + f →
    srt lt (st3 lt n f k (M.flatten ++ T)) ∧ stb lt (M.flatten ++ T) (st3 lt n f k (M.flatten ++ T)) := by
  intro f
  have fin : ∀ (k : Nat) (M : List (List α)) (T : List α), 0 < k → (∀ b ∈ M, b.length = k ∧ srt lt b) → srt lt T → n = M.flatten.length + T.length → n ≤ k → srt lt (M.flatten ++ T) := by
    intro k M T hk hM sT hn hl
    cases M with
    | nil => simpa using sT
    | cons x M2 =>
      obtain ⟨lx, sx⟩ := hM x (by simp)
      simp only [List.flatten_cons, List.length_append, lx] at hn
      have h1 : M2.flatten = [] := List.eq_nil_of_length_eq_zero (by omega)
      have h2 : T = [] := List.eq_nil_of_length_eq_zero (by omega)
      rw [List.flatten_cons, h1, h2]
      simpa using sx
  induction f with
  | zero =>
    intro k M T hk hM hT sT hn hl
    exact ⟨fin k M T hk hM sT hn (by omega), stb.refl _⟩
  | succ f ih =>
    intro k M T hk hM hT sT hn hl
    rw [st3]
    by_cases hc : k < n
    · rw [if_pos hc]
      have hM1 : M.length ≤ M.flatten.length := flat_ge (lt := lt) hk M hM
      obtain ⟨L', T', j1, j2, j3, j4, j5⟩ := st2_ok W (n := n) hk n [] M T (by simp) hM hT sT (by simpa using hn) (by omega)
      simp only [List.flatten_nil, List.length_nil, List.nil_append] at j1 j5
      rw [j1]
      have hl' : n = L'.flatten.length + T'.length := by have := j5.len W; simp only [List.length_append] at this; omega
      obtain ⟨k1, k2⟩ := ih (2 * k) L' T' (by omega) j2 j3 j4 hl' (by omega)
      exact ⟨k1, j5.trans k2⟩
    · rw [if_neg hc]
      exact ⟨fin k M T hk hM sT hn (by omega), stb.refl _⟩
theorem stS_ok (W : Wk lt) (D : List α) : srt lt (stS lt D) ∧ stb lt D (stS lt D) := by
  unfold stS
  obtain ⟨M, T, j1, j2, j3, j4, j5⟩ := st1_ok W (n := D.length) (k := 20) (by decide) (D.length + 1) [] D (by simp) (by simp) (by omega)
  simp only [List.flatten_nil, List.length_nil, List.nil_append] at j1 j5
  rw [j1]
  have hl : D.length = M.flatten.length + T.length := by have := j5.len W; simp only [List.length_append] at this; omega
  obtain ⟨k1, k2⟩ := st3_ok W D.length 20 M T (by decide) j2 j3 j4 hl (by omega)
  exact ⟨k1, j5.trans k2⟩
theorem stS_len (D : List α) : (stS lt D).length = D.length := by
  unfold stS
  rw [st3_len, st1_len]
end
end Go.Proofs
