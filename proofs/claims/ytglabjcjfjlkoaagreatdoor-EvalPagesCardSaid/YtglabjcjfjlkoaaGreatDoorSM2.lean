/- Plain laws: where two sorted lists are parted for a merge in place; swaps of neighbours and of ranges. No program. -/
import Derived.Test.YtglabjcjfjlkoaaGreatDoorSM1
set_option linter.unusedVariables false
set_option linter.unusedSimpArgs false
namespace Go.Proofs

section
variable {α : Type} {lt : α → α → Bool}
theorem Wk.lt_of_le (W : Wk lt) {a b c : α} (h : lt a b = true) (k : lt a c = false) : lt c b = true := by
  cases q : lt c b with
  | true => rfl
  | false => have := W.ntr _ _ _ k q; rw [h] at this; cases this
theorem srt_at {l : List α} (W : Wk lt) (h : srt lt l) {i j : Nat} (hj : j < l.length) (hij : i ≤ j) : lt l[j] (l[i]'(by omega)) = false := by
  by_cases e : i = j
  · subst e; exact W.irr _
  · exact List.pairwise_iff_getElem.1 h i j (by omega) hj (by omega)
theorem srt_take {l : List α} (h : srt lt l) (n : Nat) : srt lt (l.take n) := List.Pairwise.sublist (List.take_sublist n l) h
theorem srt_drop {l : List α} (h : srt lt l) (n : Nat) : srt lt (l.drop n) := List.Pairwise.sublist (List.drop_sublist n l) h
/-- where the lists are parted -/
theorem part12 (W : Wk lt) {u v : List α} (hu : srt lt u) (hv : srt lt v) {s t : Nat} (hs : s ≤ u.length) (ht : t ≤ v.length)
    (h1 : ∀ (p : 0 < s) (q : t < v.length), lt (v[t]) (u[s - 1]'(by omega)) = false) : ∀ x ∈ u.take s, ∀ y ∈ v.drop t, lt y x = false := fun x hx y hy => by
  obtain ⟨i, hi, rfl⟩ := List.mem_iff_getElem.1 hx
  obtain ⟨j, hj, rfl⟩ := List.mem_iff_getElem.1 hy
  rw [List.length_take] at hi
  rw [List.length_drop] at hj
  rw [List.getElem_take, List.getElem_drop]
  have a1 := srt_at W hu (i := i) (j := s - 1) (by omega) (by omega)
  have a2 := srt_at W hv (i := t) (j := t + j) (by omega) (by omega)
  exact W.ntr _ _ _ a2 (W.ntr _ _ _ (h1 (by omega) (by omega)) a1)
theorem part21 (W : Wk lt) {u v : List α} (hu : srt lt u) (hv : srt lt v) {s t : Nat} (hs : s ≤ u.length) (ht : t ≤ v.length)
    (h2 : ∀ (p : s < u.length) (q : 0 < t), lt (v[t - 1]'(by omega)) (u[s]) = true) : ∀ x ∈ u.drop s, ∀ y ∈ v.take t, lt y x = true := fun x hx y hy => by
  obtain ⟨i, hi, rfl⟩ := List.mem_iff_getElem.1 hx
  obtain ⟨j, hj, rfl⟩ := List.mem_iff_getElem.1 hy
  rw [List.length_drop] at hi
  rw [List.length_take] at hj
  rw [List.getElem_take, List.getElem_drop]
  have a1 := srt_at W hu (i := s) (j := s + i) (by omega) (by omega)
  have a2 := srt_at W hv (i := j) (j := t - 1) (by omega) (by omega)
  exact W.lt_tr (W.lt_of_le (h2 (by omega) (by omega)) a2) a1
theorem srt_single (x : α) : srt lt [x] := List.pairwise_singleton _ _
/-- one ahead of a sorted list -/
theorem one_left (W : Wk lt) {x : α} {v : List α} (hv : srt lt v) {t : Nat} (ht : t ≤ v.length) (h1 : ∀ q : t < v.length, lt v[t] x = false) (h2 : ∀ q : 0 < t, lt (v[t - 1]'(by omega)) x = true) :
    srt lt (v.take t ++ x :: v.drop t) ∧ stb lt ([x] ++ v) (v.take t ++ x :: v.drop t) := by
  have a := part12 W (srt_single x) hv (s := 1) (Nat.le_refl _) ht (fun _ q => h1 q)
  have b := part21 W (srt_single x) hv (s := 0) (Nat.zero_le _) ht (fun _ q => h2 q)
  have hv' : srt lt (v.take t ++ v.drop t) := by rw [List.take_append_drop]; exact hv
  have := mrg_join W (u1 := []) (u2 := [x]) (v1 := v.take t) (v2 := v.drop t) (w1 := v.take t) (w2 := x :: v.drop t) (srt_single x) hv' (fun y hy => by cases hy) b (srt_take hv t)
    (List.pairwise_cons.2 ⟨fun y hy => a x (by simp) y hy, srt_drop hv t⟩) (stb.refl _) (stb.refl _)
  rw [List.take_append_drop] at this
  exact this
/-- one behind a sorted list -/
theorem one_right (W : Wk lt) {y : α} {u : List α} (hu : srt lt u) {s : Nat} (hs : s ≤ u.length) (h1 : ∀ q : 0 < s, lt y (u[s - 1]'(by omega)) = false) (h2 : ∀ q : s < u.length, lt y u[s] = true) :
    srt lt (u.take s ++ y :: u.drop s) ∧ stb lt (u ++ [y]) (u.take s ++ y :: u.drop s) := by
  have a := part12 W hu (srt_single y) (s := s) (t := 0) hs (Nat.zero_le _) (fun p _ => h1 p)
  have b := part21 W hu (srt_single y) (s := s) (t := 1) hs (Nat.le_refl _) (fun p _ => h2 p)
  have hu' : srt lt (u.take s ++ u.drop s) := by rw [List.take_append_drop]; exact hu
  have := mrg_join W (u1 := u.take s) (u2 := u.drop s) (v1 := [y]) (v2 := []) (w1 := u.take s ++ [y]) (w2 := u.drop s) hu' (by simpa using srt_single y) (fun x hx z hz => by cases hz) b
    (srt_app.2 ⟨srt_take hu s, srt_single y, fun x hx z hz => a x hx z (by simpa using hz)⟩) (srt_drop hu s) (stb.refl _) (by simpa using stb.refl _)
  rw [List.take_append_drop] at this
  simpa [List.append_assoc] using this
/-! ### the row -/
theorem get_mid {A C : List α} {p : α} {i : Nat} (hi : i = A.length) (h : i < (A ++ p :: C).length) : (A ++ p :: C)[i] = p := by
  subst hi; simp
theorem set_mid {A C : List α} {p q : α} {i : Nat} (hi : i = A.length) : (A ++ p :: C).set i q = A ++ q :: C := by
  subst hi; simp
/-- two places change places -/
theorem set_two {A B C : List α} {p q : α} {i j : Nat} (hi : i = A.length) (hj : j = A.length + 1 + B.length) : ((A ++ p :: (B ++ q :: C)).set i q).set j p = A ++ q :: (B ++ p :: C) := by
  rw [set_mid hi]
  have e1 : A ++ q :: (B ++ q :: C) = (A ++ q :: B) ++ q :: C := by simp
  have e2 : A ++ q :: (B ++ p :: C) = (A ++ q :: B) ++ p :: C := by simp
  rw [e1, e2]
  exact set_mid (by rw [hj, List.length_append, List.length_cons]; omega)
theorem get_two {A B C : List α} {p q : α} {j : Nat} (hj : j = A.length + 1 + B.length) (h : j < (A ++ p :: (B ++ q :: C)).length) : (A ++ p :: (B ++ q :: C))[j] = q := by
  have e1 : A ++ p :: (B ++ q :: C) = (A ++ p :: B) ++ q :: C := by simp
  have : ∀ (l : List α) (e : A ++ p :: (B ++ q :: C) = l) (h' : j < l.length), l[j] = q → (A ++ p :: (B ++ q :: C))[j] = q := fun l e h' k => by subst e; exact k
  exact this _ e1 (by rw [← e1]; exact h) (get_mid (by rw [hj, List.length_append, List.length_cons]; omega) _)
theorem tk_succ {l : List α} {i : Nat} (h : i < l.length) : l.take (i + 1) = l.take i ++ [l[i]] := List.take_succ_eq_append_getElem h
end
end Go.Proofs
