/- Plain laws: a sort in place that keeps equals in order, step by step on a list: swaps, rotations, merges in place, blocks. No program. Conditions: in each theorem. -/
import Derived.Test.YtglabjcjfjlkoaaGreatDoorSM2
set_option linter.unusedVariables false
set_option linter.unusedSimpArgs false
namespace Go.Proofs

section
variable {α : Type} [Inhabited α]
/-- two places change places -/
def sw (D : List α) (i j : Nat) : List α := (D.set i D[j]!).set j D[i]!
theorem sw_len (D : List α) (i j : Nat) : (sw D i j).length = D.length := by simp [sw]
def swR (a b : Nat) : Nat → Nat → List α → List α
  | 0, _, D => D
  | n + 1, i, D => swR a b n (i + 1) (sw D (a + i) (b + i))
theorem swR_len {a b : Nat} : ∀ (n i : Nat) (D : List α), (swR a b n i D).length = D.length
  | 0, _, _ => rfl
  | n + 1, i, D => by rw [swR, swR_len n, sw_len]
def rotS (m : Nat) : Nat → Nat → Nat → List α → List α
  | 0, _, _, D => D
  | n + 1, i, j, D => if i = j then swR (m - i) m i 0 D else if j < i then rotS m n (i - j) j (swR (m - i) m j 0 D) else rotS m n i (j - i) (swR (m - i) (m + j - i) i 0 D)
theorem rotS_len {m : Nat} : ∀ (n i j : Nat) (D : List α), (rotS m n i j D).length = D.length
  | 0, _, _, _ => rfl
  | n + 1, i, j, D => by
    rw [rotS]
    split
    · rw [swR_len]
    · split
      · rw [rotS_len n, swR_len]
      · rw [rotS_len n, swR_len]
/-- a search by halves -/
def bsr (p : Nat → Bool) : Nat → Nat → Nat → Nat
  | 0, i, _ => i
  | n + 1, i, j => if i < j then (if p ((i + j) / 2) then bsr p n ((i + j) / 2 + 1) j else bsr p n i ((i + j) / 2)) else i
theorem bsr_ok (p : Nat → Bool) : ∀ (n i j : Nat), i ≤ j → j - i ≤ n → i ≤ bsr p n i j ∧ bsr p n i j ≤ j ∧ (i < bsr p n i j → p (bsr p n i j - 1) = true) ∧ (bsr p n i j < j → p (bsr p n i j) = false)
  | 0, i, j, h, hn => by
    rw [bsr]
    exact ⟨Nat.le_refl _, h, fun q => by omega, fun q => by omega⟩
  | n + 1, i, j, h, hn => by
    rw [bsr]
    by_cases hij : i < j
    · rw [if_pos hij]
      have hm : i ≤ (i + j) / 2 ∧ (i + j) / 2 < j := by omega
      cases hp : p ((i + j) / 2) with
      | true =>
        rw [if_pos rfl]
        obtain ⟨h1, h2, h3, h4⟩ := bsr_ok p n ((i + j) / 2 + 1) j (by omega) (by omega)
        refine ⟨by omega, h2, fun q => ?_, h4⟩
        by_cases e : bsr p n ((i + j) / 2 + 1) j = (i + j) / 2 + 1
        · rw [e]; exact hp
        · exact h3 (by omega)
      | false =>
        rw [if_neg (by decide)]
        obtain ⟨h1, h2, h3, h4⟩ := bsr_ok p n i ((i + j) / 2) (by omega) (by omega)
        refine ⟨h1, by omega, h3, fun q => ?_⟩
        by_cases e : bsr p n i ((i + j) / 2) = (i + j) / 2
        · rw [e]; exact hp
        · exact h4 (by omega)
    · rw [if_neg hij]
      exact ⟨Nat.le_refl _, h, fun q => by omega, fun q => by omega⟩
def shU : Nat → Nat → List α → List α
  | 0, _, D => D
  | n + 1, k, D => shU n (k + 1) (sw D k (k + 1))
theorem shU_len : ∀ (n k : Nat) (D : List α), (shU n k D).length = D.length
  | 0, _, _ => rfl
  | n + 1, k, D => by rw [shU, shU_len n, sw_len]
def shD : Nat → Nat → List α → List α
  | 0, _, D => D
  | n + 1, k, D => shD n (k - 1) (sw D k (k - 1))
theorem shD_len : ∀ (n k : Nat) (D : List α), (shD n k D).length = D.length
  | 0, _, _ => rfl
  | n + 1, k, D => by rw [shD, shD_len n, sw_len]
variable (lt : α → α → Bool)
def insJ (a : Nat) : Nat → List α → List α
  | 0, D => D
  | j + 1, D => if a < j + 1 ∧ lt D[j + 1]! D[j]! = true then insJ a j (sw D (j + 1) j) else D
theorem insJ_len {a : Nat} : ∀ (j : Nat) (D : List α), (insJ lt a j D).length = D.length
  | 0, _ => rfl
  | j + 1, D => by
    rw [insJ]
    split
    · rw [insJ_len j, sw_len]
    · rfl
/-- n more elements, from the i-th on -/
def insI (a : Nat) : Nat → Nat → List α → List α
  | 0, _, D => D
  | n + 1, i, D => insI a n (i + 1) (insJ lt a i D)
theorem insI_len {a : Nat} : ∀ (n i : Nat) (D : List α), (insI lt a n i D).length = D.length
  | 0, _, _ => rfl
  | n + 1, i, D => by rw [insI, insI_len n, insJ_len]
def symE (a m b : Nat) (D : List α) : Nat :=
  let mid := (a + b) / 2
  bsr (fun c => !lt D[mid + m - 1 - c]! D[c]!) (b - a) (if mid < m then mid + m - b else a) (if mid < m then mid else m)
def symS : Nat → Nat → Nat → Nat → List α → List α
  | 0, _, _, _, D => D
  | n + 1, a, m, b, D =>
    if m - a = 1 then shU (bsr (fun h => lt D[h]! D[a]!) (b - m) m b - 1 - a) a D
    else if b - m = 1 then shD (m - bsr (fun h => !lt D[m]! D[h]!) (m - a) a m) m D
    else
      let mid := (a + b) / 2
      let s := symE lt a m b D
      let e := mid + m - s
      let D1 := if s < m ∧ m < e then rotS m (e - s) (m - s) (e - m) D else D
      let D2 := if a < s ∧ s < mid then symS n a s mid D1 else D1
      if mid < e ∧ e < b then symS n mid e b D2 else D2
theorem symS_len : ∀ (n a m b : Nat) (D : List α), (symS lt n a m b D).length = D.length
  | 0, _, _, _, _ => rfl
  | n + 1, a, m, b, D => by
    rw [symS]
    split
    · rw [shU_len]
    · split
      · rw [shD_len]
      · dsimp only
        split <;> (try rw [symS_len n]) <;> split <;> (try rw [symS_len n]) <;> split <;> first | rw [rotS_len] | rfl
/-- the blocks, each by insertion -/
def st1 (n k : Nat) : Nat → Nat → List α → List α
  | 0, _, D => D
  | f + 1, a, D => if a + k ≤ n then st1 n k f (a + k) (insI lt a (k - 1) (a + 1) D) else insI lt a (n - (a + 1)) (a + 1) D
theorem st1_len {n k : Nat} : ∀ (f a : Nat) (D : List α), (st1 lt n k f a D).length = D.length
  | 0, _, _ => rfl
  | f + 1, a, D => by
    rw [st1]
    split
    · rw [st1_len f, insI_len]
    · rw [insI_len]
/-- each two blocks merged -/
def st2 (n k : Nat) : Nat → Nat → List α → List α
  | 0, _, D => D
  | f + 1, a, D => if a + 2 * k ≤ n then st2 n k f (a + 2 * k) (symS lt (2 * k) a (a + k) (a + 2 * k) D) else if a + k < n then symS lt (n - a) a (a + k) n D else D
theorem st2_len {n k : Nat} : ∀ (f a : Nat) (D : List α), (st2 lt n k f a D).length = D.length
  | 0, _, _ => rfl
  | f + 1, a, D => by
    rw [st2]
    split
    · rw [st2_len f, symS_len]
    · split
      · rw [symS_len]
      · rfl
def st3 (n : Nat) : Nat → Nat → List α → List α
  | 0, _, D => D
  | f + 1, k, D => if k < n then st3 n f (2 * k) (st2 lt n k n 0 D) else D
theorem st3_len {n : Nat} : ∀ (f k : Nat) (D : List α), (st3 lt n f k D).length = D.length
  | 0, _, _ => rfl
  | f + 1, k, D => by
    rw [st3]
    split
    · rw [st3_len f, st2_len]
    · rfl
/-- the sort -/
def stS (D : List α) : List α := st3 lt D.length D.length 20 (st1 lt D.length 20 (D.length + 1) 0 D)
end

section
variable {α : Type} [Inhabited α] {lt : α → α → Bool}
theorem bang_mid {A C : List α} {p : α} {i : Nat} (hi : i = A.length) : (A ++ p :: C)[i]! = p := by
  subst hi; simp
theorem sw_two {A B C : List α} {p q : α} {i j : Nat} (hi : i = A.length) (hj : j = A.length + 1 + B.length) : sw (A ++ p :: (B ++ q :: C)) i j = A ++ q :: (B ++ p :: C) := by
  have e1 : (A ++ p :: (B ++ q :: C))[i]! = p := bang_mid hi
  have e2 : (A ++ p :: (B ++ q :: C))[j]! = q := by
    have e : A ++ p :: (B ++ q :: C) = (A ++ p :: B) ++ q :: C := by simp
    rw [e]
    exact bang_mid (by rw [hj, List.length_append, List.length_cons]; omega)
  rw [sw, e1, e2]
  exact set_two hi hj
theorem sw_two' {A B C : List α} {p q : α} {i j : Nat} (hi : i = A.length) (hj : j = A.length + 1 + B.length) : sw (A ++ p :: (B ++ q :: C)) j i = A ++ q :: (B ++ p :: C) := by
  have h : ∀ D : List α, sw D j i = sw D i j := fun D => by
    rw [sw, sw]
    exact List.set_comm _ _ (by omega)
  rw [h, sw_two hi hj]
/-- neighbours -/
theorem sw_nb {A C : List α} {p q : α} {i : Nat} (hi : i = A.length) : sw (A ++ p :: q :: C) i (i + 1) = A ++ q :: p :: C := sw_two (B := []) hi (by simp [hi])
theorem sw_nb' {A C : List α} {p q : α} {i : Nat} (hi : i = A.length) : sw (A ++ p :: q :: C) (i + 1) i = A ++ q :: p :: C := sw_two' (B := []) hi (by simp [hi])
/-- ranges change places -/
theorem swR_ok {a b : Nat} : ∀ (x y : List α) (i : Nat) (P Q S : List α), x.length = y.length → P.length = a + i → P.length + x.length + Q.length = b + i →
    swR a b x.length i (P ++ (x ++ (Q ++ (y ++ S)))) = P ++ (y ++ (Q ++ (x ++ S)))
  | [], [], i, P, Q, S, _, _, _ => rfl
  | [], _ :: _, _, _, _, _, h, _, _ => by simp at h
  | _ :: _, [], _, _, _, _, h, _, _ => by simp at h
  | p :: x, q :: y, i, P, Q, S, h, hP, hQ => by
    rw [List.length_cons, swR]
    have e0 : P ++ (p :: x ++ (Q ++ (q :: y ++ S))) = P ++ p :: ((x ++ Q) ++ q :: (y ++ S)) := by simp
    rw [e0, sw_two (by omega) (by rw [List.length_append]; rw [List.length_cons] at hQ; omega)]
    have ih := swR_ok (a := a) (b := b) x y (i + 1) (P ++ [q]) (Q ++ [p]) S (by simpa using h) (by simp; omega) (by simp at hQ ⊢; omega)
    have e1 : P ++ q :: ((x ++ Q) ++ p :: (y ++ S)) = (P ++ [q]) ++ (x ++ ((Q ++ [p]) ++ (y ++ S))) := by simp
    rw [e1, ih]
    simp
theorem rotS_ok {m : Nat} : ∀ (n : Nat) (u v P S : List α), 0 < u.length → 0 < v.length → u.length + v.length ≤ n → P.length + u.length = m →
    rotS m n u.length v.length (P ++ (u ++ (v ++ S))) = P ++ (v ++ (u ++ S))
  | 0, u, v, P, S, hu, hv, hn, hm => by omega
  | n + 1, u, v, P, S, hu, hv, hn, hm => by
    rw [rotS]
    by_cases h1 : u.length = v.length
    · rw [if_pos h1]
      have := swR_ok (a := m - u.length) (b := m) u v 0 P [] S h1 (by omega) (by simp; omega)
      simpa using this
    · rw [if_neg h1]
      by_cases h2 : v.length < u.length
      · rw [if_pos h2]
        have hx : (u.take v.length).length = v.length := by rw [List.length_take]; omega
        have s := swR_ok (a := m - u.length) (b := m) (u.take v.length) v 0 P (u.drop v.length) S hx (by omega) (by rw [hx, List.length_drop]; omega)
        rw [hx] at s
        have e0 : u.take v.length ++ (u.drop v.length ++ (v ++ S)) = u ++ (v ++ S) := by rw [← List.append_assoc, List.take_append_drop]
        rw [e0] at s
        rw [s]
        have ih := rotS_ok (m := m) n (u.drop v.length) (u.take v.length) (P ++ v) S (by rw [List.length_drop]; omega) (by omega) (by rw [List.length_drop, hx]; omega) (by rw [List.length_append, List.length_drop]; omega)
        rw [List.length_drop, hx] at ih
        have e1 : P ++ (v ++ (u.drop v.length ++ (u.take v.length ++ S))) = (P ++ v) ++ (u.drop v.length ++ (u.take v.length ++ S)) := by simp
        rw [e1, ih]
        have e2 : u.take v.length ++ (u.drop v.length ++ S) = u ++ S := by rw [← List.append_assoc, List.take_append_drop]
        rw [e2]
        simp
      · rw [if_neg h2]
        have hy : (v.drop (v.length - u.length)).length = u.length := by rw [List.length_drop]; omega
        have hx : (v.take (v.length - u.length)).length = v.length - u.length := by rw [List.length_take]; omega
        have s := swR_ok (a := m - u.length) (b := m + v.length - u.length) u (v.drop (v.length - u.length)) 0 P (v.take (v.length - u.length)) S hy.symm (by omega) (by rw [hx]; omega)
        have e0 : v.take (v.length - u.length) ++ (v.drop (v.length - u.length) ++ S) = v ++ S := by rw [← List.append_assoc, List.take_append_drop]
        rw [e0] at s
        rw [s]
        have ih := rotS_ok (m := m) n (v.drop (v.length - u.length)) (v.take (v.length - u.length)) P (u ++ S) (by omega) (by omega) (by rw [hy, hx]; omega) (by rw [hy]; omega)
        rw [hy, hx] at ih
        rw [ih]
        have e2 : v.take (v.length - u.length) ++ (v.drop (v.length - u.length) ++ (u ++ S)) = v ++ (u ++ S) := by rw [← List.append_assoc, List.take_append_drop]
        rw [e2]
theorem shU_ok : ∀ (v : List α) (P S : List α) (x : α), shU v.length P.length (P ++ x :: (v ++ S)) = P ++ (v ++ x :: S)
  | [], P, S, x => rfl
  | y :: v, P, S, x => by
    rw [List.length_cons, shU]
    have e0 : P ++ x :: (y :: v ++ S) = P ++ x :: y :: (v ++ S) := by simp
    rw [e0, sw_nb rfl]
    have ih := shU_ok v (P ++ [y]) S x
    have e1 : P ++ y :: x :: (v ++ S) = (P ++ [y]) ++ x :: (v ++ S) := by simp
    rw [List.length_append, List.length_singleton] at ih
    rw [e1, ih]
    simp
theorem shD_ok : ∀ (n : Nat) (u P S : List α) (x : α), u.length = n → shD n (P.length + n) (P ++ (u ++ x :: S)) = P ++ x :: (u ++ S)
  | 0, u, P, S, x, h => by
    have : u = [] := List.eq_nil_of_length_eq_zero h
    subst this; rfl
  | n + 1, u, P, S, x, h => by
    have hne : u ≠ [] := by intro q; subst q; simp at h
    obtain ⟨u0, y, rfl⟩ : ∃ u0 y, u = u0 ++ [y] := ⟨u.dropLast, u.getLast hne, (List.dropLast_concat_getLast hne).symm⟩
    have h0 : u0.length = n := by simpa using h
    rw [shD]
    have e0 : P ++ ((u0 ++ [y]) ++ x :: S) = (P ++ u0) ++ y :: x :: S := by simp
    have e2 : P.length + (n + 1) - 1 = P.length + n := by omega
    rw [e0, e2]
    have s := sw_nb' (A := P ++ u0) (C := S) (p := y) (q := x) (i := P.length + n) (by rw [List.length_append, h0])
    have e3 : P.length + (n + 1) = P.length + n + 1 := by omega
    rw [e3, s]
    have e1 : (P ++ u0) ++ x :: y :: S = P ++ (u0 ++ x :: (y :: S)) := by simp
    rw [e1, shD_ok n u0 P (y :: S) x h0]
    simp
/-- one more, by insertion -/
theorem insJ_ok (W : Wk lt) : ∀ (n : Nat) (w P S : List α) (x : α), w.length = n → srt lt w → ∃ w', insJ lt P.length (P.length + n) (P ++ (w ++ x :: S)) = P ++ (w' ++ S) ∧ srt lt w' ∧ stb lt (w ++ [x]) w'
  | 0, w, P, S, x, h, hs => by
    have : w = [] := List.eq_nil_of_length_eq_zero h
    subst this
    refine ⟨[x], ?_, srt_single x, stb.refl _⟩
    cases hP : P.length with
    | zero => simp [insJ]
    | succ k => rw [Nat.add_zero, insJ, if_neg (by omega)]; simp
  | n + 1, w, P, S, x, h, hs => by
    have hne : w ≠ [] := by intro q; subst q; simp at h
    obtain ⟨u0, y, rfl⟩ : ∃ u0 y, w = u0 ++ [y] := ⟨w.dropLast, w.getLast hne, (List.dropLast_concat_getLast hne).symm⟩
    have h0 : u0.length = n := by simpa using h
    obtain ⟨s1, s2, s3⟩ := srt_app.1 hs
    have e3 : P.length + (n + 1) = P.length + n + 1 := by omega
    have e0 : P ++ ((u0 ++ [y]) ++ x :: S) = (P ++ u0) ++ y :: x :: S := by simp
    have g1 : ((P ++ u0) ++ y :: x :: S)[P.length + n]! = y := bang_mid (by rw [List.length_append, h0])
    have g2 : ((P ++ u0) ++ y :: x :: S)[P.length + n + 1]! = x := by
      have : (P ++ u0) ++ y :: x :: S = ((P ++ u0) ++ [y]) ++ x :: S := by simp
      rw [this]
      exact bang_mid (by rw [List.length_append, List.length_append, h0]; rfl)
    rw [e3, e0, insJ, g1, g2]
    cases hl : lt x y with
    | true =>
      rw [if_pos ⟨by omega, rfl⟩, sw_nb' (by rw [List.length_append, h0])]
      have e1 : (P ++ u0) ++ x :: y :: S = P ++ (u0 ++ x :: (y :: S)) := by simp
      obtain ⟨w', i1, i2, i3⟩ := insJ_ok W n u0 P (y :: S) x h0 s1
      refine ⟨w' ++ [y], by rw [e1, i1]; simp, srt_app.2 ⟨i2, srt_single y, fun z hz t ht => ?_⟩, ?_⟩
      · rw [List.mem_singleton] at ht
        subst ht
        rw [i3.mem W, List.mem_append, List.mem_singleton] at hz
        rcases hz with hz | rfl
        · exact s3 z hz t (by simp)
        · exact W.asym _ _ hl
      · refine stb.trans ?_ (i3.app (stb.refl [y]))
        have := (stb.refl (lt := lt) u0).app (stb_rot W (u := [y]) (v := [x]) fun a ha b hb => by
          rw [List.mem_singleton] at ha hb
          subst ha; subst hb; exact hl)
        simpa using this
    | false =>
      rw [if_neg (by simp)]
      refine ⟨(u0 ++ [y]) ++ [x], by simp, srt_app.2 ⟨hs, srt_single x, fun z hz t ht => ?_⟩, stb.refl _⟩
      rw [List.mem_singleton] at ht
      subst ht
      rcases List.mem_append.1 hz with hz | hz
      · exact W.ntr _ _ _ hl (s3 z hz y (by simp))
      · rw [List.mem_singleton] at hz
        subst hz; exact hl
theorem insI_ok (W : Wk lt) : ∀ (r w P S : List α), srt lt w → ∃ w', insI lt P.length r.length (P.length + w.length) (P ++ (w ++ (r ++ S))) = P ++ (w' ++ S) ∧ srt lt w' ∧ stb lt (w ++ r) w'
  | [], w, P, S, hs => ⟨w, rfl, hs, by simpa using stb.refl w⟩
  | x :: r, w, P, S, hs => by
    obtain ⟨w1, i1, i2, i3⟩ := insJ_ok W w.length w P (r ++ S) x rfl hs
    have hl : w1.length = w.length + 1 := by have := i3.len W; simpa using this
    obtain ⟨w', j1, j2, j3⟩ := insI_ok W r w1 P S i2
    refine ⟨w', ?_, j2, ?_⟩
    · rw [List.length_cons, insI]
      have e : P ++ (w ++ (x :: r ++ S)) = P ++ (w ++ x :: (r ++ S)) := by simp
      rw [e, i1]
      rw [hl] at j1
      have e2 : P.length + w.length + 1 = P.length + (w.length + 1) := by omega
      rw [e2]
      exact j1
    · refine stb.trans ?_ j3
      have := i3.app (stb.refl r)
      simpa using this
end
end Go.Proofs
