/- Plain laws: sorting that keeps the order of equals: what it is, that it is one, rotations, merges. No program. -/
import Derived.Test.YtglabjcjfjlkoaaGreatDoorU1
set_option linter.unusedVariables false
set_option linter.unusedSimpArgs false
namespace Go.Proofs

section
variable {α : Type}
/-- a strict order in which not being less is transitive -/
structure Wk (lt : α → α → Bool) : Prop where
  asym : ∀ a b, lt a b = true → lt b a = false
  ntr : ∀ a b c, lt a b = false → lt b c = false → lt a c = false
def eqw (lt : α → α → Bool) (x y : α) : Bool := !lt x y && !lt y x
def srt (lt : α → α → Bool) (l : List α) : Prop := l.Pairwise (fun x y => lt y x = false)
/-- the same elements, equals in the same order -/
def stb (lt : α → α → Bool) (l m : List α) : Prop := ∀ x, m.filter (eqw lt x) = l.filter (eqw lt x)
variable {lt : α → α → Bool}
theorem Wk.irr (W : Wk lt) (a : α) : lt a a = false := by
  cases h : lt a a with
  | false => rfl
  | true => have := W.asym a a h; rw [h] at this; cases this
theorem Wk.eqw_self (W : Wk lt) (a : α) : eqw lt a a = true := by simp [eqw, W.irr]
theorem eqw_iff {x y : α} : eqw lt x y = true ↔ lt x y = false ∧ lt y x = false := by simp [eqw]
theorem Wk.lt_tr (W : Wk lt) {a b c : α} (h : lt a b = true) (k : lt c b = false) : lt a c = true := by
  cases q : lt a c with
  | true => rfl
  | false => have := W.ntr _ _ _ q k; rw [h] at this; cases this
theorem Wk.tr (W : Wk lt) {a b c : α} (h : lt a b = true) (k : lt b c = true) : lt a c = true := W.lt_tr h (W.asym _ _ k)
theorem stb.refl (l : List α) : stb lt l l := fun _ => rfl
theorem stb.trans {l m n : List α} (h : stb lt l m) (k : stb lt m n) : stb lt l n := fun x => (k x).trans (h x)
theorem stb.app {l m p q : List α} (h : stb lt l m) (k : stb lt p q) : stb lt (l ++ p) (m ++ q) := fun x => by
  rw [List.filter_append, List.filter_append, h, k]
theorem stb.mem (W : Wk lt) {l m : List α} (h : stb lt l m) {x : α} : x ∈ m ↔ x ∈ l := by
  have e : ∀ n : List α, x ∈ n ↔ x ∈ n.filter (eqw lt x) := fun n => by rw [List.mem_filter, W.eqw_self]; simp
  rw [e m, e l, h]
theorem stb.len (W : Wk lt) : ∀ {l m : List α}, stb lt l m → m.length = l.length
  | [], m, h => by
    cases m with
    | nil => rfl
    | cons b t => have := (h.mem W (x := b)).1 (by simp); simp at this
  | a :: l, m, h => by
    have hm : a ∈ m := (h.mem W (x := a)).2 (by simp)
    obtain ⟨i, j, ha, rfl⟩ : ∃ i j, (∀ x ∈ i, eqw lt a x = false) ∧ m = i ++ a :: j := by
      have h1 := h a
      rw [List.filter_cons, if_pos (W.eqw_self a)] at h1
      clear hm h
      induction m with
      | nil => simp at h1
      | cons b t ih =>
        rw [List.filter_cons] at h1
        cases hb : eqw lt a b with
        | true =>
          rw [if_pos hb] at h1
          injection h1 with h1 _
          subst h1
          exact ⟨[], t, by simp, rfl⟩
        | false =>
          rw [if_neg (by rw [hb]; decide)] at h1
          obtain ⟨i, j, h2, rfl⟩ := ih h1
          exact ⟨b :: i, j, fun x hx => by
            rcases List.mem_cons.1 hx with rfl | hx
            · exact hb
            · exact h2 x hx, rfl⟩
    have h2 : stb lt l (i ++ j) := fun x => by
      have h3 := h x
      rw [List.filter_append, List.filter_cons, List.filter_cons] at h3
      rw [List.filter_append]
      cases hx : eqw lt x a with
      | false =>
        rw [hx] at h3
        simpa using h3
      | true =>
        rw [hx] at h3
        have hi : i.filter (eqw lt x) = [] := by
          rw [List.filter_eq_nil_iff]
          intro y hy hxy
          have h5 := ha y hy
          have h6 := eqw_iff.1 hx
          have h7 := eqw_iff.1 hxy
          have : eqw lt a y = true := eqw_iff.2 ⟨W.ntr _ _ _ h6.2 h7.1, W.ntr _ _ _ h7.2 h6.1⟩
          rw [this] at h5
          cases h5
        rw [hi] at h3 ⊢
        simpa using h3
    have := stb.len W h2
    simp only [List.length_append, List.length_cons] at this ⊢
    omega
theorem srt.cons {a : α} {l : List α} (h : srt lt (a :: l)) : (∀ x ∈ l, lt x a = false) ∧ srt lt l := List.pairwise_cons.1 h
/-- a sorted rearrangement that keeps equals in order is one -/
theorem srt_one (W : Wk lt) : ∀ {l m : List α}, srt lt l → srt lt m → stb lt l m → m = l
  | [], m, _, _, h => by
    cases m with
    | nil => rfl
    | cons b t => have := (h.mem W (x := b)).1 (by simp); simp at this
  | a :: l, m, hl, hm, h => by
    cases m with
    | nil => have := (h.mem W (x := a)).2 (by simp); simp at this
    | cons b t =>
      obtain ⟨l1, l2⟩ := hl.cons
      obtain ⟨m1, m2⟩ := hm.cons
      have e : eqw lt a b = true := by
        rw [eqw_iff]
        constructor
        · rcases List.mem_cons.1 ((h.mem W (x := a)).2 (by simp)) with rfl | ha
          · exact W.irr _
          · exact m1 a ha
        · rcases List.mem_cons.1 ((h.mem W (x := b)).1 (by simp)) with rfl | hb
          · exact W.irr _
          · exact l1 b hb
      have h1 := h a
      rw [List.filter_cons, List.filter_cons, if_pos e, if_pos (W.eqw_self a)] at h1
      injection h1 with h1 h2
      subst h1
      have h3 : stb lt l t := fun x => by
        have h4 := h x
        rw [List.filter_cons, List.filter_cons] at h4
        cases hx : eqw lt x b <;> rw [hx] at h4 <;> simpa using h4
      rw [srt_one W l2 m2 h3]
theorem srt_app {l m : List α} : srt lt (l ++ m) ↔ srt lt l ∧ srt lt m ∧ ∀ x ∈ l, ∀ y ∈ m, lt y x = false := List.pairwise_append
/-- what is less may pass ahead -/
theorem stb_rot (W : Wk lt) {u v : List α} (h : ∀ x ∈ u, ∀ y ∈ v, lt y x = true) : stb lt (u ++ v) (v ++ u) := fun x => by
  rw [List.filter_append, List.filter_append]
  by_cases hu : u.filter (eqw lt x) = []
  · rw [hu]; simp
  · by_cases hv : v.filter (eqw lt x) = []
    · rw [hv]; simp
    · obtain ⟨a, ha⟩ := List.exists_mem_of_ne_nil _ hu
      obtain ⟨b, hb⟩ := List.exists_mem_of_ne_nil _ hv
      rw [List.mem_filter, eqw_iff] at ha hb
      have h1 := h a ha.1 b hb.1
      have h2 := W.ntr _ _ _ hb.2.2 ha.2.1
      rw [h1] at h2
      cases h2
/-- two merges side by side make one -/
theorem mrg_join (W : Wk lt) {u1 u2 v1 v2 w1 w2 : List α} (hu : srt lt (u1 ++ u2)) (hv : srt lt (v1 ++ v2)) (h12 : ∀ x ∈ u1, ∀ y ∈ v2, lt y x = false) (h21 : ∀ x ∈ u2, ∀ y ∈ v1, lt y x = true)
    (s1 : srt lt w1) (s2 : srt lt w2) (b1 : stb lt (u1 ++ v1) w1) (b2 : stb lt (u2 ++ v2) w2) : srt lt (w1 ++ w2) ∧ stb lt ((u1 ++ u2) ++ (v1 ++ v2)) (w1 ++ w2) := by
  obtain ⟨_, _, hu3⟩ := srt_app.1 hu
  obtain ⟨_, _, hv3⟩ := srt_app.1 hv
  constructor
  · refine srt_app.2 ⟨s1, s2, fun x hx y hy => ?_⟩
    rw [b1.mem W, List.mem_append] at hx
    rw [b2.mem W, List.mem_append] at hy
    rcases hx with hx | hx <;> rcases hy with hy | hy
    · exact hu3 x hx y hy
    · exact h12 x hx y hy
    · exact W.asym _ _ (h21 y hy x hx)
    · exact hv3 x hx y hy
  · refine stb.trans ?_ (b1.app b2)
    have h := ((stb.refl (lt := lt) u1).app (stb_rot W h21)).app (stb.refl (lt := lt) v2)
    simpa [List.append_assoc] using h
end
end Go.Proofs
