/- Plain laws: putting into a list in order; the names below and inside. -/
import Derived.Test.YtlngaccdjnmgeaaGreatDoorGE1
import Derived.Test.YtlngaccdjnmgeaaGreatDoorGB5
set_option linter.unusedVariables false
set_option linter.unusedSimpArgs false
namespace Go.Proofs
open Go.V Go.RowKit

section
variable {α : Type} {ge gt : α → Bool} {s : α}
def putR (ge gt : α → Bool) (s : α) : List α → List α
  | [] => [s]
  | x :: t => if ge x then (if gt x then s :: x :: t else x :: t) else x :: putR ge gt s t
theorem put_done (l : List α) : ∀ o, l.foldl (putStep ge gt s) (o, true) = (o ++ l, true) := by
  induction l with
  | nil => intro o; simp
  | cons x t ih =>
    intro o
    rw [List.foldl_cons]
    have : putStep ge gt s (o, true) x = (o ++ [x], true) := by simp [putStep]
    rw [this, ih]
    simp
theorem put_open (l : List α) : ∀ o, (if (l.foldl (putStep ge gt s) (o, false)).2 then (l.foldl (putStep ge gt s) (o, false)).1 else (l.foldl (putStep ge gt s) (o, false)).1 ++ [s]) = o ++ putR ge gt s l := by
  induction l with
  | nil => intro o; simp [putR]
  | cons x t ih =>
    intro o
    rw [List.foldl_cons]
    cases h : ge x with
    | false =>
      have : putStep ge gt s (o, false) x = (o ++ [x], false) := by simp [putStep, h]
      rw [this, ih]
      simp [putR, h]
    | true =>
      cases h2 : gt x with
      | false =>
        have : putStep ge gt s (o, false) x = (o ++ [x], true) := by simp [putStep, h, h2]
        rw [this, put_done]
        simp [putR, h, h2]
      | true =>
        have : putStep ge gt s (o, false) x = (o ++ [s] ++ [x], true) := by simp [putStep, h, h2]
        rw [this, put_done]
        simp [putR, h, h2]
theorem putL_eq (l : List α) : putL ge gt s l = putR ge gt s l := by
  have := put_open (ge := ge) (gt := gt) (s := s) l []
  rw [List.nil_append] at this
  exact this
theorem putR_mem (heq : ∀ x, ge x = true → gt x = false → x = s) {x : α} : ∀ l : List α, x ∈ putR ge gt s l ↔ x = s ∨ x ∈ l
  | [] => by simp [putR]
  | y :: t => by
    unfold putR
    cases h : ge y with
    | false => simp [putR_mem heq t]; constructor <;> rintro (h | h | h) <;> simp [h]
    | true =>
      cases h2 : gt y with
      | true => simp
      | false =>
        have := heq y h h2
        subst this
        simp
end

theorem strLess_irrefl : ∀ a : List UInt8, strLess a a = false
  | [] => rfl
  | x :: a => by simp [strLess, strLess_irrefl a]
theorem strLess_trans : ∀ {a b c : List UInt8}, strLess a b = true → strLess b c = true → strLess a c = true
  | a, [], _, h1, _ => by cases a <;> simp [strLess] at h1
  | _, y :: b, [], _, h2 => by simp [strLess] at h2
  | [], _ :: _, _ :: _, _, _ => rfl
  | x :: a, y :: b, z :: c, h1, h2 => by
    simp only [strLess, Bool.or_eq_true, Bool.and_eq_true, decide_eq_true_eq, beq_iff_eq] at *
    rcases h1 with h1 | ⟨rfl, h1⟩
    · rcases h2 with h2 | ⟨rfl, h2⟩
      · exact .inl (UInt8.lt_trans h1 h2)
      · exact .inl h1
    · rcases h2 with h2 | ⟨rfl, h2⟩
      · exact .inl h2
      · exact .inr ⟨rfl, strLess_trans h1 h2⟩
theorem strLess_tri : ∀ {a b : List UInt8}, strLess a b = false → a ≠ b → strLess b a = true
  | [], [], _, h2 => absurd rfl h2
  | [], _ :: _, h1, _ => by simp [strLess] at h1
  | _ :: _, [], _, _ => rfl
  | x :: a, y :: b, h1, h2 => by
    simp only [strLess, Bool.or_eq_false_iff, decide_eq_false_iff_not, Bool.and_eq_false_imp, beq_iff_eq] at h1
    simp only [strLess, Bool.or_eq_true, Bool.and_eq_true, decide_eq_true_eq, beq_iff_eq]
    by_cases e : x = y
    · subst e
      exact .inr ⟨rfl, strLess_tri (h1.2 rfl) fun e => h2 (by rw [e])⟩
    · refine .inl ?_
      rcases UInt8.lt_or_lt_of_ne e with h | h
      · exact absurd h h1.1
      · exact h

/-- a name put into a list of names in order -/
def putT (s : Nm) (l : List Nm) : List Nm := putL (fun x => !strLess x s) (fun x => !(strLess x s || x == s)) s l
def putI (n : Int) (l : List Int) : List Int := putL (fun x => decide (x ≥ n)) (fun x => decide (x > n)) n l
theorem putT_mem {s x : Nm} {l : List Nm} : x ∈ putT s l ↔ x = s ∨ x ∈ l := by
  rw [putT, putL_eq, putR_mem]
  intro x h1 h2
  simp only [Bool.not_eq_true', Bool.not_eq_false', Bool.or_eq_true, beq_iff_eq] at h1 h2
  rcases h2 with h2 | h2
  · rw [h1] at h2; cases h2
  · exact h2
theorem putI_mem {s x : Int} {l : List Int} : x ∈ putI s l ↔ x = s ∨ x ∈ l := by
  rw [putI, putL_eq, putR_mem]
  intro x h1 h2
  simp at h1 h2
  omega
theorem putT_sorted {s : Nm} : ∀ {l : List Nm}, l.Pairwise (fun a b => strLess a b = true) → (putT s l).Pairwise (fun a b => strLess a b = true) := by
  intro l
  unfold putT
  rw [putL_eq]
  induction l with
  | nil => intro _; simp [putR]
  | cons x t ih =>
    intro h
    rw [List.pairwise_cons] at h
    unfold putR
    cases h1 : strLess x s with
    | true =>
      simp only [Bool.not_true, Bool.false_eq_true, if_false]
      rw [List.pairwise_cons]
      refine ⟨fun y hy => ?_, ih h.2⟩
      have : y ∈ putT s t := by rw [putT, putL_eq]; exact hy
      rcases putT_mem.1 this with rfl | hy'
      · exact h1
      · exact h.1 y hy'
    | false =>
      simp only [Bool.not_false, if_true, Bool.false_or]
      by_cases e : x = s
      · subst e
        simp only [beq_self_eq_true, Bool.not_true, Bool.false_eq_true, if_false, List.pairwise_cons]
        exact h
      · have h2 := strLess_tri h1 e
        have e' : (x == s) = false := by simp [e]
        simp only [e', Bool.not_false, if_true]
        rw [List.pairwise_cons, List.pairwise_cons]
        refine ⟨fun y hy => ?_, h.1, h.2⟩
        rcases List.mem_cons.1 hy with rfl | hy
        · exact h2
        · exact strLess_trans h2 (h.1 y hy)
/-- names in order, all of them names that groups name -/
structure SK (l : List Gp) (f : List Nm) : Prop where
  st : f.Pairwise (fun a b => strLess a b = true)
  sub : ∀ x ∈ f, x ∈ allN l
theorem SK.len {l : List Gp} {f : List Nm} (h : SK l f) : f.length ≤ (allN l).length :=
  nodup_len _ _ (h.st.imp fun {a b} hab e => by subst e; rw [strLess_irrefl] at hab; cases hab) h.sub
theorem SK.nil (l : List Gp) : SK l [] := ⟨.nil, by simp⟩
theorem SK.put {l : List Gp} {f : List Nm} {s : Nm} (h : SK l f) (hs : s ∈ allN l) : SK l (putT s f) :=
  ⟨putT_sorted h.st, fun x hx => by 
    rcases putT_mem.1 hx with rfl | hx
    · exact hs
    · exact h.sub x hx⟩
def putAll (ks : List Nm) (o : List Nm) : List Nm := ks.foldl (fun o g => putT g o) o
theorem SK.all {l : List Gp} {f : List Nm} : ∀ {ks : List Nm}, SK l f → (∀ x ∈ ks, x ∈ allN l) → SK l (putAll ks f) := by
  intro ks
  unfold putAll
  induction ks generalizing f with
  | nil => intro h _; exact h
  | cons x t ih => intro h hx; exact ih (h.put (hx x (by simp))) fun y hy => hx y (by simp [hy])
theorem putAll_mem {x : Nm} : ∀ {ks o : List Nm}, x ∈ putAll ks o ↔ x ∈ o ∨ x ∈ ks := by
  intro ks
  unfold putAll
  induction ks with
  | nil => intro o; simp
  | cons y t ih =>
    intro o
    rw [List.foldl_cons, ih, putT_mem]
    simp only [List.mem_cons]
    constructor
    · rintro ((h | h) | h) <;> simp [h]
    · rintro (h | h | h) <;> simp [h]
theorem putAll_take {ks o : List Nm} {j : Nat} (h : j < ks.length) : putAll (ks.take (j + 1)) o = putT ks[j] (putAll (ks.take j) o) := by
  rw [take_succ h, putAll, List.foldl_append]; rfl
def belowL (l : List Gp) (ns o : List Nm) : List Nm := ns.foldl (fun o n => putAll (kidsS l n) o) o
theorem belowL_take {l : List Gp} {ns o : List Nm} {j : Nat} (h : j < ns.length) : belowL l (ns.take (j + 1)) o = putAll (kidsS l ns[j]) (belowL l (ns.take j) o) := by
  rw [take_succ h, belowL, List.foldl_append]; rfl
theorem SK.belowL {l : List Gp} {f : List Nm} : ∀ {ns : List Nm}, SK l f → SK l (belowL l ns f) := by
  intro ns
  unfold Go.Proofs.belowL
  induction ns generalizing f with
  | nil => intro h; exact h
  | cons x t ih => intro h; exact ih (h.all fun y hy => kids_mem hy)
theorem belowL_mem {l : List Gp} {x : Nm} : ∀ {ns o : List Nm}, x ∈ belowL l ns o ↔ x ∈ o ∨ ∃ n ∈ ns, x ∈ kidsS l n := by
  intro ns
  unfold belowL
  induction ns with
  | nil => intro o; simp
  | cons y t ih =>
    intro o
    rw [List.foldl_cons, ih, putAll_mem]
    simp only [List.mem_cons]
    constructor
    · rintro ((h | h) | ⟨n, h1, h2⟩)
      · exact .inl h
      · exact .inr ⟨y, .inl rfl, h⟩
      · exact .inr ⟨n, .inr h1, h2⟩
    · rintro (h | ⟨n, rfl | h1, h2⟩)
      · exact .inl (.inl h)
      · exact .inl (.inr h2)
      · exact .inr ⟨n, h1, h2⟩
def belowS (l : List Gp) (ns : List Nm) : List Nm := belowL l ns ns
def insideN (l : List Gp) (name : Nm) : Nat → List Nm
  | 0 => putAll (kidsS l name) []
  | n + 1 => belowS l (insideN l name n)
def insideS (l : List Gp) (name : Nm) : List Nm := insideN l name l.length
theorem insideN_ok (l : List Gp) (name : Nm) : ∀ n, SK l (insideN l name n)
  | 0 => (SK.nil l).all fun y hy => kids_mem hy
  | n + 1 => (insideN_ok l name n).belowL
theorem belowS_mem {l : List Gp} {x : Nm} {f : List Nm} : x ∈ belowS l f ↔ x ∈ f ∨ ∃ n ∈ f, x ∈ kidsS l n := belowL_mem
/-- the first group that has a name -/
theorem at_cases (l : List Gp) (name : Nm) : (idxS (fun g => g.name == name) l = -1 ∧ findS l name = none) ∨ ∃ k, ∃ h : k < l.length, idxS (fun g => g.name == name) l = (k : Int) ∧ findS l name = some l[k] := by
  unfold idxS
  cases h : l.any (fun g => g.name == name) with
  | false => exact .inl ⟨rfl, find_none h⟩
  | true =>
    refine .inr ⟨l.findIdx (fun g => g.name == name), ?_, by simp, ?_⟩
    · rw [List.any_eq_true] at h
      obtain ⟨x, hx, hp⟩ := h
      exact List.findIdx_lt_length_of_exists (p := fun g : Gp => g.name == name) ⟨x, hx, hp⟩
    · rw [List.any_eq_true] at h
      obtain ⟨x, hx, hp⟩ := h
      have hl := List.findIdx_lt_length_of_exists (p := fun g : Gp => g.name == name) ⟨x, hx, hp⟩
      unfold findS
      rw [List.find?_eq_some_iff_getElem]
      exact ⟨List.findIdx_getElem (w := hl), _, hl, rfl, fun j hj => by have := List.not_of_lt_findIdx hj; simpa using this⟩
end Go.Proofs
