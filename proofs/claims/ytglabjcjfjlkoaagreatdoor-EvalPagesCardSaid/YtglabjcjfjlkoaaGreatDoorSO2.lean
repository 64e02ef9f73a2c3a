/- Plain laws of the chapter on scores: the code's comparison and the document's order are one. No program. Conditions: none. -/
import Derived.Test.YtglabjcjfjlkoaaGreatDoorSO1
set_option linter.unusedVariables false
set_option linter.unusedSimpArgs false
namespace Go.Proofs
open Go.V

section
variable {α : Type} {c d : α → α → Bool} {a b : α}
theorem lex_e (h : c a b = false) (k : c b a = false) : lexB c d a b = d a b := by unfold lexB; rw [h, k]; simp
theorem lex_t (h : c a b = true) : lexB c d a b = true := by unfold lexB; rw [h]; simp
theorem lex_f (h : c a b = false) (k : c b a = true) : lexB c d a b = false := by unfold lexB; rw [h, k]; simp
end
def cmpI (a b : Int) : Int := if a < b then -1 else if b < a then 1 else 0
def cmpB (a b : List UInt8) : Int := if strLess a b = true then -1 else if (a == b) = true then 0 else 1
def orL : List Int → Int
  | [] => 0
  | x :: r => if (x != 0) = true then x else orL r
theorem orL_ne {x : Int} {r : List Int} (h : x ≠ 0) : orL (x :: r) = x := by rw [orL, if_pos (by simpa using h)]
theorem orL_eq {r : List Int} : orL (0 :: r) = orL r := by rw [orL, if_neg (by simp)]
def cmpR (l : List Dc) (a b : Rs) : Int :=
  if ((getS l a.doc).isSome != (getS l b.doc).isSome) = true then (if (getS l a.doc).isSome = true then -1 else 1)
  else orL [if ((getS l a.doc).isSome && (cmpI b.sc a.sc == 0)) = true then orL [cmpB (fldS l Dc.repo a) (fldS l Dc.repo b), cmpB (fldS l Dc.path a) (fldS l Dc.path b), cmpB (fldS l Dc.text a) (fldS l Dc.text b)] else cmpI b.sc a.sc, cmpI a.doc b.doc]
theorem cmpB_cases (a b : List UInt8) : (cmpB a b = -1 ∧ strLess a b = true ∧ strLess b a = false) ∨ (cmpB a b = 0 ∧ a = b) ∨ (cmpB a b = 1 ∧ strLess a b = false ∧ strLess b a = true) := by
  unfold cmpB
  by_cases h : strLess a b = true
  · exact .inl ⟨if_pos h, h, slA h⟩
  · rw [if_neg h]
    by_cases e : a = b
    · exact .inr (.inl ⟨if_pos (by simpa using e), e⟩)
    · exact .inr (.inr ⟨if_neg (by simpa using e), by simpa using h, slC (by simpa using h) e⟩)
theorem cmpI_cases (a b : Int) : (cmpI a b = -1 ∧ a < b) ∨ (cmpI a b = 0 ∧ a = b) ∨ (cmpI a b = 1 ∧ b < a) := by
  unfold cmpI
  by_cases h : a < b
  · exact .inl ⟨if_pos h, h⟩
  · rw [if_neg h]
    by_cases k : b < a
    · exact .inr (.inr ⟨if_pos k, k⟩)
    · exact .inr (.inl ⟨if_neg k, by omega⟩)
/-- strings of one field decide, or the next -/
theorem cmpB_step {l : List Dc} {f : Dc → List UInt8} {a b : Rs} {d : Rs → Rs → Bool} {r : List Int} (h : decide (orL r < 0) = d a b) :
    decide (orL (cmpB (fldS l f a) (fldS l f b) :: r) < 0) = lexB (fun a b => strLess (fldS l f a) (fldS l f b)) d a b := by
  rcases cmpB_cases (fldS l f a) (fldS l f b) with ⟨e, h1, h2⟩ | ⟨e, h1⟩ | ⟨e, h1, h2⟩
  · rw [e, orL_ne (by decide), lex_t (c := fun a b => strLess (fldS l f a) (fldS l f b)) h1]; rfl
  · rw [e, orL_eq, h, lex_e (by simp only [h1, slI]) (by simp only [h1, slI])]
  · rw [e, orL_ne (by decide), lex_f (c := fun a b => strLess (fldS l f a) (fldS l f b)) h1 h2]; rfl
theorem orL_app (r s : List Int) : orL (orL r :: s) = orL (r ++ s) := by
  induction r with
  | nil => rw [orL, orL_eq, List.nil_append]
  | cons x r ih =>
    by_cases h : x = 0
    · subst h
      rw [orL_eq, List.cons_append, orL_eq, ih]
    · rw [orL_ne h, orL_ne h, List.cons_append, orL_ne h]
theorem cmpR_less (l : List Dc) (a b : Rs) : decide (cmpR l a b < 0) = lessR l a b := by
  have hdoc : decide (orL [cmpI a.doc b.doc] < 0) = decide (a.doc < b.doc) := by
    rcases cmpI_cases a.doc b.doc with ⟨e, h⟩ | ⟨e, h⟩ | ⟨e, h⟩
    · rw [e, orL_ne (by decide)]; simp [h]
    · rw [e, orL_eq, h]; simp [orL]
    · rw [e, orL_ne (by decide)]
      have : ¬ a.doc < b.doc := by omega
      simp [this]
  unfold cmpR lessR
  cases ha : (getS l a.doc).isSome <;> cases hb : (getS l b.doc).isSome
  · rw [lex_e (by simp [ha]) (by simp [hb])]
    simp only [bne_self_eq_false, Bool.false_eq_true, if_false, Bool.false_and]
    have fe : ∀ f : Dc → List UInt8, fldS l f a = fldS l f b := fun f => by
      unfold fldS
      rw [Option.isSome_eq_false_iff, Option.isNone_iff_eq_none] at ha hb
      rw [ha, hb]
    have hr : lexB (fun a b => strLess (fldS l Dc.repo a) (fldS l Dc.repo b)) (lexB (fun a b => strLess (fldS l Dc.path a) (fldS l Dc.path b)) (lexB (fun a b => strLess (fldS l Dc.text a) (fldS l Dc.text b)) fun a b => decide (a.doc < b.doc))) a b = decide (a.doc < b.doc) := by
      rw [lex_e (by simp only [fe, slI]) (by simp only [fe, slI]), lex_e (by simp only [fe, slI]) (by simp only [fe, slI]), lex_e (by simp only [fe, slI]) (by simp only [fe, slI])]
    rcases cmpI_cases b.sc a.sc with ⟨e, h⟩ | ⟨e, h⟩ | ⟨e, h⟩
    · rw [e, orL_ne (by decide), lex_t (by simpa using h)]; rfl
    · rw [e, orL_eq, lex_e (by simp; omega) (by simp; omega), hr]; exact hdoc
    · have h' : ¬ b.sc < a.sc := by omega
      rw [e, orL_ne (by decide), lex_f (by simpa using h') (by simpa using h)]; rfl
  · rw [lex_f (by simp [ha]) (by simp [ha, hb])]; rfl
  · rw [lex_t (by simp [ha, hb])]; rfl
  · rw [lex_e (by simp [hb]) (by simp [ha])]
    simp only [bne_self_eq_false, Bool.false_eq_true, if_false, Bool.true_and, beq_iff_eq]
    rcases cmpI_cases b.sc a.sc with ⟨e, h⟩ | ⟨e, h⟩ | ⟨e, h⟩
    · rw [e, if_neg (by decide), orL_ne (by decide), lex_t (by simpa using h)]; rfl
    · rw [e, if_pos rfl, orL_app, lex_e (by simp; omega) (by simp; omega)]
      exact cmpB_step (cmpB_step (cmpB_step hdoc))
    · have h' : ¬ b.sc < a.sc := by omega
      rw [e, if_neg (by decide), orL_ne (by decide), lex_f (by simpa using h') (by simpa using h)]; rfl
/-- the document's order, step by step -/
def lessQ (l : List Dc) (a b : Rs) : Bool :=
  if ((getS l a.doc).isSome != (getS l b.doc).isSome) = true then (getS l a.doc).isSome
  else if (a.sc != b.sc) = true then decide (b.sc < a.sc)
  else if ((getS l a.doc).isSome && !(fldS l Dc.repo a == fldS l Dc.repo b)) = true then strLess (fldS l Dc.repo a) (fldS l Dc.repo b)
  else if ((getS l a.doc).isSome && !(fldS l Dc.path a == fldS l Dc.path b)) = true then strLess (fldS l Dc.path a) (fldS l Dc.path b)
  else if ((getS l a.doc).isSome && !(fldS l Dc.text a == fldS l Dc.text b)) = true then strLess (fldS l Dc.text a) (fldS l Dc.text b)
  else decide (a.doc < b.doc)
theorem lessQ_step {l : List Dc} {f : Dc → List UInt8} {a b : Rs} {d : Rs → Rs → Bool} {x : Bool} (hs : (getS l a.doc).isSome = (getS l b.doc).isSome) (h : x = d a b) :
    (if ((getS l a.doc).isSome && !(fldS l f a == fldS l f b)) = true then strLess (fldS l f a) (fldS l f b) else x) = lexB (fun a b => strLess (fldS l f a) (fldS l f b)) d a b := by
  by_cases e : fldS l f a = fldS l f b
  · rw [if_neg (by simp [e]), lex_e (by simp only [e, slI]) (by simp only [e, slI])]; exact h
  · have hp : (getS l a.doc).isSome = true := by
      cases q : (getS l a.doc).isSome with
      | true => rfl
      | false =>
        exfalso
        apply e
        rw [q] at hs
        have hb := hs.symm
        unfold fldS
        rw [Option.isSome_eq_false_iff, Option.isNone_iff_eq_none] at q hb
        rw [q, hb]
    rw [if_pos (by simp [hp, e])]
    cases q : strLess (fldS l f a) (fldS l f b) with
    | true => rw [lex_t (c := fun a b => strLess (fldS l f a) (fldS l f b)) q]
    | false => rw [lex_f (c := fun a b => strLess (fldS l f a) (fldS l f b)) q (slC q e)]
theorem lessQ_eq (l : List Dc) (a b : Rs) : lessQ l a b = lessR l a b := by
  unfold lessQ lessR
  by_cases hs : (getS l a.doc).isSome = (getS l b.doc).isSome
  · rw [if_neg (by simp [hs]), lex_e (by rw [hs]; simp) (by rw [hs]; simp)]
    by_cases e : a.sc = b.sc
    · rw [if_neg (by simp [e]), lex_e (by simp; omega) (by simp; omega)]
      exact lessQ_step hs (lessQ_step hs (lessQ_step hs rfl))
    · rw [if_pos (by simpa using e)]
      by_cases h : b.sc < a.sc
      · rw [lex_t (by simpa using h)]; simpa using h
      · have h2 : a.sc < b.sc := by omega
        rw [lex_f (by simpa using h) (by simpa using h2)]; simpa using h
  · rw [if_pos (by simpa using hs)]
    cases ha : (getS l a.doc).isSome with
    | true =>
      have hb : (getS l b.doc).isSome = false := by rw [ha] at hs; cases q : (getS l b.doc).isSome <;> simp_all
      rw [lex_t (by simp [ha, hb])]
    | false =>
      have hb : (getS l b.doc).isSome = true := by rw [ha] at hs; cases q : (getS l b.doc).isSome <;> simp_all
      rw [lex_f (by simp [ha]) (by simp [ha, hb])]
end Go.Proofs
