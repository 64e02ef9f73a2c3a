/- Plain laws of the chapter on scores: the order of results is strict and weak, merges, the only sorted arrangement, the first results. No program. Conditions: in each theorem. -/
import Derived.Test.YtglabjcjfjlkoaaGreatDoorSM4
set_option linter.unusedVariables false
set_option linter.unusedSimpArgs false
namespace Go.Proofs
open Go.V

/-! ### orders one behind another -/
section
variable {α β : Type}
def lexB (c d : α → α → Bool) (a b : α) : Bool := c a b || (!c b a && d a b)
theorem lex_wk {c d : α → α → Bool} (C : Wk c) (D : Wk d) : Wk (lexB c d) where
  asym a b h := by
    unfold lexB at h ⊢
    cases h1 : c a b with
    | true => rw [C.asym _ _ h1]; simp
    | false =>
      rw [h1] at h
      cases h2 : c b a with
      | true => rw [h2] at h; simp at h
      | false =>
        rw [h2] at h
        simp only [Bool.not_false, Bool.true_and, Bool.false_or] at h ⊢
        exact D.asym _ _ h
  ntr x y z h k := by
    unfold lexB at h k ⊢
    rw [Bool.or_eq_false_iff] at h k ⊢
    refine ⟨C.ntr _ _ _ h.1 k.1, ?_⟩
    cases h1 : c z x with
    | true => simp
    | false =>
      have h2 : c z y = false := C.ntr _ _ _ h1 h.1
      have h3 : c y x = false := C.ntr _ _ _ k.1 h1
      have h4 := h.2
      have h5 := k.2
      rw [h3] at h4
      rw [h2] at h5
      simp only [Bool.not_false, Bool.true_and] at h4 h5 ⊢
      exact D.ntr _ _ _ h4 h5
theorem pull_wk {c : β → β → Bool} (C : Wk c) (f : α → β) : Wk (fun a b => c (f a) (f b)) := ⟨fun _ _ h => C.asym _ _ h, fun _ _ _ h k => C.ntr _ _ _ h k⟩
theorem int_wk : Wk (fun a b : Int => decide (a < b)) := ⟨fun a b h => by simp at h ⊢; omega, fun a b c h k => by simp at h k ⊢; omega⟩
theorem gt_wk : Wk (fun a b : Int => decide (b < a)) := ⟨fun a b h => by simp at h ⊢; omega, fun a b c h k => by simp at h k ⊢; omega⟩
theorem pres_wk : Wk (fun a b : Bool => a && !b) := ⟨fun a b h => by revert h; cases a <;> cases b <;> simp, fun a b c h k => by revert h k; cases a <;> cases b <;> cases c <;> simp⟩
theorem slI : ∀ a : List UInt8, strLess a a = false
  | [] => rfl
  | a :: r => by simp [strLess, slI r]
theorem slT : ∀ {a b c : List UInt8}, strLess a b = true → strLess b c = true → strLess a c = true
  | _, [], _, h, _ => by simp [strLess] at h
  | [], _ :: _, [], _, h => by simp [strLess] at h
  | [], _ :: _, _ :: _, _, _ => by simp [strLess]
  | _ :: _, _ :: _, [], _, h => by simp [strLess] at h
  | a :: x, b :: y, c :: z, h, k => by
    simp only [strLess, Bool.or_eq_true, Bool.and_eq_true, decide_eq_true_eq, beq_iff_eq] at h k ⊢
    rcases h with h | ⟨rfl, h⟩ <;> rcases k with k | ⟨rfl, k⟩
    · exact .inl (UInt8.lt_trans h k)
    · exact .inl h
    · exact .inl k
    · exact .inr ⟨rfl, slT h k⟩
theorem slC : ∀ {a b : List UInt8}, strLess a b = false → a ≠ b → strLess b a = true
  | [], [], _, h => absurd rfl h
  | [], _ :: _, h, _ => by simp [strLess] at h
  | _ :: _, [], _, _ => by simp [strLess]
  | a :: x, b :: y, h, k => by
    simp only [strLess, Bool.or_eq_false_iff, Bool.and_eq_false_iff, decide_eq_false_iff_not, beq_eq_false_iff_ne] at h
    simp only [strLess, Bool.or_eq_true, Bool.and_eq_true, decide_eq_true_eq, beq_iff_eq]
    obtain ⟨h1, h2⟩ := h
    by_cases e : a = b
    · subst e
      rcases h2 with h2 | h2
      · exact absurd rfl h2
      · exact .inr ⟨rfl, slC h2 fun q => k (by rw [q])⟩
    · exact .inl (by
        have h3 : b ≤ a := UInt8.not_lt.1 h1
        exact UInt8.lt_of_le_of_ne h3 fun q => e q.symm)
theorem slA {a b : List UInt8} (h : strLess a b = true) : strLess b a = false := by
  cases q : strLess b a with
  | false => rfl
  | true => have := slT h q; rw [slI] at this; cases this
theorem str_wk : Wk strLess := ⟨fun a b h => slA h, fun a b c h k => by
  cases q : strLess a c with
  | false => rfl
  | true =>
    by_cases e : b = c
    · subst e; rw [h] at q; cases q
    · have h1 := slC k e
      rw [slT q h1] at h
      cases h⟩
end

/-! ### documents and results -/
structure Dc where
  id : Int
  repo : List UInt8
  path : List UInt8
  text : List UInt8
  on : List (List UInt8)
structure Rs where
  doc : Int
  sc : Int
  sp : List (Int × Int)
instance : Inhabited Rs := ⟨⟨0, 0, []⟩⟩
def getS (l : List Dc) (id : Int) : Option Dc := l.find? fun d => d.id == id
/-- a field of the document of a result, empty if there is none -/
def fldS (l : List Dc) (f : Dc → List UInt8) (r : Rs) : List UInt8 := ((getS l r.doc).map f).getD []
def lessR (l : List Dc) : Rs → Rs → Bool :=
  lexB (fun a b => (getS l a.doc).isSome && !(getS l b.doc).isSome) <| lexB (fun a b => decide (b.sc < a.sc)) <| lexB (fun a b => strLess (fldS l Dc.repo a) (fldS l Dc.repo b)) <|
  lexB (fun a b => strLess (fldS l Dc.path a) (fldS l Dc.path b)) <| lexB (fun a b => strLess (fldS l Dc.text a) (fldS l Dc.text b)) fun a b => decide (a.doc < b.doc)
theorem lessR_wk (l : List Dc) : Wk (lessR l) :=
  lex_wk (pull_wk pres_wk fun a : Rs => (getS l a.doc).isSome) <| lex_wk (pull_wk gt_wk Rs.sc) <| lex_wk (pull_wk str_wk (fldS l Dc.repo)) <|
  lex_wk (pull_wk str_wk (fldS l Dc.path)) <| lex_wk (pull_wk str_wk (fldS l Dc.text)) (pull_wk int_wk Rs.doc)

/-! ### merges -/
section
variable {α : Type} (lt : α → α → Bool)
def mrgS : List α → List α → List α
  | [], b => b
  | a :: x, [] => a :: x
  | a :: x, b :: y => if lt b a = true then b :: mrgS (a :: x) y else a :: mrgS x (b :: y)
termination_by a b => a.length + b.length
theorem mrg_nil_l (b : List α) : mrgS lt [] b = b := by rw [mrgS]
theorem mrg_nil_r (a : List α) : mrgS lt a [] = a := by
  cases a with
  | nil => rw [mrgS]
  | cons x r => rw [mrgS]
theorem mrg_cons (a : α) (x : List α) (b : α) (y : List α) : mrgS lt (a :: x) (b :: y) = if lt b a = true then b :: mrgS lt (a :: x) y else a :: mrgS lt x (b :: y) := by rw [mrgS]
variable {lt}
theorem mrg_len : ∀ (n : Nat) (a b : List α), a.length + b.length ≤ n → (mrgS lt a b).length = a.length + b.length
  | _, [], b, _ => by rw [mrg_nil_l]; simp
  | _, a :: x, [], _ => by rw [mrg_nil_r]; simp
  | 0, _ :: _, _ :: _, h => by simp at h
  | n + 1, a :: x, b :: y, h => by
    rw [mrg_cons]
    split
    · rw [List.length_cons, mrg_len n (a :: x) y (by simp at h ⊢; omega)]; simp; omega
    · rw [List.length_cons, mrg_len n x (b :: y) (by simp at h ⊢; omega)]; simp; omega
theorem mrg_stb (W : Wk lt) : ∀ (n : Nat) (a b : List α), a.length + b.length ≤ n → srt lt a → stb lt (a ++ b) (mrgS lt a b)
  | _, [], b, _, _ => by rw [mrg_nil_l]; exact stb.refl _
  | _, a :: x, [], _, _ => by rw [mrg_nil_r, List.append_nil]; exact stb.refl _
  | 0, _ :: _, _ :: _, h, _ => by simp at h
  | n + 1, a :: x, b :: y, h, sa => by
    rw [mrg_cons]
    split
    · rename_i hl
      have ih := mrg_stb W n (a :: x) y (by simp at h ⊢; omega) sa
      have h1 : ∀ z ∈ a :: x, lt b z = true := fun z hz => by
        rcases List.mem_cons.1 hz with rfl | hz
        · exact hl
        · exact W.lt_tr hl (sa.cons.1 z hz)
      have h2 := stb_rot W (u := a :: x) (v := [b]) fun p hp q hq => by
        rw [List.mem_singleton] at hq
        subst hq
        exact h1 p hp
      have h3 := (h2.app (stb.refl y)).trans (by
        have := (stb.refl (lt := lt) [b]).app ih
        simpa using this)
      simpa using h3
    · have ih := mrg_stb W n x (b :: y) (by simp at h ⊢; omega) sa.cons.2
      exact (stb.refl (lt := lt) [a]).app ih
theorem mrg_srt (W : Wk lt) : ∀ (n : Nat) (a b : List α), a.length + b.length ≤ n → srt lt a → srt lt b → srt lt (mrgS lt a b)
  | _, [], b, _, _, sb => by rw [mrg_nil_l]; exact sb
  | _, a :: x, [], _, sa, _ => by rw [mrg_nil_r]; exact sa
  | 0, _ :: _, _ :: _, h, _, _ => by simp at h
  | n + 1, a :: x, b :: y, h, sa, sb => by
    rw [mrg_cons]
    split
    · rename_i hl
      have ih := mrg_srt W n (a :: x) y (by simp at h ⊢; omega) sa sb.cons.2
      have ms := mrg_stb W n (a :: x) y (by simp at h ⊢; omega) sa
      refine List.pairwise_cons.2 ⟨fun z hz => ?_, ih⟩
      rw [ms.mem W, List.mem_append] at hz
      rcases hz with hz | hz
      · rcases List.mem_cons.1 hz with rfl | hz
        · exact W.asym _ _ hl
        · exact W.asym _ _ (W.lt_tr hl (sa.cons.1 z hz))
      · exact sb.cons.1 z hz
    · rename_i hl
      have hl : lt b a = false := by simpa using hl
      have ih := mrg_srt W n x (b :: y) (by simp at h ⊢; omega) sa.cons.2 sb
      have ms := mrg_stb W n x (b :: y) (by simp at h ⊢; omega) sa.cons.2
      refine List.pairwise_cons.2 ⟨fun z hz => ?_, ih⟩
      rw [ms.mem W, List.mem_append] at hz
      rcases hz with hz | hz
      · exact sa.cons.1 z hz
      · rcases List.mem_cons.1 hz with rfl | hz
        · exact hl
        · exact W.ntr _ _ _ (sb.cons.1 z hz) hl
/-- one by one, each merged into those before it -/
def insS (lt : α → α → Bool) : List α → List α → List α
  | s, [] => s
  | s, x :: r => insS lt (mrgS lt s [x]) r
theorem insS_ok (W : Wk lt) : ∀ (r s : List α), srt lt s → srt lt (insS lt s r) ∧ stb lt (s ++ r) (insS lt s r)
  | [], s, h => ⟨h, by simpa [insS] using stb.refl s⟩
  | x :: r, s, h => by
    rw [insS]
    have h1 := mrg_srt W _ s [x] (Nat.le_refl _) h (srt_single x)
    have h2 := mrg_stb W _ s [x] (Nat.le_refl _) h
    obtain ⟨i1, i2⟩ := insS_ok W r _ h1
    refine ⟨i1, stb.trans ?_ i2⟩
    have := h2.app (stb.refl r)
    simpa using this
theorem insS_len : ∀ (r s : List α), (insS lt s r).length = s.length + r.length
  | [], s => by simp [insS]
  | x :: r, s => by rw [insS, insS_len r, mrg_len _ _ _ (Nat.le_refl _)]; simp; omega
theorem mrg_take : ∀ (m n : Nat) (a b : List α), a.length + b.length ≤ m → (mrgS lt a b).take n = (mrgS lt (a.take n) (b.take n)).take n
  | _, 0, _, _, _ => by simp
  | _, n + 1, [], b, _ => by rw [List.take_nil, mrg_nil_l, mrg_nil_l, List.take_take, Nat.min_self]
  | _, n + 1, a :: x, [], _ => by rw [List.take_nil, mrg_nil_r, mrg_nil_r, List.take_take, Nat.min_self]
  | 0, n + 1, _ :: _, _ :: _, h => by simp at h
  | m + 1, n + 1, a :: x, b :: y, h => by
    have key : ∀ (k : Nat) (p q : List α), (mrgS lt p q).take k = (mrgS lt (p.take k) (q.take k)).take k → True := fun _ _ _ _ => trivial
    rw [List.take_succ_cons, List.take_succ_cons, mrg_cons, mrg_cons]
    split
    · rw [List.take_succ_cons, List.take_succ_cons]
      congr 1
      have e1 := mrg_take m n (a :: x) y (by simp at h ⊢; omega)
      have e2 := mrg_take m n (a :: x.take n) (y.take n) (by simp at h ⊢; omega)
      rw [e1, e2, List.take_take, Nat.min_self]
      cases n with
      | zero => simp
      | succ k => rw [List.take_succ_cons, List.take_succ_cons, List.take_take]; congr 3; rw [Nat.min_eq_left (by omega)]
    · rw [List.take_succ_cons, List.take_succ_cons]
      congr 1
      have e1 := mrg_take m n x (b :: y) (by simp at h ⊢; omega)
      have e2 := mrg_take m n (x.take n) (b :: y.take n) (by simp at h ⊢; omega)
      rw [e1, e2, List.take_take, Nat.min_self]
      cases n with
      | zero => simp
      | succ k => rw [List.take_succ_cons, List.take_succ_cons, List.take_take]; congr 3; rw [Nat.min_eq_left (by omega)]
variable [Inhabited α]
/-- the sort in place is the sort by merging -/
theorem sorts_one (W : Wk lt) (r : List α) : stS lt r = insS lt [] r := by
  obtain ⟨h1, h2⟩ := stS_ok W r
  obtain ⟨h3, h4⟩ := insS_ok W r [] List.Pairwise.nil
  exact srt_one W h3 h1 fun x => (h2 x).trans (h4 x).symm
theorem sorts_merge (W : Wk lt) (a b : List α) : mrgS lt (stS lt a) (stS lt b) = stS lt (stS lt a ++ stS lt b) := by
  obtain ⟨h1, _⟩ := stS_ok W a
  obtain ⟨h3, _⟩ := stS_ok W b
  obtain ⟨h5, h6⟩ := stS_ok W (stS lt a ++ stS lt b)
  have h7 := mrg_srt W _ _ _ (Nat.le_refl _) h1 h3
  have h8 := mrg_stb W _ (stS lt a) (stS lt b) (Nat.le_refl _) h1
  exact srt_one W h5 h7 fun x => (h8 x).trans (h6 x).symm
theorem sorts_again (W : Wk lt) (r : List α) : stS lt (stS lt r) = stS lt r := by
  obtain ⟨h1, _⟩ := stS_ok W r
  obtain ⟨h3, h4⟩ := stS_ok W (stS lt r)
  exact srt_one W h1 h3 h4
end
/-- how often there is what equals x in more than the order -/
theorem count_stb {α : Type} {lt : α → α → Bool} {l m : List α} (h : stb lt l m) {x : α} {p : α → Bool} (hp : ∀ y, p y = true → eqw lt x y = true) : (m.filter p).length = (l.filter p).length := by
  have e : ∀ n : List α, n.filter p = (n.filter (eqw lt x)).filter p := fun n => by
    rw [List.filter_filter]
    apply List.filter_congr
    intro y _
    cases q : p y with
    | false => simp
    | true => rw [hp y q]; rfl
  rw [e m, e l, h]
end Go.Proofs
