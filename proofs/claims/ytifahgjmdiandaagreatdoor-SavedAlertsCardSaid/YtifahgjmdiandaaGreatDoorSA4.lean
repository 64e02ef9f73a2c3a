/- Plain laws: lists of strings in order; sorted lists of keys, each once. -/
import Derived.Test.YtifahgjmdiandaaGreatDoorSA3
set_option linter.unusedVariables false
set_option linter.unusedSimpArgs false
namespace Go.Proofs
open Go.V Go.RowKit

def ltL : List (List UInt8) → List (List UInt8) → Bool
  | x :: r, y :: s => strLess x y || ((x == y) && ltL r s)
  | _, _ => false
theorem ltL_irrefl : ∀ a, ltL a a = false
  | [] => rfl
  | x :: r => by simp [ltL, sl_irrefl, ltL_irrefl r]
theorem ltL_trans : ∀ {a b c : List (List UInt8)}, ltL a b = true → ltL b c = true → ltL a c = true
  | [], _, _, h, _ => by simp [ltL] at h
  | _ :: _, [], _, h, _ => by simp [ltL] at h
  | _ :: _, _ :: _, [], _, h => by simp [ltL] at h
  | x :: a, y :: b, z :: c, h, k => by
    simp only [ltL, Bool.or_eq_true, Bool.and_eq_true, beq_iff_eq] at h k ⊢
    rcases h with h | ⟨rfl, h⟩ <;> rcases k with k | ⟨rfl, k⟩
    · exact .inl (sl_trans h k)
    · exact .inl h
    · exact .inl k
    · exact .inr ⟨rfl, ltL_trans h k⟩
theorem ltL_tri : ∀ {a b : List (List UInt8)}, a.length = b.length → ltL a b = false → a ≠ b → ltL b a = true
  | [], [], _, _, h => absurd rfl h
  | [], _ :: _, h, _, _ => by simp at h
  | _ :: _, [], h, _, _ => by simp at h
  | x :: a, y :: b, hl, h, hn => by
    simp only [ltL, Bool.or_eq_false_iff, Bool.and_eq_false_iff, beq_eq_false_iff_ne] at h
    simp only [ltL, Bool.or_eq_true, Bool.and_eq_true, beq_iff_eq]
    obtain ⟨h1, h2⟩ := h
    by_cases e : x = y
    · subst e
      rcases h2 with h2 | h2
      · exact absurd rfl h2
      · exact .inr ⟨rfl, ltL_tri (by simpa using hl) h2 fun q => hn (by rw [q])⟩
    · exact .inl (sl_tri h1 e)
theorem ltL_asym {a b : List (List UInt8)} (h : ltL a b = true) : ltL b a = false := by
  cases q : ltL b a with
  | false => rfl
  | true => have := ltL_trans h q; rw [ltL_irrefl] at this; cases this
def ordL (a b : List (List UInt8)) : Int := orI (List.zipWith cmpS a b)
theorem ordL_neg : ∀ {a b : List (List UInt8)}, a.length = b.length → (ordL a b < 0 ↔ ltL a b = true)
  | [], [], _ => by simp [ordL, orI, ltL]
  | [], _ :: _, h => by simp at h
  | _ :: _, [], h => by simp at h
  | x :: a, y :: b, h => by
    have ih := ordL_neg (a := a) (b := b) (by simpa using h)
    simp only [ordL, List.zipWith_cons_cons, orI, ltL, Bool.or_eq_true, Bool.and_eq_true, beq_iff_eq] at ih ⊢
    split
    · rename_i hc
      rw [cmpS_neg]
      constructor
      · exact .inl
      · rintro (h | ⟨rfl, _⟩)
        · exact h
        · have : cmpS x x = 0 := cmpS_zero.2 rfl
          rw [this] at hc; simp at hc
    · rename_i hc
      have hz : cmpS x y = 0 := by simpa using hc
      have hxy := cmpS_zero.1 hz
      subst hxy
      rw [ih]
      simp [sl_irrefl]
theorem ordL_zero : ∀ {a b : List (List UInt8)}, a.length = b.length → (ordL a b = 0 ↔ a = b)
  | [], [], _ => by simp [ordL, orI]
  | [], _ :: _, h => by simp at h
  | _ :: _, [], h => by simp at h
  | x :: a, y :: b, h => by
    have ih := ordL_zero (a := a) (b := b) (by simpa using h)
    simp only [ordL, List.zipWith_cons_cons, orI] at ih ⊢
    split
    · rename_i hc
      constructor
      · intro h; rw [h] at hc; simp at hc
      · intro h
        have hxy : x = y := by injection h
        rw [cmpS_zero.2 hxy] at hc; simp at hc
    · rename_i hc
      have hz : cmpS x y = 0 := by simpa using hc
      have hxy := cmpS_zero.1 hz
      subst hxy
      rw [ih]
      simp
def fK (k : Ky) : List (List UInt8) := [k.repo, k.path, k.text]
def fA (k : Al) : List (List UInt8) := [k.repo, k.path]
theorem fK_inj {a b : Ky} (h : fK a = fK b) : a = b := by
  cases a; cases b
  simp only [fK, List.cons.injEq, and_true] at h
  obtain ⟨rfl, rfl, rfl⟩ := h; rfl
theorem ordK_eq (a b : Ky) : ordK a b = ordL (fK a) (fK b) := rfl
theorem ordA_eq (a b : Al) : ordA a b = ordL (fA a) (fA b) := rfl
def ltK (a b : Ky) : Bool := ltL (fK a) (fK b)
def ltA (a b : Al) : Bool := ltL (fA a) (fA b)
theorem ltOf_K (a b : Ky) : ltOf ordK a b = ltK a b := by
  rw [ltOf, ordK_eq, ltK]
  have := ordL_neg (a := fK a) (b := fK b) rfl
  cases h : ltL (fK a) (fK b) <;> simp [h] at this <;> simp <;> omega
theorem ltOf_A (a b : Al) : ltOf ordA a b = ltA a b := by
  rw [ltOf, ordA_eq, ltA]
  have := ordL_neg (a := fA a) (b := fA b) rfl
  cases h : ltL (fA a) (fA b) <;> simp [h] at this <;> simp <;> omega
theorem swo_of {α : Type} {f : α → List (List UInt8)} {n : Nat} (hn : ∀ x, (f x).length = n) : Go.Sort.SWO (fun x y => ltL (f x) (f y)) where
  irrefl x := ltL_irrefl _
  trans x y z h k := ltL_trans h k
  ntrans x y z h k := by
    cases q : ltL (f x) (f z) with
    | false => rfl
    | true =>
      exfalso
      by_cases e1 : f x = f y
      · rw [e1, k] at q; cases q
      · have h1 := ltL_tri (by rw [hn, hn]) h e1
        have h2 := ltL_trans h1 q
        rw [k] at h2; cases h2
theorem swoK : Go.Sort.SWO (ltOf ordK) := by
  have : ltOf ordK = fun x y => ltL (fK x) (fK y) := by funext x y; exact ltOf_K x y
  rw [this]; exact swo_of (n := 3) fun _ => rfl
theorem swoA : Go.Sort.SWO (ltOf ordA) := by
  have : ltOf ordA = fun x y => ltL (fA x) (fA y) := by funext x y; exact ltOf_A x y
  rw [this]; exact swo_of (n := 2) fun _ => rfl

/-! ### sorting -/
section
variable {α : Type} (lt : α → α → Bool)
def insL (x : α) : List α → List α
  | [] => [x]
  | y :: r => if lt y x = true then y :: insL x r else x :: y :: r
def isort : List α → List α
  | [] => []
  | x :: r => insL lt x (isort r)
theorem insL_perm (x : α) : ∀ l : List α, (insL lt x l).Perm (x :: l)
  | [] => .refl _
  | y :: r => by
    rw [insL]
    split
    · exact ((insL_perm x r).cons y).trans (.swap x y r)
    · exact .refl _
theorem isort_perm : ∀ l : List α, (isort lt l).Perm l
  | [] => .refl _
  | x :: r => (insL_perm lt x _).trans ((isort_perm r).cons x)
end
/-- two arrangements in order, of which equals are one, are one -/
theorem sorted_one {α : Type} {lt : α → α → Bool} : ∀ {l m : List α}, l.Perm m → l.Pairwise (fun x y => lt y x = false) → m.Pairwise (fun x y => lt y x = false) → (∀ x ∈ l, ∀ y ∈ l, lt x y = false → lt y x = false → x = y) → l = m
  | [], m, h, _, _, _ => by rw [List.nil_perm] at h; exact h.symm
  | x :: l, [], h, _, _, _ => by simp at h
  | x :: l, y :: m, h, hl, hm, ht => by
    rw [List.pairwise_cons] at hl hm
    have hxy : x = y := by
      have hx : x ∈ y :: m := h.subset (by simp)
      have hy : y ∈ x :: l := h.symm.subset (by simp)
      rcases List.mem_cons.1 hx with rfl | hx
      · rfl
      rcases List.mem_cons.1 hy with rfl | hy
      · rfl
      exact ht x (by simp) y (by simp [hy]) (hm.1 x hx) (hl.1 y hy)
    subst hxy
    rw [sorted_one (List.perm_cons _ |>.1 h) hl.2 hm.2 fun a ha b hb => ht a (by simp [ha]) b (by simp [hb])]
theorem isort_sorted {α : Type} {lt : α → α → Bool} (S : Go.Sort.SWO lt) : ∀ l : List α, (isort lt l).Pairwise (fun x y => lt y x = false)
  | [] => .nil
  | x :: r => by
    have key : ∀ l : List α, l.Pairwise (fun x y => lt y x = false) → (insL lt x l).Pairwise (fun x y => lt y x = false) := by
      intro l
      induction l with
      | nil => intro _; simp [insL]
      | cons y s ih =>
        intro h
        rw [List.pairwise_cons] at h
        rw [insL]
        split
        · rename_i hyx
          rw [List.pairwise_cons]
          refine ⟨fun z hz => ?_, ih h.2⟩
          have hz := (insL_perm lt x s).subset hz
          rcases List.mem_cons.1 hz with rfl | hz
          · cases q : lt z y with
            | false => rfl
            | true => have := S.trans _ _ _ q hyx; rw [S.irrefl] at this; cases this
          · exact h.1 z hz
        · rename_i hyx
          have hyx : lt y x = false := by simpa using hyx
          rw [List.pairwise_cons, List.pairwise_cons]
          refine ⟨fun z hz => ?_, h⟩
          rcases List.mem_cons.1 hz with rfl | hz
          · exact hyx
          · exact S.ntrans _ _ _ (h.1 z hz) hyx
    exact key _ (isort_sorted S r)

/-- keys in order, each once -/
def sortK (l : List Ky) : List Ky := compactK (isort ltK l)
theorem ltK_tri {a b : Ky} (h : ltK a b = false) (k : ltK b a = false) : a = b := by
  apply Classical.byContradiction
  intro hn
  have := ltL_tri (a := fK a) (b := fK b) rfl h fun q => hn (fK_inj q)
  rw [ltK] at k
  rw [this] at k; cases k
theorem swoK' : Go.Sort.SWO ltK := swo_of (f := fK) (n := 3) fun _ => rfl
theorem sortedK {l m : List Ky} (h : m.Perm l) (hs : m.Pairwise (fun x y => ltOf ordK y x = false)) : m = isort ltK l := by
  have hs' : m.Pairwise (fun x y => ltK y x = false) := hs.imp fun {a b} q => by rw [← ltOf_K]; exact q
  exact sorted_one (h.trans (isort_perm ltK l).symm) hs' (isort_sorted swoK' l) fun x _ y _ a b => ltK_tri a b
theorem compactP_mem {x : Ky} : ∀ (r : List Ky) (a : Ky), x ∈ a :: compactP a r ↔ x ∈ a :: r
  | [], a => by simp [compactP]
  | y :: r, a => by
    rw [compactP]
    split
    · rename_i h; subst h
      rw [compactP_mem r y]
      simp
    · have := compactP_mem (x := x) r y
      simp only [List.mem_cons] at this ⊢
      rw [this]
theorem compactK_mem {x : Ky} (l : List Ky) : x ∈ compactK l ↔ x ∈ l := by
  cases l with
  | nil => simp [compactK]
  | cons a r => rw [compactK]; exact compactP_mem r a
theorem compactP_strict : ∀ (r : List Ky) (a : Ky), (a :: r).Pairwise (fun x y => ltK y x = false) → (a :: compactP a r).Pairwise (fun x y => ltK x y = true)
  | [], a, _ => by simp [compactP]
  | y :: r, a, h => by
    rw [compactP]
    split
    · rename_i e; subst e
      exact compactP_strict r y (List.pairwise_cons.1 h).2
    · rename_i e
      have h2 := compactP_strict r y (List.pairwise_cons.1 h).2
      rw [List.pairwise_cons]
      refine ⟨fun z hz => ?_, h2⟩
      have hay : ltK a y = true := by
        have := (List.pairwise_cons.1 h).1 y (by simp)
        exact ltL_tri rfl this fun q => e (fK_inj q)
      rcases List.mem_cons.1 hz with rfl | hz
      · exact hay
      · exact ltL_trans hay ((List.pairwise_cons.1 h2).1 z hz)
theorem sortK_mem {x : Ky} (l : List Ky) : x ∈ sortK l ↔ x ∈ l := by
  rw [sortK, compactK_mem]; exact (isort_perm ltK l).mem_iff
theorem sortK_strict (l : List Ky) : (sortK l).Pairwise (fun x y => ltK x y = true) := by
  have h := isort_sorted swoK' l
  unfold sortK
  cases hq : isort ltK l with
  | nil => simp [compactK]
  | cons a r => rw [hq] at h; exact compactP_strict r a h
theorem sortK_len (l : List Ky) : (sortK l).length ≤ l.length := by
  have := compact_le (isort ltK l)
  rw [(isort_perm ltK l).length_eq] at this
  exact this
end Go.Proofs
