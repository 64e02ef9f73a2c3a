/- V, proofs: comparing strings, keys, alerts. Conditions: none. -/
import Derived.Test.YtifahgjmdiandaaGreatDoorSA0
set_option linter.unusedVariables false
set_option linter.unusedSimpArgs false
namespace Go.Proofs
open Go.V Go.RowKit

/-! ### strings in order -/
theorem sl_irrefl : ∀ a : List UInt8, strLess a a = false
  | [] => rfl
  | a :: r => by simp [strLess, sl_irrefl r]
theorem sl_trans : ∀ {a b c : List UInt8}, strLess a b = true → strLess b c = true → strLess a c = true
  | _, [], _, h, _ => by simp [strLess] at h
  | [], _ :: _, [], _, h => by simp [strLess] at h
  | [], _ :: _, _ :: _, _, _ => by simp [strLess]
  | _ :: _, _ :: _, [], _, h => by simp [strLess] at h
  | a :: x, b :: y, c :: z, h, k => by
    simp only [strLess, Bool.or_eq_true, Bool.and_eq_true, decide_eq_true_eq, beq_iff_eq] at h k ⊢
    rcases h with h | ⟨rfl, h⟩ <;> rcases k with k | ⟨rfl, k⟩
    · exact .inl (UInt8.lt_trans h k)
    · exact .inl h
    · exact .inl k
    · exact .inr ⟨rfl, sl_trans h k⟩
theorem sl_tri : ∀ {a b : List UInt8}, strLess a b = false → a ≠ b → strLess b a = true
  | [], [], _, h => absurd rfl h
  | [], _ :: _, h, _ => by simp [strLess] at h
  | _ :: _, [], _, _ => by simp [strLess]
  | a :: x, b :: y, h, k => by
    simp only [strLess, Bool.or_eq_false_iff, Bool.and_eq_false_iff, decide_eq_false_iff_not, beq_eq_false_iff_ne] at h
    simp only [strLess, Bool.or_eq_true, Bool.and_eq_true, decide_eq_true_eq, beq_iff_eq]
    obtain ⟨h1, h2⟩ := h
    by_cases e : a = b
    · subst e
      rcases h2 with h2 | h2
      · exact absurd rfl h2
      · exact .inr ⟨rfl, sl_tri h2 fun q => k (by rw [q])⟩
    · exact .inl (by
        have h3 : b ≤ a := UInt8.not_lt.1 h1
        exact UInt8.lt_of_le_of_ne h3 fun q => e q.symm)
def cmpS (a b : List UInt8) : Int := if strLess a b = true then -1 else if (a == b) = true then 0 else 1
theorem cmpS_neg {a b : List UInt8} : cmpS a b < 0 ↔ strLess a b = true := by
  unfold cmpS
  split
  · simp [*]
  · split <;> simp [*]
theorem cmpS_zero {a b : List UInt8} : cmpS a b = 0 ↔ a = b := by
  unfold cmpS
  split
  · rename_i h
    constructor
    · intro q; simp at q
    · rintro rfl; rw [sl_irrefl] at h; cases h
  · split
    · rename_i h; simpa using h
    · rename_i h; simpa using h

theorem c_isNaN (s : List UInt8) : PureC PR n_cmp_isNaN_string [.str s] (.bool false) := by
  refine pure_of_wp m_cmp_isNaN_string rfl (by simp [argOk_str]) ?_
  unfold FnW v_cmp_isNaN_string
  have h : (s == s) = true := by simp
  simp only [go_sem, h, Bool.not_true]
theorem c_Compare (a b : List UInt8) : PureC PR n_cmp_Compare_string [.str a, .str b] (.int .i64 (cmpS a b)) := by
  refine pure_of_wp m_cmp_Compare_string rfl (by simp [argOk_str]) ?_
  unfold FnW v_cmp_Compare_string
  simp only [go_sem]
  refine callW_pure (c_isNaN a) (by simp only [go_sem]) (by simp only [go_sem]) ?_
  simp only [go_sem]
  refine callW_pure (c_isNaN b) (by simp only [go_sem]) (by simp only [go_sem]) ?_
  simp only [go_sem]
  refine if_s (fun h1 => ?_) (fun h1 => ?_) <;> simp only [go_sem]
  · rw [cmpS, if_pos h1]
  · refine if_s (fun h2 => ?_) (fun h2 => ?_) <;> simp only [go_sem]
    · have h3 : (a == b) = false := by simpa [h1] using h2
      rw [cmpS, if_neg (by simp [h1]), if_neg (by simp [h3])]
    · have h3 : (a == b) = true := by simpa [h1] using h2
      rw [cmpS, if_neg (by simp [h1]), if_pos h3]

/-! ### the first that is not 0 -/
def orI : List Int → Int
  | [] => 0
  | x :: r => if (x != 0) = true then x else orI r
theorem orI_at : ∀ {l : List Int} {i : Nat} (h : i < l.length), (l.take i).any (fun x => x != 0) = false → (l[i] != 0) = true → orI l = l[i]
  | x :: r, 0, _, _, hx => by simp only [List.getElem_cons_zero] at hx ⊢; rw [orI, if_pos hx]
  | x :: r, i + 1, h, ha, hx => by
    simp only [List.take_succ_cons, List.any_cons, Bool.or_eq_false_iff] at ha
    rw [orI, if_neg (by rw [ha.1]; simp)]
    exact orI_at (by simpa using h) ha.2 hx
theorem orI_none : ∀ {l : List Int}, l.any (fun x => x != 0) = false → orI l = 0
  | [], _ => rfl
  | x :: r, h => by
    simp only [List.any_cons, Bool.or_eq_false_iff] at h
    rw [orI, if_neg (by rw [h.1]; simp)]
    exact orI_none h.2
theorem c_cmp_Or (l : List Int) (hl : l.length ≤ maxLen) : PureC PR n_cmp_Or_int [.sl (l.map (VV.int .i64)) 0] (.int .i64 (orI l)) := by
  refine pure_of_wp m_cmp_Or_int rfl (by simp [argOk_sl]) ?_
  unfold FnW v_cmp_Or_int
  simp only [go_sem]
  refine v_for (α := Nat) (base := 0) (marks := []) (pu := true) (good := fun i => i ≤ l.length ∧ (l.take i).any (fun x => x != 0) = false) (m := fun i => l.length - i)
    (E := fun i => [(3, .int .i64 0), (6, .sl (l.map (VV.int .i64)) 0), (7, .int .i64 l.length), (8, .int .i64 i)]) (O := fun _ => [])
    (by intro i _; simp [go_sem, Obj.idsB]) rfl ?_ 0 _ ⟨by omega, rfl⟩ rfl rfl rfl rfl rfl
  rintro i ⟨hi, hp⟩
  simp only [go_sem]
  refine if_s (fun ht => ?_) (fun hf => ?_)
  · have hlt := len_lt ht
    have gi := get_map (VV.int .i64) hlt
    simp only [go_sem, gi]
    refine if_s (fun h4 => ?_) (fun h4 => ?_) <;> simp only [go_sem]
    · rw [orI_at hlt hp h4]
    · exact ⟨i + 1, ⟨by omega, any_step hlt hp h4⟩, by simp only; omega, by simp only [go_sem, wrap_len hlt hl], rfl, rfl, rfl, rfl⟩
  · simp only [go_sem]
    rw [orI_none (any_end (len_ge hf) hp)]

/-! ### keys and alerts -/
theorem hd_maps {α : Type} {f : α → VV} {n : Nat} (h : ∀ x, (f x).cells.length = n) (l : List α) : hdSz (l.map f) n = true := by
  cases l with
  | nil => rfl
  | cons x r => simp [hdSz, h x]
theorem decb {α : Type} [BEq α] [LawfulBEq α] [DecidableEq α] (x y : α) : decide (x = y) = (x == y) := by
  by_cases h : x = y <;> simp [h]
structure Ky where
  repo : List UInt8
  path : List UInt8
  text : List UInt8
def eKy (k : Ky) : VV := .agg [.str k.repo, .str k.path, .str k.text]
theorem eKy_cells (g : Ky) : (eKy g).cells = [.str g.repo, .str g.path, .str g.text] := byRfl rfl
theorem eKy_strip (g : Ky) : (eKy g).strip = eKy g := byRfl rfl
theorem eKy_canon (g : Ky) : (eKy g).canon = true := byRfl rfl
theorem eKy_noTup (g : Ky) : (eKy g).noTup = true := byRfl rfl
theorem eKy_ids (g : Ky) (n : Nat) : (eKy g).ids n = true := by simp [eKy, VV.ids, idsL]
theorem eKy_argOk (g : Ky) : argOk (eKy g) = true := by simp [eKy, argOk, VV.noHnd, VV.noHnd0, VV.ids, idsL]
theorem eKy_fold (g : Ky) : VV.agg [.str g.repo, .str g.path, .str g.text] = eKy g := byRfl rfl
theorem hd_ky (l : List Ky) : hdSz (l.map eKy) 3 = true := hd_maps (f := eKy) (n := 3) (fun _ => rfl) l
attribute [go_sem] eKy_cells eKy_strip eKy_canon eKy_noTup eKy_ids hd_ky
instance : Inhabited Ky := ⟨⟨[], [], []⟩⟩
instance : DecidableEq Ky := fun a b => decidable_of_iff (a.repo = b.repo ∧ a.path = b.path ∧ a.text = b.text) (by
  cases a; cases b; simp)
theorem eq_ky (a b : Ky) : eqL [.str a.repo, .str a.path, .str a.text] [.str b.repo, .str b.path, .str b.text] = some (decide (a = b)) := by
  have h : decide (a = b) = ((a.repo == b.repo) && ((a.path == b.path) && (a.text == b.text))) := by
    cases a; cases b
    simp only [Ky.mk.injEq, Bool.decide_and, decb]
  rw [h]
  simp only [eqL, eq0]
  cases (a.repo == b.repo) <;> cases (a.path == b.path) <;> cases (a.text == b.text) <;> rfl

structure Al where
  id : Int
  kind : Int
  repo : List UInt8
  path : List UInt8
def eAl (k : Al) : VV := .agg [.int .i64 k.id, .int .i64 k.kind, .str k.repo, .str k.path]
theorem eAl_cells (g : Al) : (eAl g).cells = [.int .i64 g.id, .int .i64 g.kind, .str g.repo, .str g.path] := byRfl rfl
theorem eAl_strip (g : Al) : (eAl g).strip = eAl g := byRfl rfl
theorem eAl_canon (g : Al) : (eAl g).canon = true := byRfl rfl
theorem eAl_noTup (g : Al) : (eAl g).noTup = true := byRfl rfl
theorem eAl_ids (g : Al) (n : Nat) : (eAl g).ids n = true := by simp [eAl, VV.ids, idsL]
theorem eAl_argOk (g : Al) : argOk (eAl g) = true := by simp [eAl, argOk, VV.noHnd, VV.noHnd0, VV.ids, idsL]
theorem eAl_fold (g : Al) : VV.agg [.int .i64 g.id, .int .i64 g.kind, .str g.repo, .str g.path] = eAl g := byRfl rfl
theorem hd_al (l : List Al) : hdSz (l.map eAl) 4 = true := hd_maps (f := eAl) (n := 4) (fun _ => rfl) l
attribute [go_sem] eAl_cells eAl_strip eAl_canon eAl_noTup eAl_ids hd_al
instance : Inhabited Al := ⟨⟨0, 0, [], []⟩⟩

def ordK (a b : Ky) : Int := orI [cmpS a.repo b.repo, cmpS a.path b.path, cmpS a.text b.text]
theorem c_order (a b : Ky) : PureC PR n_saved_order [eKy a, eKy b] (.int .i64 (ordK a b)) := by
  refine pure_of_wp m_saved_order rfl (by simp [eKy_argOk]) ?_
  unfold FnW v_saved_order
  simp only [go_sem, eKy]
  refine callD_pure (c_Compare a.repo b.repo) (by simp only [go_sem]) (by simp only [go_sem]) ?_
  simp only [go_sem]
  refine callD_pure (c_Compare a.path b.path) (by simp only [go_sem]) (by simp only [go_sem]) ?_
  simp only [go_sem]
  refine callD_pure (c_Compare a.text b.text) (by simp only [go_sem]) (by simp only [go_sem]) ?_
  simp only [go_sem]
  refine callD_pure (c_cmp_Or [cmpS a.repo b.repo, cmpS a.path b.path, cmpS a.text b.text] (by rw [maxLen_eq]; simp)) (by simp only [go_sem]) (by simp only [go_sem]) ?_
  simp only [go_sem, ordK]
def ordA (a b : Al) : Int := orI [cmpS a.repo b.repo, cmpS a.path b.path]
theorem c_orderA (a b : Al) : PureC PR n_saved_Changes_1 [eAl a, eAl b] (.int .i64 (ordA a b)) := by
  refine pure_of_wp m_saved_Changes_1 rfl (by simp [eAl_argOk]) ?_
  unfold FnW v_saved_Changes_1
  simp only [go_sem, eAl]
  refine callD_pure (c_Compare a.repo b.repo) (by simp only [go_sem]) (by simp only [go_sem]) ?_
  simp only [go_sem]
  refine callD_pure (c_Compare a.path b.path) (by simp only [go_sem]) (by simp only [go_sem]) ?_
  simp only [go_sem]
  refine callD_pure (c_cmp_Or [cmpS a.repo b.repo, cmpS a.path b.path] (by rw [maxLen_eq]; simp)) (by simp only [go_sem]) (by simp only [go_sem]) ?_
  simp only [go_sem, ordA]
end Go.Proofs
