/- V, encodings: results compared. Conditions: none. -/
import Derived.Test.YteekodocdhapdaaGreatDoorSO9
set_option linter.unusedVariables false
set_option linter.unusedSimpArgs false
namespace Go.Proofs
open Go.V Go.RowKit

theorem Rs.ext' {a b : Rs} (h1 : a.doc = b.doc) (h2 : a.sc = b.sc) (h3 : a.sp = b.sp) : a = b := by
  cases a; cases b; simp only at h1 h2 h3; subst h1; subst h2; subst h3; rfl
instance : DecidableEq Rs := fun a b => decidable_of_iff (a.doc = b.doc ∧ a.sc = b.sc ∧ a.sp = b.sp) ⟨fun h => Rs.ext' h.1 h.2.1 h.2.2, fun h => by subst h; exact ⟨rfl, rfl, rfl⟩⟩
theorem eq_sp (p q : Int × Int) : eqL [.int .i64 p.1, .int .i64 p.2] [.int .i64 q.1, .int .i64 q.2] = some (decide (p = q)) := by
  have h : decide (p = q) = ((p.1 == q.1) && (p.2 == q.2)) := by
    obtain ⟨a, b⟩ := p
    obtain ⟨c, d⟩ := q
    by_cases h1 : a = c <;> by_cases h2 : b = d <;> simp [h1, h2]
  rw [h]
  simp only [eqL, eq0]
  cases (p.1 == q.1) <;> cases (p.2 == q.2) <;> rfl
theorem eSp_cells (p : Int × Int) : (eSp p).cells = [.int .i64 p.1, .int .i64 p.2] := byRfl rfl
theorem ne_t {a b : Int} (h : ¬ a = b) : (a != b) = true := by simpa using h
theorem ne_f {a b : Int} (h : a = b) : (a != b) = false := by simpa using h
theorem take_eq_step {α : Type} {a b : List α} {i : Nat} (ha : i < a.length) (hb : i < b.length) (h : a.take i = b.take i) (e : a[i] = b[i]) : a.take (i + 1) = b.take (i + 1) := by
  rw [take_succ ha, take_succ hb, h, e]
theorem ne_of_at {α : Type} {a b : List α} {i : Nat} (ha : i < a.length) (hb : i < b.length) (e : ¬ a[i] = b[i]) : ¬ a = b := by
  intro h; subst h; exact e rfl
end Go.Proofs
