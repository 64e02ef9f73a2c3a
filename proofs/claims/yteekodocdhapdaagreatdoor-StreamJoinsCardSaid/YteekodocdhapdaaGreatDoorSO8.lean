/- V, encodings: results as values. Conditions: none. -/
import Derived.Test.YteekodocdhapdaaGreatDoorSO7
set_option linter.unusedVariables false
set_option linter.unusedSimpArgs false
namespace Go.Proofs
open Go.V Go.RowKit

theorem eRs_cells (r : Rs) : (eRs r).cells = [.int .i64 r.doc, .int .i64 r.sc, .sl (r.sp.map eSp) 0] := byRfl rfl
theorem eRs_strip (g : Rs) : (eRs g).strip = eRs g := byRfl rfl
theorem eRs_canon (g : Rs) : (eRs g).canon = true := byRfl rfl
theorem eRs_noTup (g : Rs) : (eRs g).noTup = true := byRfl rfl
theorem eRs_ids (g : Rs) (n : Nat) : (eRs g).ids n = true := by simp [eRs, rc, VV.ids, idsL]
theorem eRs_box (r : Rs) : VV.agg [.int .i64 r.doc, .int .i64 r.sc, .sl (r.sp.map eSp) 0] = eRs r := byRfl rfl
attribute [go_sem] eRs_cells eRs_strip eRs_canon eRs_noTup eRs_ids hd_rs
theorem gt0 {n : Nat} : decide (((n + 1 : Nat) : Int) > 0) = true := decide_eq_true (by omega)
theorem gt00 : decide (((0 : Nat) : Int) > 0) = false := by decide
theorem eq0n {n : Nat} : (((n + 1 : Nat) : Int) == 0) = false := by
  rw [beq_eq_false_iff_ne]; omega
theorem eq00 : (((0 : Nat) : Int) == 0) = true := rfl
theorem tk_map {α β : Type} {f : α → β} (l : List α) : (l.map f).take l.length = l.map f := List.take_of_length_le (by simp)
theorem z_lt {n : Nat} : (0 : Int) < ((n + 1 : Nat) : Int) := by omega

end Go.Proofs
