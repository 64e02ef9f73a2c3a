/- V, encodings: a number as an argument, taken apart. -/
import Derived.Test.YtglabjcjfjlkoaaGreatDoorSD3
set_option linter.unusedVariables false
namespace Go.Proofs
open Go.V Go.RowKit

theorem isI_ns {P : Program} {ti : TypeId} (h : isI P ti = true) : isStruct P ti = false := by
  unfold isI at h
  unfold isStruct
  split at h
  · rename_i hu; rw [hu]
  · cases h
theorem arg_I {P : Program} {ti : TypeId} {w : World} {vv : VV} {v : Value} (h : isI P ti = true) (a : Arg P w ti vv v) : ∃ n : Int, vv = .int .i64 n ∧ I64 n := by
  obtain ⟨n, hn⟩ := a.ty
  rw [st_cell (isI_ns h) a.st] at hn
  obtain ⟨s, e, b⟩ := ty_I h hn
  simp only [List.cons.injEq, and_true] at e
  exact ⟨s, e, b⟩
end Go.Proofs
