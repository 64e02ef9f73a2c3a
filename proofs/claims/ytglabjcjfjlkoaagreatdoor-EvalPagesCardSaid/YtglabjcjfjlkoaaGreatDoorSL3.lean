/- V, bridges: sort.Slice on an empty slice in an interface; as filter.Spans calls it. Conditions: none. -/
import Derived.Shelf.GgSortFunc.Tiny
import Derived.Test.YtglabjcjfjlkoaaGreatDoorSL2
set_option linter.unusedVariables false
set_option linter.unusedSimpArgs false
namespace Go.V
open Go.RowKit Go.Sort Go.Proofs

section
variable {P : Program} {ob : List Obj}
/-- the contract that the shelf gives -/
def SliceE (P : Program) (f c T : Nat) : Prop :=
  ∀ (p : Option Addr) (cap : Nat) (lb : Array Value) (w : World), Calls P f #[.iface T (.slice p 0 cap), .func (.func c) #[] lb] w fun e w' => e = .returned (.tuple #[]) ∧ ∃ os, w' = grow w os
theorem imp_slice0 {f c T : Nat} {cap : List VV} (hok : callOk P f = true) (hS : SliceE P f c T) : ImpC P f [.ife T, .fn c cap] ob (fun r ob' => r = .tup [] ∧ ob' = ob) := by
  refine ⟨hok, fun B w0 g w vals hcm H hsz hv => ?_⟩
  have hrow := (hv 0 (by simp) (by rw [hsz]; simp)).rep
  have hfn := (hv 1 (by simp) (by rw [hsz]; simp)).rep
  simp only [List.getElem_cons_zero, List.getElem_cons_succ] at hrow hfn
  have hvals : ∃ (p : Option Addr) (cp : Nat) (lb : Array Value), vals = #[.iface T (.slice p 0 cp), .func (.func c) #[] lb] := by
    generalize hx : vals[0]'(by rw [hsz]; simp) = x at hrow
    generalize hy : vals[1]'(by rw [hsz]; simp) = y at hfn
    cases hrow with
    | @ife _ cp a =>
      cases hfn with
      | @fn _ _ xs _ hl2 hr2 => exact ⟨a, cp, xs, arr2 (by simpa using hsz) hx hy⟩
  obtain ⟨p, cp, lb, rfl⟩ := hvals
  refine callsIn_wide.2 (calls_mono (hS p cp lb w) ?_)
  rintro e w' ⟨rfl, os, rfl⟩
  obtain ⟨H1, p1⟩ := inv_grow H os
  refine ⟨_, g, .tup [], _, rfl, ⟨rfl, rfl⟩, H1, ⟨.tup rfl rfl (fun j hj => absurd hj (by simp)), ?_, by simp [VV.ids, idsL]⟩, p1⟩
  intro j v x hv' hx'
  simp at hv'
end
end Go.V
namespace Go.Proofs
open Go.Shelf Go.RowKit Go.Lib Go.Sort
open Go.V (VV ImpC nthO callOk)
theorem spK0 : Lib.swapperK 0 spE 25 = 1 := by
  simp [Lib.swapperK]
theorem sliceE_spans : Go.V.SliceE PR n_sort_Slice n_filter_Spans_2 38 := by
  intro p cap lb w
  exact Any.sort_Slice_tiny Tryz.laysGg57 38 37 spT spE (by kernel_rfl) (by kernel_rfl) (by kernel_rfl) (by kernel_rfl) 25 (fun _ => by kernel_rfl) p 0 cap (by decide) 174 (by rw [spK0]; kernel_rfl) (.func n_filter_Spans_2) #[] lb w
/-- sort.Slice on no spans -/
theorem c_slice0 {ob : List Go.V.Obj} {cap : List VV} : ImpC PR n_sort_Slice [.ife 38, .fn n_filter_Spans_2 cap] ob (fun r ob' => r = .tup [] ∧ ob' = ob) := Go.V.imp_slice0 callOk_slice sliceE_spans
end Go.Proofs
