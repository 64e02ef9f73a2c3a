/- V, part 27: one argument; a law's answer. -/
import Derived.Test.YtfhkgkijljfcfaaV26
import Derived.WideShapes
set_option linter.unusedVariables false
set_option linter.unusedSimpArgs false
namespace Go.V
open Go.RowKit Go.WideShapes

/-- an argument of a type, as data -/
structure Arg (P : Program) (w : World) (t : TypeId) (vv : VV) (v : Value) : Prop where
  rep : Rep w (Fof w) (fun _ => none) vv v
  ok : argOk vv = true
  ty : ∃ n, tyOk P n t vv.cells = true
  st : stOk P t vv = true

theorem argOk_canon {vv : VV} (h : vv.canon = true) : argOk vv = true := by
  have h0 : ∀ v : VV, v.canon0 = true → v.noHnd0 = true ∧ v.ids 0 = true := fun v h => ⟨by cases v <;> simp_all [VV.canon0, VV.noHnd0], canon0_ids 0 h⟩
  cases vv with
  | agg cs =>
    simp only [VV.canon, List.all_eq_true] at h
    simp only [argOk, VV.noHnd, VV.ids, Bool.and_eq_true, List.all_eq_true]
    exact ⟨fun v hv => (h0 v (h v hv)).1, idsL_of fun v hv => (h0 v (h v hv)).2⟩
  | tup cs => simp [VV.canon, VV.canon0] at h
  | dead => simp [VV.canon, VV.canon0] at h
  | _ =>
    simp only [VV.canon] at h
    have := h0 _ h
    simp only [argOk, VV.noHnd, this.1, this.2, Bool.and_self]

section
variable {P : Program} {H : Type} {enc : TypeId × Value → H} {w : World} {base : Nat} {spare : Nat → Bool} {held : Bool}

theorem arg_data {S : List TypeId} (hS : closedB P S = true) {t : TypeId} (ht : t ∈ S) {r : Reach} {b0 : Nat} {v : Value} (hv : Value.okWide P w r b0 t v) {d : DataW H} {ps : List MemPlace} (h : DataW.Trod enc P w base spare held t v d ps) :
    ∃ vv, Arg P w t vv v := by
  obtain ⟨n, h⟩ := h
  obtain ⟨vs, hd⟩ := trod_data (tb := fun _ => none) hS n t _ _ ht h
  have hc := List.all_eq_true.1 hS t ht
  have mk := mkE_ok (P := P) (e := t) hd.canon (fun hs => by
    have hlen := hd.len
    have : v.cells.toList.length = 1 := by
      unfold isStruct at hs
      cases hu : P.underlying t with
      | none => rw [hu] at hc; cases hc
      | some dd =>
        rw [hu] at hc hs
        cases dd <;> simp only [Bool.false_eq_true] at hc hs
        case bool => obtain ⟨b, hb, _⟩ := DataW.trod_bool hu h; rw [hb]; rfl
        case int k => obtain ⟨b, hb, _⟩ := DataW.trod_int hu h; rw [hb]; rfl
        case string => obtain ⟨b, hb, _⟩ := DataW.trod_string hu h; rw [hb]; rfl
        case slice e => rcases DataW.trod_slice hu h with ⟨hb, _⟩ | ⟨a, len, cap, _, _, _, _, hb, _⟩ <;> (rw [hb]; rfl)
        all_goals (exact absurd hs (by simp))
    omega) hd.ty
  obtain ⟨m1, m2, m3⟩ := mk
  rw [m1, Bool.and_eq_true] at m3
  refine ⟨mkE P t vs, ?_, argOk_canon m2, ⟨n, by rw [m1]; exact hd.ty⟩, m3.2⟩
  unfold mkE
  cases hs : isStruct P t with
  | true =>
    simp only [if_true]
    have hst : ∃ fs, P.underlying t = some (.struct fs) := by
      unfold isStruct at hs
      split at hs
      · exact ⟨_, by assumption⟩
      · cases hs
    obtain ⟨fs, hu⟩ := hst
    obtain ⟨cs, rfl, _⟩ := okWide_struct hu hv
    have hlen : vs.length = cs.size := by have := hd.len; simpa [Value.cells] using this
    refine .agg hlen.symm (List.all_eq_true.2 fun u hu => canon0_isCell (List.all_eq_true.1 hd.canon u hu)) fun j hj => ?_
    have := hd.rep j hj (by simpa [Value.cells] using (by omega : j < cs.size))
    simpa [Value.cells] using this
  | false =>
    simp only [Bool.false_eq_true, if_false]
    have hcell : v.cells = #[v] := by
      unfold isStruct at hs
      cases hu : P.underlying t with
      | none => rw [hu] at hc; cases hc
      | some dd =>
        rw [hu] at hc hs
        cases dd <;> simp only [Bool.false_eq_true] at hc hs
        case bool => obtain ⟨b, rfl⟩ := okWide_bool hu hv; rfl
        case int k => obtain ⟨b, rfl⟩ := okWide_int hu hv; rfl
        case string => obtain ⟨b, rfl⟩ := okWide_string hu hv; rfl
        case slice e => obtain ⟨a, l, c, rfl⟩ := okWide_slice hu hv; rfl
        all_goals (exact absurd hs (by simp))
    have hl := hd.len
    rw [hcell] at hl
    obtain ⟨u, rfl⟩ := List.length_eq_one_iff.1 (by simpa using hl)
    have := hd.rep 0 (by simp) (by rw [hcell]; simp)
    simpa [hcell] using this

/-- a law, answered -/
theorem law_calls {f : Nat} {vals : Array Value} {args : List VV} (h : PureC P f args (.bool true)) (hl : vals.size = args.length) (hr : ∀ j (h : j < args.length) (h' : j < vals.size), Rep w (Fof w) (fun _ => none) args[j] vals[j]) :
    Calls P f vals w fun e w' => e = .returned (.bool true) ∧ Below w.heap.size w w' :=
  callsIn_wide.1 (CallsIn.mono (h.2 w (Fof w) vals (fun b hb => Fof_zero hb) hl hr) fun e w' ⟨x, F', he, hb, _, _, hres⟩ => by
    subst he
    have := hres.rep fun _ => none
    cases this with
    | bool => exact ⟨rfl, hb⟩)

end
end Go.V
