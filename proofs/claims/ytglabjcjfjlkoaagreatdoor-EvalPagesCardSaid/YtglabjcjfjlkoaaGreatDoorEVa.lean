/- V, proofs: rows of pairs of a code and a list. Conditions: in each theorem. -/
import Derived.Test.YtglabjcjfjlkoaaGreatDoorSO3
import Derived.Test.YtglabjcjfjlkoaaGreatDoorEV0
set_option linter.unusedVariables false
set_option linter.unusedSimpArgs false
namespace Go.Proofs
open Go.V Go.RowKit

theorem gc_len (g : Gm) : (gc g).length = 2 := rfl
theorem gc_flat (l : List Gm) : (l.flatMap gc).length = l.length * 2 := flr_len' gc_len l
theorem gc_at (l : List Gm) (i : Nat) (h : i < l.length) : ((l.flatMap gc).drop (i * 2)).take 2 = [.int .i64 (l[i]!.c.val : Int), .sl l[i]!.l 0] := by
  rw [flat_drop' gc_len, List.drop_eq_getElem_cons h, List.flatMap_cons, getElem!_pos l i h]
  rfl
theorem gc_set (D : List Gm) (k : Nat) (h : k < D.length) (x : Gm) : (((D.flatMap gc).set (k * 2) (.int .i64 (x.c.val : Int))).set (k * 2 + 1) (.sl x.l 0)) = (D.set k x).flatMap gc := by
  have e : D.flatMap gc = (D.take k).flatMap gc ++ gc D[k] ++ (D.drop (k + 1)).flatMap gc := by
    have e0 : D = D.take k ++ D[k] :: D.drop (k + 1) := by rw [← List.drop_eq_getElem_cons h, List.take_append_drop]
    have e1 := congrArg (fun z => z.flatMap gc) e0
    simp only [List.flatMap_append, List.flatMap_cons] at e1
    rw [List.append_assoc]
    exact e1
  have e2 : (D.set k x).flatMap gc = (D.take k).flatMap gc ++ gc x ++ (D.drop (k + 1)).flatMap gc := by
    rw [List.set_eq_take_append_cons_drop, if_pos h]
    simp [List.flatMap_append]
  have e3 : k * 2 = ((D.take k).flatMap gc).length := by rw [gc_flat, List.length_take, Nat.min_eq_left (by omega)]
  have := setCells_app' (gc x) ((D.take k).flatMap gc) (gc D[k]) ((D.drop (k + 1)).flatMap gc) (by rw [gc_len, gc_len])
  rw [← e, ← e2, ← e3] at this
  exact this
theorem gc_ids (n : Nat) (D : List Gm) : idsL n (D.flatMap gc) = true := idsL_of fun v hv => by
  obtain ⟨x, _, hx⟩ := List.mem_flatMap.1 hv
  simp only [gc, List.mem_cons, List.not_mem_nil, or_false] at hx
  rcases hx with rfl | rfl <;> simp [VV.ids]
/-- objects among which the t-th is the row -/
structure RowO (ob : List V.Obj) (t : Nat) : Prop where
  lt : t < ob.length
  ids : ∀ D : List Gm, (ob.set t (.cells (D.flatMap gc))).all (Obj.idsB ob.length) = true
theorem RowO.get {ob : List V.Obj} {t : Nat} (h : RowO ob t) (X : V.Obj) : (ob.set t X).getD t V.Obj.gone = X := by
  have := nthO_set ob X t t
  rw [if_pos ⟨rfl, h.lt⟩] at this
  exact this
theorem fin_G {vf : VF} (hv : vf.results = []) {env : List (Nat × VV)} {ob : List V.Obj} {t : Nat} {D F : List Gm} (h : RowO ob t) (e : D = F) :
    EndI vf ob.length (fun r ob' => r = .tup [] ∧ ob' = ob.set t (.cells (F.flatMap gc))) .nrm ⟨⟨env, ob.set t (.cells (D.flatMap gc))⟩, ob.length, [], false⟩ := by
  subst e
  refine endI_nrm ob.length (.tup []) (Nat.le_refl _) (by simp) ?_ (by rw [hv]; rfl) rfl ⟨rfl, ?_⟩
  · rw [List.take_of_length_le (by simp)]; exact h.ids D
  · rw [List.take_of_length_le (by simp)]
theorem fin_Gr {vf : VF} (hv : vf.results = []) {env : List (Nat × VV)} {ob : List V.Obj} {t : Nat} {D F : List Gm} (h : RowO ob t) (e : D = F) :
    EndI vf ob.length (fun r ob' => r = .tup [] ∧ ob' = ob.set t (.cells (F.flatMap gc))) .ret ⟨⟨env, ob.set t (.cells (D.flatMap gc))⟩, ob.length, [], false⟩ := by
  subst e
  refine ⟨trivial, rfl, _, ob.length, .tup [], rfl, Nat.le_refl _, by simp, ?_, by rw [hv]; rfl, rfl, rfl, ?_⟩
  · rw [List.take_of_length_le (by simp)]; exact h.ids D
  · rw [List.take_of_length_le (by simp)]
theorem wrap_u64' {n : Nat} (h : n < 18446744073709551616) : IntKind.u64.wrap (n : Int) = (n : Int) := by
  have h1 : (n : Int) % (2 ^ 64 : Int) = n := Int.emod_eq_of_lt (by omega) (by omega)
  unfold IntKind.wrap
  simp only [IntKind.bits, h1]
  rw [if_neg]
  simp [IntKind.signed]
theorem tk_set {ob : List V.Obj} {t : Nat} {X : V.Obj} : List.take (ob.length + 0) (ob.set t X) = ob.set t X := List.take_of_length_le (by simp)
theorem set_set' {α : Type} {l : List α} {i : Nat} {a b : α} : (l.set i a).set i b = l.set i b := List.set_set _
end Go.Proofs
