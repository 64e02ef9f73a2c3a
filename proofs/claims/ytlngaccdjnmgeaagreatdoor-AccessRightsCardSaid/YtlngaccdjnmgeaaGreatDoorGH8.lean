/- Plain laws: the code's and the document's check of one group are the same. -/
import Derived.Test.YtlngaccdjnmgeaaGreatDoorGH5
set_option linter.unusedVariables false
set_option linter.unusedSimpArgs false
namespace Go.Proofs
open Go.V Go.RowKit

theorem twice_same {l : List Gp} {i : Nat} (h : i < l.length) : decide (idxS (fun x => x.name == l[i].name) l < (i : Int)) = (findS (l.take i) l[i].name).isSome := by
  cases hq : (l.take i).any (fun x => x.name == l[i].name) with
  | false =>
    rw [idxS_at h hq (by simp), find_none hq]
    simp
  | true =>
    have h1 : (findS (l.take i) l[i].name).isSome = true := by
      rw [List.any_eq_true] at hq
      obtain ⟨x, hx, hp⟩ := hq
      unfold findS
      rw [List.find?_isSome]
      exact ⟨x, hx, hp⟩
    rw [h1]
    rcases idxS_cases (fun x : Gp => x.name == l[i].name) l with e | ⟨k, hk, e, _⟩
    · rw [e]; simp; omega
    · obtain ⟨h2, _⟩ := idxS_inv e hk
      rw [e]
      by_cases hki : k < i
      · simp; omega
      · exfalso
        rw [List.any_eq_true] at hq
        obtain ⟨x, hx, hp⟩ := hq
        rw [List.any_eq_false] at h2
        exact h2 x ((List.take_sublist_take_left (by omega : i ≤ k)).subset hx) hp
theorem c47_same (p : List UInt8) : p.contains 47 = p.any is47 := by
  rw [Bool.eq_iff_iff, List.contains_iff_mem, List.any_eq_true]
  constructor
  · intro h; exact ⟨47, h, rfl⟩
  · rintro ⟨x, hx, hq⟩
    rw [is47_eq hq] at hx
    exact hx
theorem one_same {l : List Gp} {i : Nat} (h : i < l.length) : oneR l i l[i] = oneG l i l[i] := by
  unfold oneR oneG membersR simpleR
  rw [twice_same h, c47_same]
  cases validS l[i].name <;> cases l[i].name.any is47 <;> simp
theorem oneAt_same (l : List Gp) (i : Nat) : oneRat l i = oneAt l i := by
  unfold oneRat oneAt
  cases h : l[i]? with
  | none => rfl
  | some g =>
    obtain ⟨hi, rfl⟩ := List.getElem?_eq_some_iff.1 h
    exact one_same hi
theorem loop_same {l : List Gp} (h : allNamed l) : (l.any fun g => (insideS l g.name).contains g.name) = l.any fun g => (containedS l g.name).contains g.name := by
  congr 1
  funext g
  rw [Bool.eq_iff_iff, List.contains_iff_mem, List.contains_iff_mem]
  exact ⟨inside_contained, contained_inside h⟩
end Go.Proofs
