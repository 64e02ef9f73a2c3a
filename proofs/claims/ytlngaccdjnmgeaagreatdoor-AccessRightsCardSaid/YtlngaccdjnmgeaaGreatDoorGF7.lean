/- Plain laws: whom the document's reference lists, the code has too; rules apply alike. -/
import Derived.Test.YtlngaccdjnmgeaaGreatDoorGF6
import Derived.Test.YtlngaccdjnmgeaaGreatDoorGE7
set_option linter.unusedVariables false
set_option linter.unusedSimpArgs false
namespace Go.Proofs
open Go.V Go.RowKit

def full (l : List Gp) (xs f R : List Nm) : Prop := (∀ x ∈ f, x ∈ R) ∧ (∀ x ∈ xs, x ∈ R) ∧ ∀ x ∈ R, x ∉ f → ∀ y ∈ kidsS l x, y ∈ R
mutual
theorem visitF_full (l : List Gp) : ∀ (n : Nat) (name : Nm) (f : List Nm), FOk l f → (allN l).length < f.length + n → full l (kidsS l name) f (visitF l n name f)
  | 0, _, f, h, hn => by have := h.len; omega
  | n + 1, name, f, h, hn => by
    rw [visitF]
    exact visitL_full l n (kidsS l name) f h (fun x hx => kids_mem hx) (by omega)
theorem visitL_full (l : List Gp) : ∀ (n : Nat) (xs : List Nm) (f : List Nm), FOk l f → (∀ x ∈ xs, x ∈ allN l) → (allN l).length ≤ f.length + n → full l xs f (visitL l n xs f)
  | _, [], f, h, _, _ => by rw [visitL]; exact ⟨fun x hx => hx, fun x hx => by simp at hx, fun x hx hq => absurd hx hq⟩
  | n, x :: r, f, h, hx, hn => by
    rw [visitL]
    cases hc : f.contains x with
    | true =>
      simp only [if_true]
      obtain ⟨a, b, c⟩ := visitL_full l n r f h (fun y hy => hx y (by simp [hy])) hn
      refine ⟨a, fun y hy => ?_, c⟩
      rcases List.mem_cons.1 hy with rfl | hy
      · exact a _ (List.contains_iff_mem.1 hc)
      · exact b y hy
    | false =>
      simp only [Bool.false_eq_true, if_false]
      have hF := h.add (hx x (by simp)) hc
      obtain ⟨a1, b1, c1⟩ := visitF_full l n x (f ++ [x]) hF (by simp; omega)
      have hl := visitF_len l n x (f ++ [x])
      have hok := visitF_ok l n x (f ++ [x]) hF
      simp only [List.length_append, List.length_cons, List.length_nil] at hl
      obtain ⟨a, b, c⟩ := visitL_full l n r (visitF l n x (f ++ [x])) hok (fun y hy => hx y (by simp [hy])) (by omega)
      refine ⟨fun y hy => a y (a1 y (by simp [hy])), fun y hy => ?_, fun z hz hzf y hy => ?_⟩
      · rcases List.mem_cons.1 hy with rfl | hy
        · exact a _ (a1 _ (by simp))
        · exact b y hy
      · by_cases hz1 : z ∈ visitF l n x (f ++ [x])
        · by_cases e : z = x
          · subst e; exact a y (b1 y hy)
          · exact a y (c1 z hz1 (by simp [hzf, e]) y hy)
        · exact c z hz hz1 y hy
end
theorem contained_full (l : List Gp) (name : Nm) : closedN l (containedS l name) ∧ ∀ x ∈ kidsS l name, x ∈ containedS l name := by
  obtain ⟨_, b, c⟩ := visitF_full l ((allN l).length + 1) name [] (fok_nil l) (by simp)
  exact ⟨fun x hx y hy => c x hx (by simp) y hy, b⟩
theorem inside_contained {l : List Gp} {name x : Nm} (h : x ∈ insideS l name) : x ∈ containedS l name := by
  obtain ⟨hc, hk⟩ := contained_full l name
  have : ∀ n, ∀ x ∈ insideN l name n, x ∈ containedS l name := by
    intro n
    induction n with
    | zero =>
      intro x hx
      rw [insideN, putAll_mem] at hx
      rcases hx with hx | hx
      · simp at hx
      · exact hk x hx
    | succ n ih =>
      intro x hx
      rw [insideN, belowS_mem] at hx
      rcases hx with hx | ⟨m, hm, hx⟩
      · exact ih x hx
      · exact hc m (ih m hm) x hx
  exact this _ x h
theorem compactI_mem {zs : List Int} {x : Int} (h : x ∈ zs) : x ∈ compactI zs := by
  unfold compactI Lib.compact Lib.compactUpTo
  have hl : zs.findIdx (· == x) < zs.length := List.findIdx_lt_length_of_exists ⟨x, h, by simp⟩
  have hx : zs[zs.findIdx (· == x)] = x := by
    have := List.findIdx_getElem (w := hl)
    simpa using this
  refine List.mem_map.2 ⟨zs.findIdx (· == x), List.mem_filter.2 ⟨List.mem_range.2 hl, ?_⟩, ?_⟩
  · unfold Lib.keeps
    simp only [decide_eq_true_eq]
    by_cases h0 : zs.findIdx (· == x) = 0
    · exact .inl h0
    · refine .inr ?_
      have h1 : zs.findIdx (· == x) - 1 < zs.findIdx (· == x) := by omega
      have h2 := List.not_of_lt_findIdx h1
      have hl1 : zs.findIdx (· == x) - 1 < zs.length := by omega
      have e1 : zs.toArray[zs.findIdx (· == x)]! = x := by rw [getElem!_pos _ _ (by simpa using hl)]; simpa using hx
      have e2 : zs.toArray[zs.findIdx (· == x) - 1]! = zs[zs.findIdx (· == x) - 1] := by rw [getElem!_pos _ _ (by simpa using hl1)]; simp
      rw [e1, e2]
      intro e
      simp [e.symm] at h2
  · rw [getElem!_pos _ _ (by simpa using hl)]; simpa using hx
theorem inR43_in {l : List Gp} {name : Nm} {u : Int} (hi : inR43 l name u = true) : inS l name u = true := by
  unfold inR43 at hi
  unfold inS
  rw [List.contains_iff_mem] at *
  rw [usersR_mem] at hi
  obtain ⟨n, hn, hu⟩ := hi
  apply compactI_mem
  unfold sortI
  rw [List.mem_mergeSort]
  simp only [totalU, List.mem_append, List.mem_flatMap]
  rcases List.mem_cons.1 hn with rfl | hn
  · exact .inl hu
  · exact .inr ⟨n, inside_contained hn, hu⟩
theorem in_same {l : List Gp} (h : rightG l = 0) (name : Nm) (u : Int) : inR43 l name u = inS l name u := by
  rw [Bool.eq_iff_iff]
  exact ⟨inR43_in, in_inR43 h⟩
def appliesR (p : Pol) (u : Int) (repo path : List UInt8) (r : Rl) : Bool := inR43 p.groups r.group u && (r.repo == [] || r.repo == repo) && matchR r.glob path
theorem applies_same {p : Pol} (h : rightG p.groups = 0) (u : Int) (repo path : List UInt8) (r : Rl) : appliesR p u repo path r = appliesS p u repo path r := by
  unfold appliesR appliesS
  rw [in_same h, match_same]
  cases inS p.groups r.group u <;> cases (r.repo == [] || r.repo == repo) <;> cases globMatchS r.glob path <;> rfl
end Go.Proofs
