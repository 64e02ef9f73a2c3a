/- Plain laws: among right groups, whom a group contains and whom the document's reference lists are the same. -/
import Derived.Test.YtlngaccdjnmgeaaGreatDoorGE6
set_option linter.unusedVariables false
set_option linter.unusedSimpArgs false
namespace Go.Proofs
open Go.V Go.RowKit

/-- every name that a group names is a group's -/
def allNamed (l : List Gp) : Prop := ∀ n ∈ allN l, n ∈ l.map (·.name)
theorem find_is {l : List Gp} {n : Nm} (h : (findS l n).isSome = true) : n ∈ l.map (·.name) := by
  obtain ⟨g, hg⟩ := Option.isSome_iff_exists.1 h
  exact find_name hg
theorem oneG_named {l : List Gp} {i : Nat} {g : Gp} (h : oneG l i g = 0) : ∀ n ∈ g.groups, (findS l n).isSome = true := by
  unfold oneG at h
  split at h
  · cases h
  split at h
  · cases h
  split at h
  · cases h
  split at h
  · cases h
  split at h
  · cases h
  split at h
  · cases h
  split at h
  · cases h
  split at h
  · cases h
  rename_i q
  intro n hn
  simp only [Bool.not_eq_true, List.any_eq_false, Option.isNone_iff_eq_none] at q
  have := q n hn
  cases hf : findS l n with
  | none => simp [hf] at this
  | some g => rfl
theorem right_named {l : List Gp} (h : rightG l = 0) : allNamed l := by
  unfold rightG at h
  split at h
  · cases h
  split at h
  · rename_i i hi
    have := List.find?_some hi
    rw [h] at this
    simp at this
  · rename_i hi
    rw [List.find?_eq_none] at hi
    intro n hn
    obtain ⟨g, hg, hgn⟩ := List.mem_flatMap.1 hn
    obtain ⟨i, hil, rfl⟩ := List.mem_iff_getElem.1 hg
    have := hi i (List.mem_range.2 hil)
    have h0 : oneAt l i = 0 := by simpa using this
    rw [oneAt, List.getElem?_eq_getElem hil] at h0
    exact find_is (oneG_named h0 n hgn)
/-- nothing leads out of it -/
def closedN (l : List Gp) (f : List Nm) : Prop := ∀ x ∈ f, ∀ y ∈ kidsS l x, y ∈ f
theorem SK.nd {l : List Gp} {f : List Nm} (h : SK l f) : f.Nodup := h.st.imp fun {a b} hab e => by subst e; rw [strLess_irrefl] at hab; cases hab
theorem inside_grows (l : List Gp) (name : Nm) : ∀ n, closedN l (insideN l name n) ∨ n + 1 ≤ (insideN l name n).length
  | 0 => by
    cases h : insideN l name 0 with
    | nil => exact .inl fun x hx => by simp at hx
    | cons a t => exact .inr (by simp)
  | n + 1 => by
    have same : ∀ {f : List Nm}, closedN l f → ∀ x, x ∈ belowS l f ↔ x ∈ f := fun {f} hc x => by
      rw [belowS_mem]
      constructor
      · rintro (h | ⟨n, h1, h2⟩)
        · exact h
        · exact hc n h1 x h2
      · exact .inl
    by_cases hc : closedN l (insideN l name n)
    · refine .inl fun x hx y hy => ?_
      rw [insideN, same hc] at hx ⊢
      exact hc x hx y hy
    · rcases inside_grows l name n with h | h
      · exact absurd h hc
      refine .inr ?_
      have : ∃ x ∈ insideN l name n, ∃ y ∈ kidsS l x, y ∉ insideN l name n := by
        apply Classical.byContradiction
        intro hn
        refine hc fun x hx y hy => ?_
        apply Classical.byContradiction
        intro hq
        exact hn ⟨x, hx, y, hy, hq⟩
      obtain ⟨x, hx, y, hy, hq⟩ := this
      have hN : (y :: insideN l name n).Nodup := List.nodup_cons.2 ⟨hq, (insideN_ok l name n).nd⟩
      have := nodup_len (y :: insideN l name n) (insideN l name (n + 1)) hN fun z hz => by
        rw [insideN, belowS_mem]
        rcases List.mem_cons.1 hz with rfl | hz
        · exact .inr ⟨x, hx, hy⟩
        · exact .inl hz
      simp only [List.length_cons] at this
      omega
theorem inside_closed {l : List Gp} (h : allNamed l) (name : Nm) : closedN l (insideS l name) := by
  rcases inside_grows l name l.length with h1 | h1
  · exact h1
  · have := nodup_len (insideN l name l.length) (l.map (·.name)) (insideN_ok l name _).nd fun x hx => h x ((insideN_ok l name _).sub x hx)
    rw [List.length_map] at this
    omega
theorem insideN_mono {l : List Gp} {name : Nm} {x : Nm} : ∀ n, x ∈ insideN l name 0 → x ∈ insideN l name n
  | 0, h => h
  | n + 1, h => by rw [insideN, belowS_mem]; exact .inl (insideN_mono n h)
theorem inside_kids {l : List Gp} {name x : Nm} (h : x ∈ kidsS l name) : x ∈ insideS l name :=
  insideN_mono _ (by rw [insideN, putAll_mem]; exact .inr h)
mutual
theorem visitF_sub (l : List Gp) (S : List Nm) (hS : closedN l S) : ∀ (n : Nat) (name : Nm) (f : List Nm), (∀ x ∈ f, x ∈ S) → (∀ x ∈ kidsS l name, x ∈ S) → ∀ x ∈ visitF l n name f, x ∈ S
  | 0, _, _, h, _ => by rw [visitF]; exact h
  | n + 1, name, f, h, hk => by
    rw [visitF]
    exact visitL_sub l S hS n (kidsS l name) f h hk
theorem visitL_sub (l : List Gp) (S : List Nm) (hS : closedN l S) : ∀ (n : Nat) (xs : List Nm) (f : List Nm), (∀ x ∈ f, x ∈ S) → (∀ x ∈ xs, x ∈ S) → ∀ x ∈ visitL l n xs f, x ∈ S
  | _, [], _, h, _ => by rw [visitL]; exact h
  | n, x :: r, f, h, hx => by
    rw [visitL]
    refine visitL_sub l S hS n r _ ?_ fun y hy => hx y (by simp [hy])
    split
    · exact h
    · refine visitF_sub l S hS n x _ (fun y hy => ?_) (hS x (hx x (by simp)))
      rcases List.mem_append.1 hy with hy | hy
      · exact h y hy
      · simp only [List.mem_singleton] at hy
        subst hy
        exact hx y (by simp)
end
theorem contained_inside {l : List Gp} (h : allNamed l) {name x : Nm} (hx : x ∈ containedS l name) : x ∈ insideS l name :=
  visitF_sub l _ (inside_closed h name) _ name [] (by simp) (fun y hy => inside_kids hy) x hx
theorem mem_compactI {zs : List Int} {x : Int} (h : x ∈ compactI zs) : x ∈ zs := by
  unfold compactI Lib.compact Lib.compactUpTo at h
  obtain ⟨i, hi, rfl⟩ := List.mem_map.1 h
  have hi' : i < zs.length := List.mem_range.1 (List.mem_filter.1 hi).1
  simp [getElem!_pos, hi']
theorem users_in {l : List Gp} {name : Nm} {u : Int} (h : u ∈ usersS l name) : ∃ n ∈ name :: containedS l name, u ∈ usersOf l n := by
  have h1 := mem_compactI h
  unfold sortI at h1
  rw [List.mem_mergeSort] at h1
  simp only [totalU, List.mem_append, List.mem_flatMap] at h1
  rcases h1 with h1 | ⟨n, h1, h2⟩
  · exact ⟨name, by simp, h1⟩
  · exact ⟨n, by simp [h1], h2⟩
/-- who is in a group by the code is in it by the document -/
theorem in_inR43 {l : List Gp} (h : rightG l = 0) {name : Nm} {u : Int} (hi : inS l name u = true) : inR43 l name u = true := by
  unfold inS at hi
  unfold inR43
  rw [List.contains_iff_mem] at *
  obtain ⟨n, hn, hu⟩ := users_in hi
  rw [usersR_mem]
  refine ⟨n, ?_, hu⟩
  rcases List.mem_cons.1 hn with rfl | hn
  · exact List.mem_cons_self
  · exact List.mem_cons_of_mem _ (contained_inside (right_named h) hn)
/-- who may read is a member of a group -/
theorem can_member {p : Pol} {u : Int} {d : Dc} (h : canD p u d = true) : ∃ g ∈ p.groups, inR43 p.groups g.name u = true := by
  unfold canD canS at h
  rcases deciding_cases p u d.repo d.path with e | ⟨k, hk, e, hr, hi⟩
  · rw [e] at h; simp at h
  · obtain ⟨hg, hl, he⟩ := right_parts hr
    obtain ⟨_, ha⟩ := idxS_inv hi hk
    have hin : inS p.groups p.rules[k].group u = true := by
      simp only [appliesS, Bool.and_eq_true] at ha
      exact ha.2
    have h8 := he _ (List.getElem_mem hk)
    have : p.groups.any (fun g => g.name == p.rules[k].group) = true := by
      unfold ruleErr at h8
      split at h8
      · cases h8
      · rename_i q; simpa using q
    rw [List.any_eq_true] at this
    obtain ⟨g, hgm, hgn⟩ := this
    have hgn : g.name = p.rules[k].group := by simpa using hgn
    exact ⟨g, hgm, by rw [hgn]; exact in_inR43 hg hin⟩
theorem docs_none {p : Pol} {u : Int} {l : List Dc} (h : p.groups.any (fun g => inR43 p.groups g.name u) = false) : docsS p u l = [] := by
  unfold docsS
  rw [List.filter_eq_nil_iff]
  intro d _ hd
  obtain ⟨g, hg, hi⟩ := can_member hd
  rw [List.any_eq_false] at h
  exact h g hg hi
theorem filter_at {α : Type} {p : α → Bool} {l : List α} {i : Nat} (h : i < l.length) (hp : p l[i] = true) : ∃ hk : ((l.take i).filter p).length < (l.filter p).length, (l.filter p)[((l.take i).filter p).length] = l[i] := by
  have e : l.filter p = (l.take i).filter p ++ l[i] :: (l.drop (i + 1)).filter p := by
    have : l = l.take i ++ l[i] :: l.drop (i + 1) := by rw [← List.drop_eq_getElem_cons h, List.take_append_drop]
    conv => lhs; rw [this]
    rw [List.filter_append, List.filter_cons, hp]
    rfl
  have hk : ((l.take i).filter p).length < (l.filter p).length := by rw [e]; simp
  refine ⟨hk, ?_⟩
  have : (l.filter p)[((l.take i).filter p).length]? = some l[i] := by rw [e]; simp
  rw [List.getElem?_eq_getElem hk] at this
  exact Option.some.inj this
end Go.Proofs
