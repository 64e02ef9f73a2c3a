/- Plain laws: among groups without a loop the code's depth is the document's; the checks of groups are the same. -/
import Derived.Test.YtlngaccdjnmgeaaGreatDoorGH8
set_option linter.unusedVariables false
set_option linter.unusedSimpArgs false
namespace Go.Proofs
open Go.V Go.RowKit

theorem look_upd (x : Nm) (d : Int) (y : Nm) : ∀ m : Me, lookM (updM m x d) y = if y = x then some d else lookM m y
  | [] => by
    by_cases h : y = x
    · simp [updM, lookM, h]
    · simp [updM, lookM, h]
  | (z, e) :: r => by
    have ih := look_upd x d y r
    unfold updM
    by_cases hx : x = z
    · subst hx
      simp only [beq_self_eq_true, if_true, lookM]
      by_cases h : y = x <;> simp [h]
    · have hb : (x == z) = false := by simp [hx]
      simp only [hb, Bool.false_eq_true, if_false, lookM]
      by_cases h : y = z
      · subst h
        have : ¬ y = x := fun e => hx e.symm
        simp [this]
      · simp [h, ih]
theorem foldl_congr {f g : Nm → Int} : ∀ (l : List Nm) (m : Int), (∀ x ∈ l, f x = g x) → l.foldl (maxStep f) m = l.foldl (maxStep g) m
  | [], _, _ => rfl
  | x :: r, m, h => by
    rw [List.foldl_cons, List.foldl_cons]
    have : maxStep f m x = maxStep g m x := by unfold maxStep; rw [h x (by simp)]
    rw [this]
    exact foldl_congr r _ fun y hy => h y (by simp [hy])
theorem depthR_fuel {l : List Gp} (hr : falls l) : ∀ (n k : Nat) (name : Nm), rank l name < n → rank l name < k → depthR l n name = depthR l k name
  | 0, _, _, h, _ => by omega
  | _, 0, _, _, h => by omega
  | n + 1, k + 1, name, h1, h2 => by
    rw [depthR, depthR]
    cases hf : findS l name with
    | none => rfl
    | some g =>
      simp only
      rw [foldl_congr g.groups 0 fun x hx => depthR_fuel hr n k x (by have := hr name x (by rw [kids_some hf]; exact hx); omega) (by have := hr name x (by rw [kids_some hf]; exact hx); omega)]
theorem depthV_some {l : List Gp} (hr : falls l) {name : Nm} {g : Gp} (hf : findS l name = some g) : depthV l name = g.groups.foldl (maxStep (depthV l)) 0 + 1 := by
  unfold depthV
  rw [depthR, hf]
  simp only
  rw [foldl_congr g.groups 0 fun x hx => depthR_fuel hr _ (rank l x + 1) x (by have := hr name x (by rw [kids_some hf]; exact hx); omega) (by omega)]
theorem depthV_none {l : List Gp} {name : Nm} (hf : findS l name = none) : depthV l name = 0 := by
  unfold depthV; rw [depthR, hf]
def InvM (l : List Gp) (m : Me) (S : List Nm) : Prop := ∀ x d, lookM m x = some d → x ∈ S ∨ d = depthV l x
theorem InvM.upd {l : List Gp} {m : Me} {S : List Nm} {x : Nm} {d : Int} (h : InvM l m (x :: S)) (hd : d = depthV l x) : InvM l (updM m x d) S := by
  intro y e hy
  rw [look_upd] at hy
  split at hy
  · rename_i q; subst q; cases hy; exact .inr hd
  · rename_i q
    rcases h y e hy with h | h
    · rcases List.mem_cons.1 h with h | h
      · exact absurd h q
      · exact .inl h
    · exact .inr h
theorem maxI_step (f : Nm → Int) (m : Int) (x : Nm) : maxI m (f x) = maxStep f m x := by
  unfold maxI maxStep
  by_cases h : f x > m
  · rw [if_neg (by omega), if_pos (by simpa using h)]
  · rw [if_pos (by omega), if_neg (by simpa using h)]
theorem depth_list {l : List Gp} {n : Nat} {S : List Nm} (ih : ∀ (name : Nm) (m : Me), rank l name < n → (∀ s ∈ S, name ∈ insideS l s) → InvM l m S → (depthF l n name m).1 = depthV l name ∧ InvM l (depthF l n name m).2 S) :
    ∀ (xs : List Nm) (d : Int) (m : Me), (∀ x ∈ xs, rank l x < n ∧ ∀ s ∈ S, x ∈ insideS l s) → InvM l m S → (depthL l n xs d m).1 = xs.foldl (maxStep (depthV l)) d ∧ InvM l (depthL l n xs d m).2 S
  | [], d, m, _, h => by rw [depthL]; exact ⟨rfl, h⟩
  | x :: r, d, m, hx, h => by
    obtain ⟨h1, h2⟩ := ih x m (hx x (by simp)).1 (hx x (by simp)).2 h
    rw [depthL, h1, maxI_step, List.foldl_cons]
    exact depth_list ih r _ _ (fun y hy => hx y (by simp [hy])) h2
theorem depth_same {l : List Gp} (ho : okGs l) (ha : allNamed l) (hs : ∀ g ∈ l, g.name ∉ insideS l g.name) : ∀ (n : Nat) (S : List Nm) (name : Nm) (m : Me), rank l name < n → (∀ s ∈ S, name ∈ insideS l s) → InvM l m S →
    (depthF l n name m).1 = depthV l name ∧ InvM l (depthF l n name m).2 S
  | 0, _, _, _, h, _, _ => by omega
  | n + 1, S, name, m, hn, hS, hI => by
    have hr := falls_of ha hs
    rw [depthF]
    cases hf : findS l name with
    | none => exact ⟨(depthV_none hf).symm, hI⟩
    | some g =>
      cases hm : lookM m name with
      | some d =>
        refine ⟨?_, hI⟩
        rcases hI name d hm with h | h
        · exfalso
          obtain ⟨y, hy, hyn⟩ := List.mem_map.1 (find_name hf)
          have := hS name h
          rw [← hyn] at this
          exact hs y hy this
        · exact h
      | none =>
        simp only
        have hkd := kids_some hf
        have hI1 : InvM l (updM m name 0) (name :: S) := by
          intro y e hy
          rw [look_upd] at hy
          split at hy
          · rename_i q; exact .inl (by simp [q])
          · rcases hI y e hy with h | h
            · exact .inl (by simp [h])
            · exact .inr h
        obtain ⟨h1, h2⟩ := depth_list (S := name :: S) (fun nm m' a b c => depth_same ho ha hs n (name :: S) nm m' a b c) g.groups 0 (updM m name 0) (fun x hx => by
          have hxk : x ∈ kidsS l name := by rw [hkd]; exact hx
          refine ⟨by have := hr name x hxk; omega, fun s hs' => ?_⟩
          rcases List.mem_cons.1 hs' with rfl | hs'
          · exact inside_kids hxk
          · exact inside_closed ha s name (hS s hs') x hxk) hI1
        have hD := depthV_some hr hf
        have hb := depthR_le l (rank l name + 1) name
        have hrk : rank l name ≤ 1000000 := by have h3 := (insideN_ok l name l.length).len; have := allN_len ho; unfold rank insideS; omega
        have hw : IntKind.i64.wrap ((depthL l n g.groups 0 (updM m name 0)).1 + 1) = depthV l name := by
          rw [h1, ← hD]
          exact wrap_int (by unfold depthV; omega) (by unfold depthV; omega)
        rw [hw]
        exact ⟨rfl, h2.upd rfl⟩
theorem depthS_same {l : List Gp} (ho : okGs l) (ha : allNamed l) (hs : ∀ g ∈ l, g.name ∉ insideS l g.name) (name : Nm) : depthS l name = depthV l name := by
  have hrk : rank l name ≤ l.length := by
    have := nodup_len (insideS l name) (l.map (·.name)) (insideN_ok l name _).nd fun x hx => ha x ((insideN_ok l name _).sub x hx)
    rw [List.length_map] at this
    exact this
  exact (depth_same ho ha hs (l.length + 1) [] name [] (by omega) (by simp) (fun x d h => by simp [lookM] at h)).1
theorem right43_same {l : List Gp} (ho : okGs l) : rightR43 l = rightG l := by
  unfold rightR43 rightG
  have e : (fun i => oneRat l i != 0) = fun i => oneAt l i != 0 := by funext i; rw [oneAt_same]
  rw [e]
  cases h : decide ((l.length : Int) > 16) with
  | true => rfl
  | false =>
    simp only [Bool.false_eq_true, if_false]
    cases hf : (List.range l.length).find? fun i => oneAt l i != 0 with
    | some i => simp only [oneAt_same]
    | none =>
      have ha : allNamed l := oneR_named (by
        rw [e]
        rw [List.find?_eq_none] at hf
        rw [List.any_eq_false]
        exact hf)
      simp only
      rw [loop_same ha]
      cases hc : l.any fun g => (containedS l g.name).contains g.name with
      | true => rfl
      | false =>
        simp only [Bool.false_eq_true, if_false]
        have hs : ∀ g ∈ l, g.name ∉ insideS l g.name := fun g hg hm => by
          rw [List.any_eq_false] at hc
          exact hc g hg (List.contains_iff_mem.2 (inside_contained hm))
        have e2 : (fun g : Gp => decide (depthV l g.name > 12)) = fun g => decide (depthS l g.name > 12) := by funext g; rw [depthS_same ho ha hs]
        rw [e2]
end Go.Proofs
