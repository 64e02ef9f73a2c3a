/- V, proofs: the document's own: the place of a group (at), a name put into a list in order (PutText), a number put into one (Put), the union of two lists (Or). -/
import Derived.Test.YtlngaccdjnmgeaaGreatDoorGC1
set_option linter.unusedVariables false
set_option linter.unusedSimpArgs false
namespace Go.Proofs
open Go.V Go.RowKit

theorem c_R43_at (l : List Gp) (name : List UInt8) (hl : l.length ≤ maxLen) : PureC PR n_R43_at [.sl (l.map eGp) 0, .str name] (.int .i64 (idxS (fun g => g.name == name) l)) := by
  refine pure_of_wp m_R43_at rfl (by simp [argOk_sl, argOk_str]) ?_
  unfold FnW v_R43_at
  simp only [go_sem]
  refine v_for (α := Nat) (base := 0) (marks := []) (pu := true) (good := fun i => i ≤ l.length ∧ (l.take i).any (fun g => g.name == name) = false) (m := fun i => l.length - i)
    (E := fun i => [(0, .sl (l.map eGp) 0), (1, .str name), (5, .int .i64 i)]) (O := fun _ => [])
    (by intro i _; simp [go_sem, Obj.idsB]) rfl ?_ 0 _ ⟨by omega, rfl⟩ rfl rfl rfl rfl rfl
  rintro i ⟨hi, hp⟩
  simp only [go_sem]
  refine if_s (fun ht => ?_) (fun hf => ?_)
  · have hlt := len_lt ht
    have g := get_map eGp hlt
    simp only [go_sem, g]
    refine if_s (fun h5 => ?_) (fun h5 => ?_) <;> simp only [go_sem]
    · rw [idxS_at hlt hp h5]
    · exact ⟨i + 1, ⟨by omega, any_step hlt hp h5⟩, by simp only; omega, by simp only [go_sem, wrap_len hlt hl], rfl, rfl, rfl, rfl⟩
  · simp only [go_sem]
    rw [idxS_none (any_end (len_ge hf) hp)]

section
variable {α : Type} (ge gt : α → Bool) (s : α)
def putStep (r : List α × Bool) (x : α) : List α × Bool := if !r.2 && ge x then (if gt x then (r.1 ++ [s] ++ [x], true) else (r.1 ++ [x], true)) else (r.1 ++ [x], r.2)
def putF (l : List α) : List α × Bool := l.foldl (putStep ge gt s) ([], false)
def putL (l : List α) : List α := if (putF ge gt s l).2 then (putF ge gt s l).1 else (putF ge gt s l).1 ++ [s]
variable {ge gt s} {l : List α} {i : Nat}
theorem putF_succ (h : i < l.length) : putF ge gt s (l.take (i + 1)) = putStep ge gt s (putF ge gt s (l.take i)) l[i] := by
  rw [take_succ h, putF, putF, List.foldl_append]; rfl
theorem putStep_len (r : List α × Bool) (x : α) : (putStep ge gt s r x).1.length + (!(putStep ge gt s r x).2).toNat ≤ r.1.length + (!r.2).toNat + 1 := by
  obtain ⟨o, d⟩ := r
  unfold putStep
  cases d <;> simp
  cases ge x <;> simp
  cases gt x <;> simp
theorem putF_len (l : List α) : (putF ge gt s l).1.length + (!(putF ge gt s l).2).toNat ≤ l.length + 1 := by
  have key : ∀ (l : List α) (r : List α × Bool), (l.foldl (putStep ge gt s) r).1.length + (!(l.foldl (putStep ge gt s) r).2).toNat ≤ r.1.length + (!r.2).toNat + l.length := by
    intro l
    induction l with
    | nil => intro r; exact Nat.le_refl _
    | cons x t ih =>
      intro r
      have h1 := ih (putStep ge gt s r x)
      have h2 := putStep_len (ge := ge) (gt := gt) (s := s) r x
      simp only [List.foldl_cons, List.length_cons]
      omega
  have := key l ([], false)
  simp only [List.length_nil, Bool.not_false, Bool.toNat_true] at this
  unfold putF
  omega
theorem putL_len (l : List α) : (putL ge gt s l).length ≤ l.length + 1 := by
  have := putF_len (ge := ge) (gt := gt) (s := s) l
  unfold putL
  split
  · omega
  · rename_i h; simp only [Bool.not_eq_true] at h; rw [h] at this; simp at this; simp; omega
end

theorem cap_le {n k : Nat} (h : n ≤ 2000000000) (hk : k ≤ 1000) : n * k ≤ 35184372088832 := Nat.le_trans (Nat.mul_le_mul h hk) (by decide)

theorem c_R26_PutText (l : List (List UInt8)) (s : List UInt8) (hl : l.length ≤ 1000000) : PureC PR n_R26_PutText [.sl (l.map VV.str) 0, .str s] (.sl ((putL (fun x => !strLess x s) (fun x => !(strLess x s || x == s)) s l).map VV.str) 0) := by
  refine pure_of_wp m_R26_PutText rfl (by simp [argOk_sl, argOk_str]) ?_
  unfold FnW v_R26_PutText
  have hlm : l.length ≤ maxLen := by rw [maxLen_eq]; omega
  simp only [go_sem]
  generalize hF : putF (fun x => !strLess x s) (fun x => !(strLess x s || x == s)) s = F
  refine v_for (α := Nat) (base := 0) (marks := []) (pu := true) (good := fun i => i ≤ l.length) (m := fun i => l.length - i)
    (E := fun i => [(0, .sl (l.map VV.str) 0), (1, .str s), (5, .sl ((F (l.take i)).1.map VV.str) 2), (6, .bool (F (l.take i)).2), (7, .int .i64 i)]) (O := fun i => [.tok (F (l.take i)).1.length 1])
    (by intro i _; simp [go_sem, Obj.idsB]) rfl ?_ 0 _ (by omega) (by simp only [← hF]; rfl) (by simp only [← hF]; rfl) rfl rfl rfl
  intro i hi
  simp only [go_sem]
  have hlen : (F (l.take i)).1.length ≤ i + 1 := by
    have := putF_len (ge := fun x => !strLess x s) (gt := fun x => !(strLess x s || x == s)) (s := s) (l.take i)
    rw [hF, List.length_take] at this
    omega
  refine if_s (fun ht => ?_) (fun hf => ?_)
  · have hlt := len_lt ht
    have g := get_map VV.str hlt
    have hs : F (l.take (i + 1)) = putStep (fun x => !strLess x s) (fun x => !(strLess x s || x == s)) s (F (l.take i)) l[i] := by rw [← hF]; exact putF_succ hlt
    generalize hr : F (l.take i) = r at *
    obtain ⟨o, d⟩ := r
    simp only at *
    have c1 : (o.length + 1) * 16 ≤ 35184372088832 := cap_le (by omega) (by decide)
    have c2 : (o.length + 1 + 1) * 16 ≤ 35184372088832 := cap_le (by omega) (by decide)
    cases d with
    | true =>
      simp only [go_sem, g, c1]
      refine ⟨i + 1, by omega, by simp only; omega, ?_, ?_, rfl, rfl, rfl⟩ <;> simp only [go_sem, wrap_len hlt hlm, hs, putStep, List.map_append, List.length_append, Bool.not_true, Bool.false_and]
    | false =>
      simp only [go_sem, g]
      refine if_s (fun h5 => ?_) (fun h5 => ?_)
      · simp only [go_sem, g]
        refine if_s (fun h6 => ?_) (fun h6 => ?_)
        · simp only [go_sem, g, c1, c2, List.length_append]
          refine ⟨i + 1, by omega, by simp only; omega, ?_, ?_, rfl, rfl, rfl⟩ <;> simp only [go_sem, wrap_len hlt hlm, hs, putStep, List.map_append, List.length_append, Bool.not_false, Bool.true_and, h5, h6]
        · simp only [go_sem, g, c1, c2]
          refine ⟨i + 1, by omega, by simp only; omega, ?_, ?_, rfl, rfl, rfl⟩ <;> simp only [go_sem, wrap_len hlt hlm, hs, putStep, List.map_append, List.length_append, Bool.not_false, Bool.true_and, h5, h6]
      · simp only [go_sem, g, c1]
        refine ⟨i + 1, by omega, by simp only; omega, ?_, ?_, rfl, rfl, rfl⟩ <;> simp only [go_sem, wrap_len hlt hlm, hs, putStep, List.map_append, List.length_append, Bool.not_false, Bool.true_and, h5]
  · have hie : i = l.length := by have := len_ge hf; omega
    subst hie
    simp only [List.take_length] at *
    rw [putL, hF]
    generalize hr : F l = r at *
    obtain ⟨o, d⟩ := r
    simp only at *
    have c1 : (o.length + 1) * 16 ≤ 35184372088832 := cap_le (by omega) (by decide)
    cases d <;> simp only [go_sem, c1, List.map_append]
end Go.Proofs
