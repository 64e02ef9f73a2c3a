/- V, proofs: the document's own: Put, Or, below, inside, Users, In. Conditions: the lists' lengths. -/
import Derived.Test.YtlngaccdjnmgeaaGreatDoorGE2
set_option linter.unusedVariables false
set_option linter.unusedSimpArgs false
namespace Go.Proofs
open Go.V Go.RowKit

theorem c_R05_Put (l : List Int) (s : Int) (hl : l.length ≤ 1500000000) : PureC PR n_R05_Put [.sl (l.map (VV.int .i64)) 0, .int .i64 s] (.sl ((putI s l).map (VV.int .i64)) 0) := by
  refine pure_of_wp m_R05_Put rfl (by simp [argOk_sl, argOk_int]) ?_
  unfold FnW v_R05_Put
  have hlm : l.length ≤ maxLen := by rw [maxLen_eq]; omega
  simp only [go_sem]
  generalize hF : putF (fun x => decide (x ≥ s)) (fun x => decide (x > s)) s = F
  refine v_for (α := Nat) (base := 0) (marks := []) (pu := true) (good := fun i => i ≤ l.length) (m := fun i => l.length - i)
    (E := fun i => [(0, .sl (l.map (VV.int .i64)) 0), (1, .int .i64 s), (5, .sl ((F (l.take i)).1.map (VV.int .i64)) 2), (6, .bool (F (l.take i)).2), (7, .int .i64 i)]) (O := fun i => [.tok (F (l.take i)).1.length 1])
    (by intro i _; simp [go_sem, Obj.idsB]) rfl ?_ 0 _ (by omega) (by simp only [← hF]; rfl) (by simp only [← hF]; rfl) rfl rfl rfl
  intro i hi
  simp only [go_sem]
  have hlen : (F (l.take i)).1.length ≤ i + 1 := by
    have := putF_len (ge := fun x => decide (x ≥ s)) (gt := fun x => decide (x > s)) (s := s) (l.take i)
    rw [hF, List.length_take] at this
    omega
  refine if_s (fun ht => ?_) (fun hf => ?_)
  · have hlt := len_lt ht
    have g := get_map (VV.int .i64) hlt
    have hs : F (l.take (i + 1)) = putStep (fun x => decide (x ≥ s)) (fun x => decide (x > s)) s (F (l.take i)) l[i] := by rw [← hF]; exact putF_succ hlt
    generalize hr : F (l.take i) = r at *
    obtain ⟨o, d⟩ := r
    simp only at *
    have c1 : (o.length + 1) * 8 ≤ 35184372088832 := cap_le (by omega) (by decide)
    have c2 : (o.length + 1 + 1) * 8 ≤ 35184372088832 := cap_le (by omega) (by decide)
    cases d with
    | true =>
      simp only [go_sem, g, c1]
      refine ⟨i + 1, by omega, by simp only; omega, ?_, ?_, rfl, rfl, rfl⟩ <;> simp only [go_sem, wrap_len hlt hlm, hs, putStep, List.map_append, List.length_append, Bool.not_true, Bool.false_and]
    | false =>
      simp only [go_sem, g]
      refine if_s (fun h5 => ?_) (fun h5 => ?_)
      · simp only [go_sem, g]
        refine if_s (fun h6 => ?_) (fun h6 => ?_)
        · simp only [go_sem, g, c1, c2, List.length_append]
          refine ⟨i + 1, by omega, by simp only; omega, ?_, ?_, rfl, rfl, rfl⟩ <;> simp only [go_sem, wrap_len hlt hlm, hs, putStep, List.map_append, List.length_append, Bool.not_false, Bool.true_and, h5, h6]
        · simp only [go_sem, g, c1, c2]
          refine ⟨i + 1, by omega, by simp only; omega, ?_, ?_, rfl, rfl, rfl⟩ <;> simp only [go_sem, wrap_len hlt hlm, hs, putStep, List.map_append, List.length_append, Bool.not_false, Bool.true_and, h5, h6]
      · simp only [go_sem, g, c1]
        refine ⟨i + 1, by omega, by simp only; omega, ?_, ?_, rfl, rfl, rfl⟩ <;> simp only [go_sem, wrap_len hlt hlm, hs, putStep, List.map_append, List.length_append, Bool.not_false, Bool.true_and, h5]
  · have hie : i = l.length := by have := len_ge hf; omega
    subst hie
    simp only [List.take_length] at *
    rw [putI, putL, hF]
    generalize hr : F l = r at *
    obtain ⟨o, d⟩ := r
    simp only at *
    have c1 : (o.length + 1) * 8 ≤ 35184372088832 := cap_le (by omega) (by decide)
    cases d <;> simp only [go_sem, c1, List.map_append]

def orAll (b : List Int) (o : List Int) : List Int := b.foldl (fun o x => putI x o) o
def orS (a b : List Int) : List Int := orAll b (orAll a [])
theorem orAll_take {b o : List Int} {j : Nat} (h : j < b.length) : orAll (b.take (j + 1)) o = putI b[j] (orAll (b.take j) o) := by
  rw [take_succ h, orAll, List.foldl_append]; rfl
theorem orAll_mem {x : Int} : ∀ {b o : List Int}, x ∈ orAll b o ↔ x ∈ o ∨ x ∈ b := by
  intro b
  unfold orAll
  induction b with
  | nil => intro o; simp
  | cons y t ih =>
    intro o
    rw [List.foldl_cons, ih, putI_mem]
    simp only [List.mem_cons]
    constructor
    · rintro ((h | h) | h) <;> simp [h]
    · rintro (h | h | h) <;> simp [h]
theorem orAll_len : ∀ {b o : List Int}, (orAll b o).length ≤ o.length + b.length := by
  intro b
  unfold orAll
  induction b with
  | nil => intro o; simp
  | cons y t ih =>
    intro o
    have h1 := ih (o := putI y o)
    have h2 : (putI y o).length ≤ o.length + 1 := putL_len o
    simp only [List.foldl_cons, List.length_cons]
    omega
theorem c_R05_Or (a b : List Int) (hl : a.length + b.length ≤ 1500000000) : PureC PR n_R05_Or [.sl (a.map (VV.int .i64)) 0, .sl (b.map (VV.int .i64)) 0] (.sl ((orS a b).map (VV.int .i64)) 0) := by
  refine pure_of_wp m_R05_Or rfl (by simp [argOk_sl]) ?_
  unfold FnW v_R05_Or
  have ham : a.length ≤ maxLen := by rw [maxLen_eq]; omega
  have hbm : b.length ≤ maxLen := by rw [maxLen_eq]; omega
  simp only [go_sem]
  refine v_for (α := Nat) (base := 0) (marks := []) (pu := true) (good := fun i => i ≤ a.length) (m := fun i => a.length - i)
    (E := fun i => [(0, .sl (a.map (VV.int .i64)) 0), (1, .sl (b.map (VV.int .i64)) 0), (5, .sl ((orAll (a.take i) []).map (VV.int .i64)) 0), (6, .int .i64 i)]) (O := fun i => [])
    (by intro i _; simp [go_sem, Obj.idsB]) rfl ?_ 0 _ (by omega) rfl rfl rfl rfl rfl
  intro i hi
  simp only [go_sem]
  refine if_s (fun ht => ?_) (fun hf => ?_)
  · have hlt := len_lt ht
    have g := get_map (VV.int .i64) hlt
    have hln : (orAll (a.take i) []).length ≤ 0 + i := by have := orAll_len (b := a.take i) (o := []); simp at this; omega
    simp only [go_sem, g]
    refine callW_pure (c_R05_Put (orAll (a.take i) []) a[i] (by omega)) (by simp only [go_sem]) (by simp only [go_sem]) ?_
    simp only [go_sem]
    exact ⟨i + 1, by omega, by simp only; omega, by simp only [go_sem, wrap_len hlt ham, orAll_take hlt], rfl, rfl, rfl, rfl⟩
  have hie : i = a.length := by have := len_ge hf; omega
  subst hie
  simp only [go_sem, List.take_length]
  refine v_for (α := Nat) (base := 0) (marks := []) (pu := true) (good := fun i => i ≤ b.length) (m := fun i => b.length - i)
    (E := fun i => [(1, .sl (b.map (VV.int .i64)) 0), (5, .sl ((orAll (b.take i) (orAll a [])).map (VV.int .i64)) 0), (7, .int .i64 i)]) (O := fun i => [])
    (by intro i _; simp [go_sem, Obj.idsB]) rfl ?_ 0 _ (by omega) rfl rfl rfl rfl rfl
  intro i hi
  simp only [go_sem]
  refine if_s (fun ht => ?_) (fun hf => ?_)
  · have hlt := len_lt ht
    have g := get_map (VV.int .i64) hlt
    have hln : (orAll (b.take i) (orAll a [])).length ≤ a.length + i := by have := orAll_len (b := b.take i) (o := orAll a []); have := orAll_len (b := a) (o := []); simp at *; omega
    simp only [go_sem, g]
    refine callW_pure (c_R05_Put (orAll (b.take i) (orAll a [])) b[i] (by omega)) (by simp only [go_sem]) (by simp only [go_sem]) ?_
    simp only [go_sem]
    exact ⟨i + 1, by omega, by simp only; omega, by simp only [go_sem, wrap_len hlt hbm, orAll_take hlt], rfl, rfl, rfl, rfl⟩
  have hie : i = b.length := by have := len_ge hf; omega
  subst hie
  simp only [go_sem, List.take_length]
  rfl
end Go.Proofs
