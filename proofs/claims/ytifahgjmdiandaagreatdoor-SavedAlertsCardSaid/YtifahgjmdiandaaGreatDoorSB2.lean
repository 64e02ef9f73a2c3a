/- V, proofs: the document's Sort of keys is the program's. Conditions: the lists' lengths. -/
import Derived.Test.YtifahgjmdiandaaGreatDoorSB1
set_option linter.unusedVariables false
set_option linter.unusedSimpArgs false
namespace Go.Proofs
open Go.V Go.RowKit

def insStep (x : Ky) (a : List Ky × Bool) (y : Ky) : List Ky × Bool := if (!a.2 && ltK x y) = true then (a.1 ++ [x] ++ [y], true) else (a.1 ++ [y], a.2)
def insR (x : Ky) (r : List Ky) : List Ky := if (r.foldl (insStep x) ([], false)).2 = true then (r.foldl (insStep x) ([], false)).1 else (r.foldl (insStep x) ([], false)).1 ++ [x]
def sortStep (r : List Ky) (x : Ky) : List Ky := if x ∈ r then r else insR x r
def sortR (l : List Ky) : List Ky := l.foldl sortStep []
theorem insStep_len (x : Ky) (a : List Ky × Bool) (y : Ky) : (insStep x a y).1.length ≤ a.1.length + (if a.2 = (insStep x a y).2 then 1 else 2) := by
  obtain ⟨o, d⟩ := a
  unfold insStep
  cases d <;> cases ltK x y <;> simp
theorem insF_len (x : Ky) : ∀ (r : List Ky) (a : List Ky × Bool), (r.foldl (insStep x) a).1.length = a.1.length + r.length + (if (r.foldl (insStep x) a).2 = a.2 then 0 else 1) ∧ (a.2 = true → (r.foldl (insStep x) a).2 = true)
  | [], a => by simp
  | y :: r, (o, d) => by
    have ih := insF_len x r (insStep x (o, d) y)
    rw [List.foldl_cons]
    generalize hz : r.foldl (insStep x) (insStep x (o, d) y) = z at *
    obtain ⟨zo, zd⟩ := z
    unfold insStep at ih
    cases d <;> cases hl : ltK x y <;> cases zd <;> simp [hl] at ih <;> simp <;> omega
def insI (x : Ky) : List Ky → List Ky
  | [] => [x]
  | y :: r => if ltK x y = true then x :: y :: r else y :: insI x r
theorem insF_true (x : Ky) : ∀ (r o : List Ky), r.foldl (insStep x) (o, true) = (o ++ r, true)
  | [], o => by simp
  | y :: r, o => by
    rw [List.foldl_cons]
    have : insStep x (o, true) y = (o ++ [y], true) := by simp [insStep]
    rw [this, insF_true x r]
    simp
theorem insF_false (x : Ky) : ∀ (r o : List Ky), (if (r.foldl (insStep x) (o, false)).2 = true then (r.foldl (insStep x) (o, false)).1 else (r.foldl (insStep x) (o, false)).1 ++ [x]) = o ++ insI x r
  | [], o => by simp [insI]
  | y :: r, o => by
    rw [List.foldl_cons, insI]
    by_cases h : ltK x y = true
    · have : insStep x (o, false) y = (o ++ [x] ++ [y], true) := by simp [insStep, h]
      rw [this, insF_true, if_pos h]
      simp
    · have : insStep x (o, false) y = (o ++ [y], false) := by simp [insStep, h]
      rw [this, insF_false x r, if_neg h]
      simp
theorem insR_eq (x : Ky) (r : List Ky) : insR x r = insI x r := by
  have := insF_false x r []
  simpa [insR] using this
theorem insI_mem (x z : Ky) : ∀ r : List Ky, z ∈ insI x r ↔ z = x ∨ z ∈ r
  | [] => by simp [insI]
  | y :: r => by
    unfold insI
    split
    · simp
    · simp only [List.mem_cons, insI_mem x z r]
      constructor
      · rintro (h | h | h)
        · exact .inr (.inl h)
        · exact .inl h
        · exact .inr (.inr h)
      · rintro (h | h | h)
        · exact .inr (.inl h)
        · exact .inl h
        · exact .inr (.inr h)
theorem insI_len (x : Ky) : ∀ r : List Ky, (insI x r).length = r.length + 1
  | [] => rfl
  | y :: r => by
    unfold insI
    split
    · simp
    · simp [insI_len x r]
theorem insI_strict (x : Ky) : ∀ r : List Ky, strictK r → x ∉ r → strictK (insI x r)
  | [], _, _ => by simp [insI, strictK]
  | y :: r, h, hn => by
    obtain ⟨h1, h2⟩ := List.pairwise_cons.1 h
    unfold insI
    split
    · rename_i hl
      refine List.pairwise_cons.2 ⟨fun z hz => ?_, h⟩
      rcases List.mem_cons.1 hz with rfl | hz
      · exact hl
      · exact ltK_trans hl (h1 z hz)
    · rename_i hl
      have hl : ltK x y = false := by simpa using hl
      refine List.pairwise_cons.2 ⟨fun z hz => ?_, insI_strict x r h2 fun q => hn (by simp [q])⟩
      rw [insI_mem] at hz
      rcases hz with rfl | hz
      · cases hk : ltK y z with
        | true => rfl
        | false => exact absurd (ltK_tri hk hl) (fun e => hn (by simp [e]))
      · exact h1 z hz
theorem strict_nodup {l : List Ky} (h : strictK l) : l.Nodup := by
  refine List.Pairwise.imp (fun {a b} h => ?_) h
  rintro rfl
  rw [ltK_irrefl] at h
  cases h
theorem strict_le {l : List Ky} (h : strictK l) : l.Pairwise (fun x y => ltK y x = false) := by
  refine List.Pairwise.imp (fun {a b} h => ?_) h
  exact ltL_asym h
theorem strict_one {l m : List Ky} (h : strictK l) (k : strictK m) (e : ∀ x, x ∈ l ↔ x ∈ m) : l = m :=
  sorted_one ((List.perm_ext_iff_of_nodup (strict_nodup h) (strict_nodup k)).2 e) (strict_le h) (strict_le k) fun x _ y _ h1 h2 => ltK_tri h1 h2
theorem sortF_facts : ∀ (l r : List Ky), strictK r → strictK (l.foldl sortStep r) ∧ (∀ x, x ∈ l.foldl sortStep r ↔ x ∈ r ∨ x ∈ l) ∧ (l.foldl sortStep r).length ≤ r.length + l.length
  | [], r, h => ⟨h, by simp, by simp⟩
  | x :: l, r, h => by
    rw [List.foldl_cons]
    have hs : strictK (sortStep r x) := by
      unfold sortStep
      split
      · exact h
      · rename_i hn; rw [insR_eq]; exact insI_strict x r h hn
    have hm : ∀ z, z ∈ sortStep r x ↔ z ∈ r ∨ z = x := by
      intro z
      unfold sortStep
      split
      · rename_i hn
        exact ⟨.inl, fun q => q.elim id (fun e => by rw [e]; exact hn)⟩
      · rw [insR_eq, insI_mem]; exact Or.comm
    have hl : (sortStep r x).length ≤ r.length + 1 := by
      unfold sortStep
      split
      · omega
      · rw [insR_eq, insI_len]; omega
    obtain ⟨i1, i2, i3⟩ := sortF_facts l (sortStep r x) hs
    refine ⟨i1, fun z => ?_, by simp only [List.length_cons]; omega⟩
    rw [i2, hm, List.mem_cons, or_assoc]
theorem sortR_len (l : List Ky) : (sortR l).length ≤ l.length := by
  have := (sortF_facts l [] (by simp [strictK])).2.2
  simpa [sortR] using this
theorem sortR_eq (l : List Ky) : sortR l = sortK l := by
  obtain ⟨h1, h2, _⟩ := sortF_facts l [] (by simp [strictK])
  refine strict_one h1 (sortK_strict l) fun x => ?_
  rw [sortK_mem]
  have := h2 x
  simpa [sortR] using this

theorem cap_le {n k : Nat} (h : n ≤ 2000000000) (hk : k ≤ 1000) : n * k ≤ 35184372088832 := Nat.le_trans (Nat.mul_le_mul h hk) (by decide)
set_option maxRecDepth 100000 in
theorem c_RSort (l : List Ky) (hl : l.length ≤ 100000) : PureC PR n_R48_Sort [.sl (l.map eKy) 0] (.sl ((sortK l).map eKy) 0) := by
  rw [← sortR_eq]
  refine pure_of_wp m_R48_Sort rfl (by simp [argOk_sl]) ?_
  unfold FnW v_R48_Sort
  have hlm : l.length ≤ maxLen := by rw [maxLen_eq]; omega
  simp only [go_sem]
  refine v_for (α := Nat) (base := 0) (marks := []) (pu := true) (good := fun i => i ≤ l.length) (m := fun i => l.length - i)
    (E := fun i => [(0, .sl (l.map eKy) 0), (3, .sl ((sortR (l.take i)).map eKy) 0), (4, .int .i64 i)]) (O := fun _ => [.tok 0 3])
    (by intro i _; simp [go_sem, Obj.idsB]) rfl ?_ 0 _ (by omega) rfl rfl rfl rfl rfl
  intro i hi
  simp only [go_sem]
  refine if_s (fun ht => ?_) (fun hf => ?_)
  · have hlt := len_lt ht
    have gi := get_map eKy hlt
    have hst : sortR (l.take (i + 1)) = sortStep (sortR (l.take i)) l[i] := by rw [take_succ hlt, sortR, List.foldl_append]; rfl
    have hrl : (sortR (l.take i)).length ≤ i := by have := sortR_len (l.take i); rw [List.length_take] at this; omega
    generalize sortR (l.take i) = r at *
    have hrm : r.length ≤ maxLen := by rw [maxLen_eq]; omega
    have hgx : ∃ x, x = l[i] := ⟨_, rfl⟩
    generalize l[i] = x at *
    simp only [go_sem, gi, eKy_fold]
    refine callW_pure (c_Rhas r x hrm) (by simp only [go_sem]) (by simp only [go_sem]) ?_
    simp only [go_sem]
    refine if_s (fun hm => ?_) (fun hm => ?_) <;> simp only [go_sem]
    · have hm := of_decide_eq_true hm
      exact ⟨i + 1, by omega, by simp only; omega, by simp only [go_sem, wrap_len hlt hlm, hst, sortStep, hm, if_true], rfl, rfl, rfl, rfl⟩
    have hm := of_decide_eq_false hm
    have hst : sortR (l.take (i + 1)) = insR x r := by rw [hst, sortStep, if_neg hm]
    refine v_for (α := Nat) (base := 0) (marks := []) (pu := true) (good := fun j => j ≤ r.length) (m := fun j => r.length - j)
      (E := fun j => [(0, .sl (l.map eKy) 0), (3, .sl (r.map eKy) 0), (4, .int .i64 i), (5, .sl (((r.take j).foldl (insStep x) ([], false)).1.map eKy) 3), (6, .bool ((r.take j).foldl (insStep x) ([], false)).2), (7, .int .i64 j)])
      (O := fun j => [.tok 0 3, .tok ((r.take j).foldl (insStep x) ([], false)).1.length 3])
      (by intro i _; simp [go_sem, Obj.idsB]) rfl ?_ 0 _ (by omega) rfl rfl rfl rfl rfl
    intro j hj
    simp only [go_sem]
    have hlen : ((r.take j).foldl (insStep x) ([], false)).1.length ≤ j + 1 := by
      have := (insF_len x (r.take j) ([], false)).1
      rw [List.length_take] at this
      simp only [List.length_nil] at this
      split at this <;> omega
    refine if_s (fun ht2 => ?_) (fun hf2 => ?_)
    · have hlt2 := len_lt ht2
      have gj := get_map eKy hlt2
      have hs2 : (r.take (j + 1)).foldl (insStep x) ([], false) = insStep x ((r.take j).foldl (insStep x) ([], false)) r[j] := foldl_take hlt2
      generalize (r.take j).foldl (insStep x) ([], false) = a at *
      generalize r[j] = y at *
      obtain ⟨o, d⟩ := a
      simp only at *
      have c1 : (o.length + 1) * 48 ≤ 35184372088832 := cap_le (by omega) (by decide)
      have c2 : (o.length + 1 + 1) * 48 ≤ 35184372088832 := cap_le (by omega) (by decide)
      cases d with
      | true =>
        simp only [go_sem, gj, c1, eKy_fold]
        refine ⟨j + 1, by omega, by simp only; omega, ?_, ?_, rfl, rfl, rfl⟩ <;> simp only [go_sem, wrap_len hlt2 hrm, hs2, insStep, List.map_append, List.length_append, Bool.not_true, Bool.false_and, eKy_fold]
      | false =>
        simp only [go_sem, gi, gj, eKy_fold]
        refine callD_pure (c_Rless x y) (by simp only [go_sem]) (by simp only [go_sem]) ?_
        simp only [go_sem]
        refine if_s (fun h5 => ?_) (fun h5 => ?_)
        · simp only [go_sem, gi, gj, c1, c2, eKy_fold, List.length_append]
          refine ⟨j + 1, by omega, by simp only; omega, ?_, ?_, rfl, rfl, rfl⟩ <;> simp only [go_sem, wrap_len hlt2 hrm, hs2, insStep, List.map_append, List.length_append, Bool.not_false, Bool.true_and, h5, eKy_fold]
        · simp only [go_sem, gi, gj, c1, eKy_fold]
          refine ⟨j + 1, by omega, by simp only; omega, ?_, ?_, rfl, rfl, rfl⟩ <;> simp only [go_sem, wrap_len hlt2 hrm, hs2, insStep, List.map_append, List.length_append, Bool.not_false, Bool.true_and, h5, eKy_fold]
    · have hje : j = r.length := by have := len_ge hf2; omega
      subst hje
      simp only [go_sem, List.take_length] at *
      have hins : insR x r = if (r.foldl (insStep x) ([], false)).2 = true then (r.foldl (insStep x) ([], false)).1 else (r.foldl (insStep x) ([], false)).1 ++ [x] := rfl
      generalize r.foldl (insStep x) ([], false) = a at *
      obtain ⟨o, d⟩ := a
      simp only at *
      have c1 : (o.length + 1) * 48 ≤ 35184372088832 := cap_le (by omega) (by decide)
      cases d with
      | true =>
        simp only [go_sem]
        exact ⟨i + 1, by omega, by simp only; omega, by simp only [go_sem, wrap_len hlt hlm, hst, hins, if_true], rfl, rfl, rfl, rfl⟩
      | false =>
        simp only [go_sem, gi, c1, eKy_fold]
        exact ⟨i + 1, by omega, by simp only; omega, by simp only [go_sem, wrap_len hlt hlm, hst, hins, List.map_append], rfl, rfl, rfl, rfl⟩
  · have hil : i = l.length := by have := len_ge hf; omega
    subst hil
    simp only [go_sem, List.take_length]
end Go.Proofs
