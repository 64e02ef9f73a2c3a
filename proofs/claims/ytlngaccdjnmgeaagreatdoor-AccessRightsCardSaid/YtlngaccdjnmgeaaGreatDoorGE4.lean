/- V, proofs: the document's own: below, inside, Users, In. Conditions: the lists' lengths. -/
import Derived.Test.YtlngaccdjnmgeaaGreatDoorGE3
set_option linter.unusedVariables false
set_option linter.unusedSimpArgs false
namespace Go.Proofs
open Go.V Go.RowKit

theorem allN_len {l : List Gp} (h : okGs l) : (allN l).length ≤ 1000000 := by
  have h2 : (allN l).length ≤ l.length * 1000 := flatMap_len' l fun g hg => (h.2 g hg).2
  have h3 : l.length * 1000 ≤ 1000 * 1000 := Nat.mul_le_mul_right _ h.1
  omega
theorem neg_ge : decide ((-1 : Int) ≥ 0) = false := by decide
theorem nat_ge {k : Nat} : decide ((k : Int) ≥ 0) = true := by simp
theorem kids_some {l : List Gp} {name : Nm} {g : Gp} (h : findS l name = some g) : kidsS l name = g.groups := by rw [kidsS, h]; rfl
theorem kids_none {l : List Gp} {name : Nm} (h : findS l name = none) : kidsS l name = [] := by rw [kidsS, h]; rfl
theorem kids_mem' {l : List Gp} {name : Nm} : ∀ x ∈ kidsS l name, x ∈ allN l := fun x hx => kids_mem hx

theorem c_R43_below (l : List Gp) (ns : List Nm) (ho : okGs l) (hn : SK l ns) : PureC PR n_R43_below [.sl (l.map eGp) 0, .sl (ns.map VV.str) 0] (.sl ((belowS l ns).map VV.str) 0) := by
  refine pure_of_wp m_R43_below rfl (by simp [argOk_sl]) ?_
  unfold FnW v_R43_below
  have hal := allN_len ho
  have hnl : ns.length ≤ maxLen := by rw [maxLen_eq]; have := hn.len; omega
  have hlm : l.length ≤ maxLen := by rw [maxLen_eq]; have := ho.1; omega
  simp only [go_sem]
  refine v_for (α := Nat) (base := 0) (marks := []) (pu := true) (good := fun i => i ≤ ns.length) (m := fun i => ns.length - i)
    (E := fun i => [(0, .sl (l.map eGp) 0), (1, .sl (ns.map VV.str) 0), (5, .sl ((belowL l (ns.take i) ns).map VV.str) 0), (6, .int .i64 i)]) (O := fun i => [])
    (by intro i _; simp [go_sem, Obj.idsB]) rfl ?_ 0 _ (by omega) rfl rfl rfl rfl rfl
  intro i hi
  simp only [go_sem]
  refine if_s (fun ht => ?_) (fun hf => ?_)
  · have hlt := len_lt ht
    have gi := get_map VV.str hlt
    simp only [go_sem, gi]
    refine callW_pure (c_R43_at l ns[i] hlm) (by simp only [go_sem]) (by simp only [go_sem]) ?_
    have hs : belowL l (ns.take (i + 1)) ns = putAll (kidsS l ns[i]) (belowL l (ns.take i) ns) := belowL_take hlt
    have hB : SK l (belowL l (ns.take i) ns) := hn.belowL
    generalize belowL l (ns.take i) ns = o at *
    rcases at_cases l ns[i] with ⟨ha, hfs⟩ | ⟨k, hk, ha, hfs⟩
    · have hkd := kids_none hfs
      simp only [go_sem, ha]
      refine v_for (α := Unit) (base := 0) (marks := []) (pu := true) (good := fun _ => True) (m := fun _ => 0)
        (E := fun _ => [(0, .sl (l.map eGp) 0), (1, .sl (ns.map VV.str) 0), (5, .sl (o.map VV.str) 0), (6, .int .i64 i), (7, .int .i64 (-1)), (8, .int .i64 0)]) (O := fun i => [])
        (by intro i _; simp [go_sem, Obj.idsB]) rfl ?_ () _ trivial rfl rfl rfl rfl rfl
      intro _ _
      simp only [go_sem, neg_ge]
      exact ⟨i + 1, by omega, by simp only; omega, by simp only [go_sem, wrap_len hlt hnl, hs, hkd]; rfl, rfl, rfl, rfl, rfl⟩
    · have hkd := kids_some hfs
      have gk := get_map eGp hk
      have hgl : l[k].groups.length ≤ 1000 := (ho.2 _ (List.getElem_mem hk)).2
      have hgm : l[k].groups.length ≤ maxLen := by rw [maxLen_eq]; omega
      rw [hkd] at hs
      have hsub : ∀ x ∈ l[k].groups, x ∈ allN l := by rw [← hkd]; exact kids_mem'
      simp only [go_sem, ha]
      refine v_for (α := Nat) (base := 0) (marks := []) (pu := true) (good := fun j => j ≤ l[k].groups.length) (m := fun j => l[k].groups.length - j)
        (E := fun j => [(0, .sl (l.map eGp) 0), (1, .sl (ns.map VV.str) 0), (5, .sl ((putAll (l[k].groups.take j) o).map VV.str) 0), (6, .int .i64 i), (7, .int .i64 k), (8, .int .i64 j)]) (O := fun i => [])
        (by intro i _; simp [go_sem, Obj.idsB]) rfl ?_ 0 _ (by omega) rfl rfl rfl rfl rfl
      intro j hj
      simp only [go_sem, nat_ge, gk]
      refine if_s (fun ht2 => ?_) (fun hf2 => ?_)
      · have hlt2 := len_lt ht2
        have gj := get_map VV.str hlt2
        simp only [go_sem, gk, gj]
        have hP : SK l (putAll (l[k].groups.take j) o) := hB.all fun x hx => hsub x (List.mem_of_mem_take hx)
        refine callW_pure (c_R26_PutText (putAll (l[k].groups.take j) o) l[k].groups[j] (by have := hP.len; omega)) (by simp only [go_sem]) (by simp only [go_sem]) ?_
        simp only [go_sem]
        exact ⟨j + 1, by omega, by simp only; omega, by simp only [go_sem, wrap_len hlt2 hgm, putAll_take hlt2]; rfl, rfl, rfl, rfl, rfl⟩
      · have hje : j = l[k].groups.length := by have := len_ge hf2; omega
        subst hje
        simp only [go_sem]
        exact ⟨i + 1, by omega, by simp only; omega, by simp only [go_sem, wrap_len hlt hnl, hs, List.take_length], rfl, rfl, rfl, rfl⟩
  have hie : i = ns.length := by have := len_ge hf; omega
  subst hie
  simp only [go_sem, List.take_length]
  rfl

theorem c_R43_inside (l : List Gp) (name : Nm) (ho : okGs l) : PureC PR n_R43_inside [.sl (l.map eGp) 0, .str name] (.sl ((insideS l name).map VV.str) 0) := by
  refine pure_of_wp m_R43_inside rfl (by simp [argOk_sl, argOk_str]) ?_
  unfold FnW v_R43_inside
  have hal := allN_len ho
  have hlm : l.length ≤ maxLen := by rw [maxLen_eq]; have := ho.1; omega
  simp only [go_sem]
  refine callW_pure (c_R43_at l name hlm) (by simp only [go_sem]) (by simp only [go_sem]) ?_
  -- the rounds
  have fin : ∀ st : St, keepE st.env [0, 5] = [(0, .sl (l.map eGp) 0), (5, .sl ((putAll (kidsS l name) []).map VV.str) 0)] → True := fun _ _ => trivial
  rcases at_cases l name with ⟨ha, hfs⟩ | ⟨k, hk, ha, hfs⟩
  · have hkd := kids_none hfs
    have h0 : putAll (kidsS l name) [] = [] := by rw [hkd]; rfl
    simp only [go_sem, ha]
    refine v_for (α := Unit) (base := 0) (marks := []) (pu := true) (good := fun _ => True) (m := fun _ => 0)
      (E := fun _ => [(0, .sl (l.map eGp) 0), (5, .sl [] 0), (6, .int .i64 (-1)), (7, .int .i64 0)]) (O := fun i => [])
      (by intro i _; simp [go_sem, Obj.idsB]) rfl ?_ () _ trivial rfl rfl rfl rfl rfl
    intro _ _
    simp only [go_sem, neg_ge]
    refine v_for (α := Nat) (base := 0) (marks := []) (pu := true) (good := fun i => i ≤ l.length) (m := fun i => l.length - i)
      (E := fun i => [(0, .sl (l.map eGp) 0), (5, .sl ((insideN l name i).map VV.str) 0), (8, .int .i64 i)]) (O := fun i => [])
      (by intro i _; simp [go_sem, Obj.idsB]) rfl ?_ 0 _ (by omega) (by simp only [insideN, h0]; rfl) rfl rfl rfl rfl
    intro i hi
    simp only [go_sem]
    refine if_s (fun ht => ?_) (fun hf => ?_)
    · have hlt := len_lt ht
      simp only [go_sem]
      refine callW_pure (c_R43_below l (insideN l name i) ho (insideN_ok l name i)) (by simp only [go_sem]) (by simp only [go_sem]) ?_
      simp only [go_sem]
      exact ⟨i + 1, by omega, by simp only; omega, by simp only [go_sem, wrap_len hlt hlm, insideN], rfl, rfl, rfl, rfl⟩
    · have hie : i = l.length := by have := len_ge hf; omega
      subst hie
      simp only [go_sem]
      rfl
  · have hkd := kids_some hfs
    have gk := get_map eGp hk
    have hgl : l[k].groups.length ≤ 1000 := (ho.2 _ (List.getElem_mem hk)).2
    have hgm : l[k].groups.length ≤ maxLen := by rw [maxLen_eq]; omega
    have hsub : ∀ x ∈ l[k].groups, x ∈ allN l := by rw [← hkd]; exact kids_mem'
    simp only [go_sem, ha]
    refine v_for (α := Nat) (base := 0) (marks := []) (pu := true) (good := fun j => j ≤ l[k].groups.length) (m := fun j => l[k].groups.length - j)
      (E := fun j => [(0, .sl (l.map eGp) 0), (5, .sl ((putAll (l[k].groups.take j) []).map VV.str) 0), (6, .int .i64 k), (7, .int .i64 j)]) (O := fun i => [])
      (by intro i _; simp [go_sem, Obj.idsB]) rfl ?_ 0 _ (by omega) rfl rfl rfl rfl rfl
    intro j hj
    simp only [go_sem, nat_ge, gk]
    refine if_s (fun ht2 => ?_) (fun hf2 => ?_)
    · have hlt2 := len_lt ht2
      have gj := get_map VV.str hlt2
      simp only [go_sem, gk, gj]
      have hP : SK l (putAll (l[k].groups.take j) []) := (SK.nil l).all fun x hx => hsub x (List.mem_of_mem_take hx)
      refine callW_pure (c_R26_PutText (putAll (l[k].groups.take j) []) l[k].groups[j] (by have := hP.len; omega)) (by simp only [go_sem]) (by simp only [go_sem]) ?_
      simp only [go_sem]
      exact ⟨j + 1, by omega, by simp only; omega, by simp only [go_sem, wrap_len hlt2 hgm, putAll_take hlt2]; rfl, rfl, rfl, rfl, rfl⟩
    have hje : j = l[k].groups.length := by have := len_ge hf2; omega
    subst hje
    simp only [go_sem]
    refine v_for (α := Nat) (base := 0) (marks := []) (pu := true) (good := fun i => i ≤ l.length) (m := fun i => l.length - i)
      (E := fun i => [(0, .sl (l.map eGp) 0), (5, .sl ((insideN l name i).map VV.str) 0), (8, .int .i64 i)]) (O := fun i => [])
      (by intro i _; simp [go_sem, Obj.idsB]) rfl ?_ 0 _ (by omega) (by simp only [insideN, hkd, List.take_length]; rfl) rfl rfl rfl rfl
    intro i hi
    simp only [go_sem]
    refine if_s (fun ht => ?_) (fun hf => ?_)
    · have hlt := len_lt ht
      simp only [go_sem]
      refine callW_pure (c_R43_below l (insideN l name i) ho (insideN_ok l name i)) (by simp only [go_sem]) (by simp only [go_sem]) ?_
      simp only [go_sem]
      exact ⟨i + 1, by omega, by simp only; omega, by simp only [go_sem, wrap_len hlt hlm, insideN], rfl, rfl, rfl, rfl⟩
    · have hie : i = l.length := by have := len_ge hf; omega
      subst hie
      simp only [go_sem]
      rfl
end Go.Proofs
