/- V, proofs: the document's own: Users, In. Conditions: the lists' lengths. -/
import Derived.Test.YtlngaccdjnmgeaaGreatDoorGE4
set_option linter.unusedVariables false
set_option linter.unusedSimpArgs false
namespace Go.Proofs
open Go.V Go.RowKit

def addU (l : List Gp) (o : List Int) (n : Nm) : List Int := if (findS l n).isSome then orS o (usersOf l n) else o
def usersR (l : List Gp) (ns : List Nm) : List Int := ns.foldl (addU l) []
theorem usersR_take {l : List Gp} {ns : List Nm} {i : Nat} (h : i < ns.length) : usersR l (ns.take (i + 1)) = addU l (usersR l (ns.take i)) ns[i] := by
  rw [take_succ h, usersR, List.foldl_append]; rfl
theorem orS_len {a b : List Int} : (orS a b).length ≤ a.length + b.length := by
  have h1 := orAll_len (b := b) (o := orAll a [])
  have h2 := orAll_len (b := a) (o := [])
  simp only [List.length_nil] at h2
  unfold orS
  omega
theorem usersR_len {l : List Gp} (h : okGs l) (ns : List Nm) : (usersR l ns).length ≤ ns.length * 1000 := by
  have key : ∀ (ns : List Nm) (o : List Int), (ns.foldl (addU l) o).length ≤ o.length + ns.length * 1000 := by
    intro ns
    induction ns with
    | nil => intro o; simp
    | cons x t ih =>
      intro o
      have h1 := ih (addU l o x)
      have h2 : (addU l o x).length ≤ o.length + 1000 := by
        unfold addU
        split
        · have := orS_len (a := o) (b := usersOf l x); have := usersOf_len h x; omega
        · omega
      simp only [List.foldl_cons, List.length_cons]
      omega
  have := key ns []
  simpa [usersR] using this
theorem usersR_mem {l : List Gp} {ns : List Nm} {u : Int} : u ∈ usersR l ns ↔ ∃ n ∈ ns, u ∈ usersOf l n := by
  have key : ∀ (ns : List Nm) (o : List Int), u ∈ ns.foldl (addU l) o ↔ u ∈ o ∨ ∃ n ∈ ns, u ∈ usersOf l n := by
    intro ns
    induction ns with
    | nil => intro o; simp
    | cons x t ih =>
      intro o
      have h2 : u ∈ addU l o x ↔ u ∈ o ∨ u ∈ usersOf l x := by
        unfold addU
        cases hf : findS l x with
        | none => simp [usersOf, hf, gp0]
        | some g => simp [orS, orAll_mem]
      rw [List.foldl_cons, ih, h2]
      simp only [List.mem_cons]
      constructor
      · rintro ((h | h) | ⟨n, h1, h3⟩)
        · exact .inl h
        · exact .inr ⟨x, .inl rfl, h⟩
        · exact .inr ⟨n, .inr h1, h3⟩
      · rintro (h | ⟨n, rfl | h1, h3⟩)
        · exact .inl (.inl h)
        · exact .inl (.inr h3)
        · exact .inr ⟨n, h1, h3⟩
  have := key ns []
  simpa [usersR] using this
def namesR (l : List Gp) (name : Nm) : List Nm := name :: insideS l name
theorem namesR_len {l : List Gp} (h : okGs l) (name : Nm) : (namesR l name).length ≤ 1000001 := by
  have := (insideN_ok l name l.length).len
  have := allN_len h
  simp only [namesR, insideS, List.length_cons]
  omega

theorem c_R43_Users (l : List Gp) (name : Nm) (ho : okGs l) : PureC PR n_R43_Users [.sl (l.map eGp) 0, .str name] (.sl ((usersR l (namesR l name)).map (VV.int .i64)) 0) := by
  refine pure_of_wp m_R43_Users rfl (by simp [argOk_sl, argOk_str]) ?_
  unfold FnW v_R43_Users
  have hlm : l.length ≤ maxLen := by rw [maxLen_eq]; have := ho.1; omega
  have hnl := namesR_len ho name
  have hnm : (namesR l name).length ≤ maxLen := by rw [maxLen_eq]; omega
  simp only [go_sem]
  refine callW_pure (c_R43_inside l name ho) (by simp only [go_sem]) (by simp only [go_sem]) ?_
  have hc : (namesR l name).length * 16 ≤ 35184372088832 := cap_le (by omega) (by decide)
  have hfold : VV.str name :: (insideS l name).map VV.str = (namesR l name).map VV.str := rfl
  have hlen : 1 + (insideS l name).length = (namesR l name).length := by simp only [namesR, List.length_cons]; omega
  simp only [go_sem, hfold, hlen, hc]
  generalize hN : namesR l name = ns at *
  refine v_for (α := Nat) (base := 0) (marks := []) (pu := true) (good := fun i => i ≤ ns.length) (m := fun i => ns.length - i)
    (E := fun i => [(0, .sl (l.map eGp) 0), (5, .sl ((usersR l (ns.take i)).map (VV.int .i64)) 0), (6, .sl (ns.map VV.str) 2), (7, .int .i64 i)]) (O := fun i => [.tok ns.length 1])
    (by intro i _; simp [go_sem, Obj.idsB]) rfl ?_ 0 _ (by omega) rfl rfl rfl rfl rfl
  intro i hi
  simp only [go_sem]
  refine if_s (fun ht => ?_) (fun hf => ?_)
  · have hlt := len_lt ht
    have gi := get_map VV.str hlt
    simp only [go_sem, gi]
    refine callW_pure (c_R43_at l ns[i] hlm) (by simp only [go_sem]) (by simp only [go_sem]) ?_
    have hs : usersR l (ns.take (i + 1)) = addU l (usersR l (ns.take i)) ns[i] := usersR_take hlt
    have hB := usersR_len ho (ns.take i)
    rw [List.length_take] at hB
    generalize usersR l (ns.take i) = o at *
    rcases at_cases l ns[i] with ⟨ha, hfs⟩ | ⟨k, hk, ha, hfs⟩
    · have hu : addU l o ns[i] = o := by rw [addU, hfs]; rfl
      simp only [go_sem, ha, neg_ge]
      exact ⟨i + 1, by omega, by simp only; omega, by simp only [go_sem, wrap_len hlt hnm, hs, hu], rfl, rfl, rfl, rfl⟩
    · have hu : addU l o ns[i] = orS o l[k].users := by rw [addU, usersOf, hfs]; rfl
      have gk := get_map eGp hk
      have hgl : l[k].users.length ≤ 1000 := (ho.2 _ (List.getElem_mem hk)).1
      simp only [go_sem, ha, nat_ge, gk]
      have hom : min i ns.length * 1000 ≤ 1000001 * 1000 := Nat.mul_le_mul_right _ (by omega)
      refine callW_pure (c_R05_Or o l[k].users (by omega)) (by simp only [go_sem]) (by simp only [go_sem]) ?_
      simp only [go_sem]
      exact ⟨i + 1, by omega, by simp only; omega, by simp only [go_sem, wrap_len hlt hnm, hs, hu], rfl, rfl, rfl, rfl⟩
  have hie : i = ns.length := by have := len_ge hf; omega
  subst hie
  simp only [go_sem, List.take_length]
def inR43 (l : List Gp) (name : Nm) (u : Int) : Bool := (usersR l (namesR l name)).contains u
theorem c_R43_In (l : List Gp) (name : Nm) (u : Int) (ho : okGs l) : PureC PR n_R43_In [.sl (l.map eGp) 0, .str name, .int .i64 u] (.bool (inR43 l name u)) := by
  refine pure_of_wp m_R43_In rfl (by simp [argOk_sl, argOk_str, argOk_int]) ?_
  unfold FnW v_R43_In
  simp only [go_sem]
  refine callW_pure (c_R43_Users l name ho) (by simp only [go_sem]) (by simp only [go_sem]) ?_
  have h1 := usersR_len ho (namesR l name)
  have h2 := namesR_len ho name
  have h3 : (namesR l name).length * 1000 ≤ 1000001 * 1000 := Nat.mul_le_mul_right _ h2
  simp only [go_sem]
  refine callW_pure (c_R05_In (usersR l (namesR l name)) u (by rw [maxLen_eq]; omega)) (by simp only [go_sem]) (by simp only [go_sem]) ?_
  simp only [go_sem]
  rfl
end Go.Proofs
