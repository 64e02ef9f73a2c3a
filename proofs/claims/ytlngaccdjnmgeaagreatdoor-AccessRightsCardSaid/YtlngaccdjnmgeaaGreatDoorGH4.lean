/- V, proofs: the document's depth, among groups without a loop. Conditions: the lists' lengths. -/
import Derived.Test.YtlngaccdjnmgeaaGreatDoorGH3
set_option linter.unusedVariables false
set_option linter.unusedSimpArgs false
namespace Go.Proofs
open Go.V Go.RowKit

def maxStep (f : Nm → Int) (m : Int) (x : Nm) : Int := if decide (f x > m) = true then f x else m
def depthR (l : List Gp) : Nat → Nm → Int
  | 0, _ => 0
  | n + 1, name => match findS l name with
    | none => 0
    | some g => g.groups.foldl (maxStep (depthR l n)) 0 + 1
theorem maxStep_le {f : Nm → Int} {b : Int} (h : ∀ x, f x ≤ b) : ∀ (l : List Nm) (m : Int), m ≤ b → l.foldl (maxStep f) m ≤ b
  | [], _, hm => hm
  | x :: r, m, hm => maxStep_le h r _ (by unfold maxStep; split; exact h x; exact hm)
theorem maxStep_ge {f : Nm → Int} : ∀ (l : List Nm) (m : Int), m ≤ l.foldl (maxStep f) m
  | [], _ => Int.le_refl _
  | x :: r, m => Int.le_trans (by unfold maxStep; split; rename_i h; simp at h; omega; exact Int.le_refl _) (maxStep_ge r _)
theorem depthR_le (l : List Gp) : ∀ (n : Nat) (name : Nm), depthR l n name ≤ n ∧ 0 ≤ depthR l n name
  | 0, _ => by rw [depthR]; omega
  | n + 1, name => by
    rw [depthR]
    cases findS l name with
    | none => simp only; omega
    | some g =>
      have h1 := maxStep_le (f := depthR l n) (b := n) (fun x => (depthR_le l n x).1) g.groups 0 (by omega)
      have h2 := maxStep_ge (f := depthR l n) g.groups 0
      simp only
      omega
def rank (l : List Gp) (name : Nm) : Nat := (insideS l name).length
def falls (l : List Gp) : Prop := ∀ name, ∀ c ∈ kidsS l name, rank l c < rank l name
theorem fold_take {f : Nm → Int} {ks : List Nm} {j : Nat} (h : j < ks.length) : (ks.take (j + 1)).foldl (maxStep f) 0 = maxStep f ((ks.take j).foldl (maxStep f) 0) ks[j] := by
  rw [take_succ h, List.foldl_append]; rfl
theorem c_R43_depth (l : List Gp) (ho : okGs l) (hr : falls l) : ∀ (n : Nat) (name : Nm), rank l name < n → n ≤ 2000000 → PureC PR n_R43_depth [.sl (l.map eGp) 0, .str name] (.int .i64 (depthR l n name)) := by
  have hlm : l.length ≤ maxLen := by rw [maxLen_eq]; have := ho.1; omega
  intro n
  induction n with
  | zero => intro name h; omega
  | succ n ih =>
  intro name hn hnb
  refine pure_of_wp m_R43_depth rfl (by simp [argOk_sl, argOk_str]) ?_
  unfold FnW v_R43_depth
  simp only [go_sem]
  refine callW_pure (c_R43_at l name hlm) (by simp only [go_sem]) (by simp only [go_sem]) ?_
  rcases at_cases l name with ⟨ha, hfs⟩ | ⟨k, hk, ha, hfs⟩
  · have hneg : decide ((-1 : Int) < 0) = true := by decide
    simp only [go_sem, ha, hneg, depthR, hfs]
  · have hneg : decide ((k : Int) < 0) = false := by simp
    have gk := get_map eGp hk
    have hk0 : (0 : Int) ≤ (k : Int) := by omega
    have hgl : l[k].groups.length ≤ 1000 := (ho.2 _ (List.getElem_mem hk)).2
    have hgm : l[k].groups.length ≤ maxLen := by rw [maxLen_eq]; omega
    have hkd := kids_some hfs
    have hD : depthR l (n + 1) name = l[k].groups.foldl (maxStep (depthR l n)) 0 + 1 := by rw [depthR, hfs]
    rw [hD]
    simp only [go_sem, ha, hneg]
    refine v_for (α := Nat) (base := 0) (marks := []) (pu := true) (good := fun j => j ≤ l[k].groups.length) (m := fun j => l[k].groups.length - j)
      (E := fun j => [(0, .sl (l.map eGp) 0), (5, .int .i64 k), (6, .int .i64 ((l[k].groups.take j).foldl (maxStep (depthR l n)) 0)), (7, .int .i64 j)]) (O := fun _ => [])
      (by intro i _; simp [go_sem, Obj.idsB]) rfl ?_ 0 _ (by omega) rfl rfl rfl rfl rfl
    intro j hj
    simp only [go_sem, gk]
    refine if_s (fun ht => ?_) (fun hf => ?_)
    · have hlt := len_lt ht
      have gj := get_map VV.str hlt
      have hc : rank l l[k].groups[j] < n := by
        have := hr name l[k].groups[j] (by rw [hkd]; exact List.getElem_mem hlt)
        omega
      have hs := fold_take (f := depthR l n) hlt
      simp only [go_sem, gk, gj]
      refine callW_pure (ih l[k].groups[j] hc (by omega)) (by simp only [go_sem]) (by simp only [go_sem]) ?_
      simp only [go_sem]
      refine if_s (fun h => ?_) (fun h => ?_) <;> simp only [go_sem]
      · exact ⟨j + 1, by omega, by simp only; omega, by simp only [go_sem, wrap_len hlt hgm, hs, maxStep, h, if_true], rfl, rfl, rfl, rfl⟩
      · exact ⟨j + 1, by omega, by simp only; omega, by simp only [go_sem, wrap_len hlt hgm, hs, maxStep, h, if_false, Bool.false_eq_true], rfl, rfl, rfl, rfl⟩
    · have hje : j = l[k].groups.length := by have := len_ge hf; omega
      subst hje
      have h1 := maxStep_le (f := depthR l n) (b := n) (fun x => (depthR_le l n x).1) l[k].groups 0 (by omega)
      have h2 := maxStep_ge (f := depthR l n) l[k].groups 0
      have hw : IntKind.i64.wrap (l[k].groups.foldl (maxStep (depthR l n)) 0 + 1) = l[k].groups.foldl (maxStep (depthR l n)) 0 + 1 := wrap_int (by omega) (by omega)
      simp only [go_sem, List.take_length, hw]
end Go.Proofs
