/- V, proofs: stream.Join and the document's Join. Conditions: the lists' lengths. -/
import Derived.Test.YteekodocdhapdaaGreatDoorSQ1
set_option linter.unusedVariables false
set_option linter.unusedSimpArgs false
namespace Go.Proofs
open Go.V Go.RowKit

def hasD (acc : List Rs) (k : Int) : Bool := acc.any fun q => q.doc == k
def addD (acc : List Rs) (r : Rs) : List Rs := if hasD acc r.doc = true then acc else acc ++ [r]
def ddS (acc l : List Rs) : List Rs := l.foldl addD acc
theorem ddS_at {acc l : List Rs} {i : Nat} (h : i < l.length) : ddS acc (l.take (i + 1)) = addD (ddS acc (l.take i)) l[i] := by
  unfold ddS; rw [take_succ h, List.foldl_append]; rfl
theorem addD_len (acc : List Rs) (r : Rs) : (addD acc r).length ≤ acc.length + 1 := by
  unfold addD; split <;> simp
theorem ddS_len : ∀ (l acc : List Rs), (ddS acc l).length ≤ acc.length + l.length
  | [], acc => by simp [ddS]
  | x :: r, acc => by
    have h1 := ddS_len r (addD acc x)
    have h2 := addD_len acc x
    have h3 : ddS acc (x :: r) = ddS (addD acc x) r := rfl
    rw [h3]; simp; omega
theorem ddS_mem : ∀ (l acc : List Rs) (z : Rs), z ∈ ddS acc l → z ∈ acc ∨ z ∈ l
  | [], acc, z, h => .inl h
  | x :: r, acc, z, h => by
    rcases ddS_mem r (addD acc x) z h with q | q
    · unfold addD at q
      split at q
      · exact .inl q
      · rcases List.mem_append.1 q with q | q
        · exact .inl q
        · rw [List.mem_singleton] at q; subst q; exact .inr List.mem_cons_self
    · exact .inr (List.mem_cons_of_mem _ q)
def eMp (acc : List Rs) : List (VV × VV) := acc.map fun r => (.int .i64 r.doc, .bool true)
theorem find_D (k : Int) : ∀ acc : List Rs, mfind (.int .i64 k) (eMp acc) = some (if hasD acc k = true then some (.bool true) else none)
  | [] => rfl
  | q :: r => by
    have ih := find_D k r
    simp only [eMp, List.map_cons, mfind, eqV, eq0, if_true] at ih ⊢
    by_cases h : k = q.doc
    · subst h
      simp only [beq_self_eq_true, hasD, List.any_cons, Bool.true_or, if_true]
    · have h1 : (k == q.doc) = false := by simpa using h
      have h2 : (q.doc == k) = false := by simpa using fun e : q.doc = k => h e.symm
      simp only [h1, hasD, List.any_cons, h2, Bool.false_or]
      exact ih
theorem put_D (r : Rs) : ∀ acc : List Rs, mput (.int .i64 r.doc) (.bool true) (eMp acc) = some (eMp (addD acc r))
  | [] => rfl
  | q :: s => by
    have ih := put_D r s
    by_cases h : r.doc = q.doc
    · have h3 : hasD (q :: s) r.doc = true := by simp [hasD, h]
      simp only [addD, h3, if_true]
      simp only [eMp, List.map_cons, mput, eqV, eq0, if_true, h, beq_self_eq_true]
    · have h1 : (r.doc == q.doc) = false := by simpa using h
      have h2 : (q.doc == r.doc) = false := by simpa using fun e : q.doc = r.doc => h e.symm
      have h3 : addD (q :: s) r = q :: addD s r := by
        unfold addD hasD
        simp only [List.any_cons, h2, Bool.false_or]
        split <;> rfl
      rw [h3]
      simp only [eMp, List.map_cons, mput, eqV, eq0, if_true, h1] at ih ⊢
      rw [ih]; rfl
def sel (a b : An) : Nat → List Rs
  | 0 => a.rs
  | _ + 1 => b.rs
def accAt (a b : An) : Nat → List Rs
  | 0 => []
  | j + 1 => ddS (accAt a b j) (sel a b j)
theorem sel_get (a b : An) {j : Nat} (h : j < 2) : ([VV.sl (a.rs.map eRs) 0, VV.sl (b.rs.map eRs) 0] : List VV)[j]? = some (.sl ((sel a b j).map eRs) 0) := by
  match j, h with
  | 0, _ => rfl
  | 1, _ => rfl
theorem sel_len {a b : An} (ha : a.rs.length ≤ 1000) (hb : b.rs.length ≤ 1000) (j : Nat) : (sel a b j).length ≤ 1000 := by
  cases j with
  | zero => exact ha
  | succ j => exact hb
theorem accAt_len {a b : An} (ha : a.rs.length ≤ 1000) (hb : b.rs.length ≤ 1000) : ∀ j : Nat, (accAt a b j).length ≤ 1000 * j
  | 0 => by simp [accAt]
  | j + 1 => by
    have h1 := ddS_len (sel a b j) (accAt a b j)
    have h2 := accAt_len ha hb j
    have h3 := sel_len ha hb j
    rw [accAt]; omega
def joinS (l : List Dc) (a b : An) : An := ⟨stS (lessR l) (accAt a b 2), a.ps ++ b.ps, a.c && b.c⟩
theorem cn_int {k : IntKind} {n : Int} : (VV.int k n).canon = true := rfl
theorem cn_bool {b : Bool} : (VV.bool b).canon = true := rfl
theorem c_Join (l : List Dc) (hl : l.length ≤ maxLen) (a b : An) (ha : a.rs.length ≤ 1000) (hb : b.rs.length ≤ 1000) (pa : a.ps.length ≤ 1000) (pb : b.ps.length ≤ 1000) :
    PureC PR n_stream_Join [.sl (l.map eDc) 0, eAn a, eAn b] (eAn (joinS l a b)) := by
  have hA2 := accAt_len ha hb 2
  have qS := c_Sort l hl (accAt a b 2) (by omega)
  have hc1 : a.ps.length * 32 ≤ 35184372088832 := cap_rs (by omega) (by decide)
  have hc2 : (a.ps.length + b.ps.length) * 32 ≤ 35184372088832 := cap_rs (by omega) (by decide)
  refine pure_of_wp m_stream_Join rfl (by simp [argOk, eAn, VV.noHnd, VV.noHnd0, VV.ids, idsL]) ?_
  unfold FnW
  have hv : v_stream_Join.body = v_stream_Join.body := rfl
  conv at hv => rhs; unfold v_stream_Join
  rw [hv]
  clear hv
  have hres : v_stream_Join.results = [(6, some 3)] := rfl
  have hfr : v_stream_Join.fresh = none := rfl
  generalize hF : eAn (joinS l a b) = F
  simp only [go_sem, eAn]
  refine v_for (α := Nat) (base := 0) (marks := []) (pu := true) (good := fun j => j ≤ 2) (m := fun j => 2 - j)
    (E := fun j => [(0, .sl (l.map eDc) 0), (4, .ptr 0 0), (5, .ptr 1 0), (6, .ptr 2 0), (7, .mp 3), (8, .sl ((accAt a b j).map eRs) 6), (18, .sl [.sl (a.rs.map eRs) 0, .sl (b.rs.map eRs) 0] 0), (19, .int .i64 2), (20, .int .i64 (j : Nat))])
    (O := fun j => [.cells [.sl (a.rs.map eRs) 0, .sl (a.ps.map ePg) 0, .bool a.c], .cells [.sl (b.rs.map eRs) 0, .sl (b.ps.map ePg) 0, .bool b.c], .cells [.nils, .nils, .bool false], .map (eMp (accAt a b j)), .tok (accAt a b j).length 3])
    (by intro j _; simp [go_sem, Obj.idsB, eMp]) rfl ?_ 0 _ (Nat.zero_le _) rfl rfl rfl rfl rfl
  intro j hj
  by_cases h2 : j < 2
  · have d2 : decide ((j : Int) < 2) = true := decide_eq_true (by omega)
    have hg := sel_get a b h2
    have wj : IntKind.i64.wrap ((j : Int) + 1) = ((j + 1 : Nat) : Int) := wrap_succ (by omega)
    have hsl := sel_len ha hb j
    have hal := accAt_len ha hb j
    have hacc : accAt a b (j + 1) = ddS (accAt a b j) (sel a b j) := rfl
    generalize sel a b j = s at *
    generalize accAt a b j = acc at *
    simp only [go_sem, d2, hg]
    refine v_for (α := Nat) (base := 0) (marks := []) (pu := true) (good := fun i => i ≤ s.length) (m := fun i => s.length - i)
      (E := fun i => [(0, .sl (l.map eDc) 0), (4, .ptr 0 0), (5, .ptr 1 0), (6, .ptr 2 0), (7, .mp 3), (8, .sl ((ddS acc (s.take i)).map eRs) 6), (18, .sl [.sl (a.rs.map eRs) 0, .sl (b.rs.map eRs) 0] 0), (19, .int .i64 2), (20, .int .i64 (j : Nat)), (24, .sl (s.map eRs) 0), (25, .int .i64 s.length), (26, .int .i64 (i : Nat))])
      (O := fun i => [.cells [.sl (a.rs.map eRs) 0, .sl (a.ps.map ePg) 0, .bool a.c], .cells [.sl (b.rs.map eRs) 0, .sl (b.ps.map ePg) 0, .bool b.c], .cells [.nils, .nils, .bool false], .map (eMp (ddS acc (s.take i))), .tok (ddS acc (s.take i)).length 3])
      (by intro j _; simp [go_sem, Obj.idsB, eMp]) rfl ?_ 0 _ (Nat.zero_le _) rfl rfl rfl rfl rfl
    intro i hi
    by_cases h : i < s.length
    · have ga := get_map eRs h
      have wi : IntKind.i64.wrap ((i : Int) + 1) = ((i + 1 : Nat) : Int) := wrap_succ (by omega)
      have hat := ddS_at (acc := acc) h
      have hlen := ddS_len (s.take i) acc
      rw [List.length_take] at hlen
      generalize ddS acc (s.take i) = D at *
      have hc : (D.length + 1) * 40 ≤ 35184372088832 := cap_rs (by omega) (by decide)
      have hf := find_D s[i].doc D
      have hp := put_D s[i] D
      cases e : hasD D s[i].doc with
      | true =>
        rw [e] at hf
        have hadd : addD D s[i] = D := by unfold addD; rw [e]; rfl
        rw [hadd] at hp hat
        simp only [if_true] at hf
        simp only [go_sem, lt_t h, ga, fitsL, hf, hp, Bool.not_true, cn_int, cn_bool]
        exact ⟨i + 1, by omega, by simp only; omega, by simp only [go_sem, wi, hat], by simp only [hat]; rfl, rfl, rfl, rfl⟩
      | false =>
        rw [e] at hf
        have hadd : addD D s[i] = D ++ [s[i]] := by unfold addD; rw [e]; rfl
        rw [hadd] at hp hat
        simp only [if_false, Bool.false_eq_true] at hf
        simp only [go_sem, lt_t h, ga, fitsL, hf, hp, Bool.not_true, Bool.not_false, cn_int, cn_bool, eRs_box, hc]
        exact ⟨i + 1, by omega, by simp only; omega, by simp only [go_sem, wi, hat, List.map_append], by simp only [hat, List.length_append, List.length_singleton]; rfl, rfl, rfl, rfl⟩
    · have ht : s.take i = s := List.take_of_length_le (by omega)
      simp only [go_sem, lt_f h, ht]
      exact ⟨j + 1, by omega, by simp only; omega, by simp only [go_sem, wj, hacc], by simp only [hacc]; rfl, rfl, rfl, rfl⟩
  · obtain rfl : j = 2 := by omega
    have d2 : decide ((2 : Int) < 2) = false := by decide
    subst hF
    cases hca : a.c with
    | true =>
      simp only [go_sem, d2]
      refine callD_pure qS (by simp only [go_sem]) (by simp only [go_sem]) ?_
      simp only [go_sem, hc1, hc2]
      simp only [go_sem, hres, hfr, joinS, hca, Bool.true_and, List.map_append]
      exact ⟨by simp only [eAn, List.map_append], by simp [eAn, VV.ids, idsL]⟩
    | false =>
      simp only [go_sem, d2]
      refine callD_pure qS (by simp only [go_sem]) (by simp only [go_sem]) ?_
      simp only [go_sem, hc1, hc2]
      simp only [go_sem, hres, hfr, joinS, hca, Bool.false_and, List.map_append]
      exact ⟨by simp only [eAn, List.map_append], by simp [eAn, VV.ids, idsL]⟩
theorem c_R42_Join (l : List Dc) (hl : l.length ≤ maxLen) (a b : An) (ha : a.rs.length ≤ 1000) (hb : b.rs.length ≤ 1000) (pa : a.ps.length ≤ 1000) (pb : b.ps.length ≤ 1000) :
    PureC PR n_R42_Join [.sl (l.map eDc) 0, eAn a, eAn b] (eAn (joinS l a b)) := by
  have hA2 := accAt_len ha hb 2
  have qS := c_RSortR l hl (accAt a b 2) (by omega)
  rw [← sorts_one (lessR_wk l)] at qS
  refine pure_of_wp m_R42_Join rfl (by simp [argOk, eAn, VV.noHnd, VV.noHnd0, VV.ids, idsL]) ?_
  unfold FnW
  have hv : v_R42_Join.body = v_R42_Join.body := rfl
  conv at hv => rhs; unfold v_R42_Join
  rw [hv]
  clear hv
  have hres : v_R42_Join.results = [(6, some 3)] := rfl
  have hfr : v_R42_Join.fresh = none := rfl
  generalize hF : eAn (joinS l a b) = F
  simp only [go_sem, eAn]
  refine v_for (α := Nat) (base := 0) (marks := []) (pu := true) (good := fun j => j ≤ 2) (m := fun j => 2 - j)
    (E := fun j => [(0, .sl (l.map eDc) 0), (4, .ptr 0 0), (5, .ptr 1 0), (6, .ptr 2 0), (7, .sl ((accAt a b j).map eRs) 5), (8, .sl [.sl (a.rs.map eRs) 0, .sl (b.rs.map eRs) 0] 0), (9, .int .i64 (j : Nat))])
    (O := fun j => [.cells [.sl (a.rs.map eRs) 0, .sl (a.ps.map ePg) 0, .bool a.c], .cells [.sl (b.rs.map eRs) 0, .sl (b.ps.map ePg) 0, .bool b.c], .cells [.nils, .nils, .bool false], .tok (accAt a b j).length 3])
    (by intro j _; simp [go_sem, Obj.idsB]) rfl ?_ 0 _ (Nat.zero_le _) rfl rfl rfl rfl rfl
  intro j hj
  by_cases h2 : j < 2
  · have d2 : decide ((j : Int) < 2) = true := decide_eq_true (by omega)
    have hg := sel_get a b h2
    have wj : IntKind.i64.wrap ((j : Int) + 1) = ((j + 1 : Nat) : Int) := wrap_succ (by omega)
    have hsl := sel_len ha hb j
    have hal := accAt_len ha hb j
    have hacc : accAt a b (j + 1) = ddS (accAt a b j) (sel a b j) := rfl
    generalize sel a b j = s at *
    generalize accAt a b j = acc at *
    simp only [go_sem, d2]
    refine v_for (α := Nat) (base := 0) (marks := []) (pu := true) (good := fun i => i ≤ s.length) (m := fun i => s.length - i)
      (E := fun i => [(0, .sl (l.map eDc) 0), (4, .ptr 0 0), (5, .ptr 1 0), (6, .ptr 2 0), (7, .sl ((ddS acc (s.take i)).map eRs) 5), (8, .sl [.sl (a.rs.map eRs) 0, .sl (b.rs.map eRs) 0] 0), (9, .int .i64 (j : Nat)), (10, .int .i64 (i : Nat))])
      (O := fun i => [.cells [.sl (a.rs.map eRs) 0, .sl (a.ps.map ePg) 0, .bool a.c], .cells [.sl (b.rs.map eRs) 0, .sl (b.ps.map ePg) 0, .bool b.c], .cells [.nils, .nils, .bool false], .tok (ddS acc (s.take i)).length 3])
      (by intro j _; simp [go_sem, Obj.idsB]) rfl ?_ 0 _ (Nat.zero_le _) rfl rfl rfl rfl rfl
    intro i hi
    by_cases h : i < s.length
    · have ga := get_map eRs h
      have wi : IntKind.i64.wrap ((i : Int) + 1) = ((i + 1 : Nat) : Int) := wrap_succ (by omega)
      have hat := ddS_at (acc := acc) h
      have hlen := ddS_len (s.take i) acc
      rw [List.length_take] at hlen
      generalize ddS acc (s.take i) = D at *
      have hc : (D.length + 1) * 40 ≤ 35184372088832 := cap_rs (by omega) (by decide)
      simp only [go_sem, hg, lt_t h]
      refine v_for (α := Nat) (base := 0) (marks := []) (pu := true) (good := fun k => k ≤ D.length) (m := fun k => D.length - k)
        (E := fun k => [(0, .sl (l.map eDc) 0), (4, .ptr 0 0), (5, .ptr 1 0), (6, .ptr 2 0), (7, .sl (D.map eRs) 5), (8, .sl [.sl (a.rs.map eRs) 0, .sl (b.rs.map eRs) 0] 0), (9, .int .i64 (j : Nat)), (10, .int .i64 (i : Nat)), (11, .bool (hasD (D.take k) s[i].doc)), (12, .int .i64 (k : Nat))])
        (O := fun k => [.cells [.sl (a.rs.map eRs) 0, .sl (a.ps.map ePg) 0, .bool a.c], .cells [.sl (b.rs.map eRs) 0, .sl (b.ps.map ePg) 0, .bool b.c], .cells [.nils, .nils, .bool false], .tok D.length 3])
        (by intro j _; simp [go_sem, Obj.idsB]) rfl ?_ 0 _ (Nat.zero_le _) rfl rfl rfl rfl rfl
      intro k hk
      by_cases hkd : k < D.length
      · have gk := get_map eRs hkd
        have wk : IntKind.i64.wrap ((k : Int) + 1) = ((k + 1 : Nat) : Int) := wrap_succ (by omega)
        have hh : hasD (D.take (k + 1)) s[i].doc = (hasD (D.take k) s[i].doc || (D[k].doc == s[i].doc)) := by
          unfold hasD
          rw [take_succ hkd, List.any_append]
          simp
        cases e : hasD (D.take k) s[i].doc with
        | true =>
          rw [e, Bool.true_or] at hh
          simp only [go_sem, lt_t hkd, gk, ga, hg]
          exact ⟨k + 1, by omega, by simp only; omega, by simp only [go_sem, wk, hh], rfl, rfl, rfl, rfl⟩
        | false =>
          rw [e, Bool.false_or] at hh
          simp only [go_sem, lt_t hkd, gk, ga, hg]
          exact ⟨k + 1, by omega, by simp only; omega, by simp only [go_sem, wk, hh], rfl, rfl, rfl, rfl⟩
      · have htk : D.take k = D := List.take_of_length_le (by omega)
        cases e : hasD D s[i].doc with
        | true =>
          have hadd : addD D s[i] = D := by unfold addD; rw [e]; rfl
          rw [hadd] at hat
          simp only [go_sem, lt_f hkd, htk, e, Bool.not_true]
          exact ⟨i + 1, by omega, by simp only; omega, by simp only [go_sem, wi, hat], by simp only [hat]; rfl, rfl, rfl, rfl⟩
        | false =>
          have hadd : addD D s[i] = D ++ [s[i]] := by unfold addD; rw [e]; rfl
          rw [hadd] at hat
          simp only [go_sem, lt_f hkd, htk, e, Bool.not_false, hg, ga, eRs_box, hc]
          exact ⟨i + 1, by omega, by simp only; omega, by simp only [go_sem, wi, hat, List.map_append], by simp only [hat, List.length_append, List.length_singleton]; rfl, rfl, rfl, rfl⟩
    · have ht : s.take i = s := List.take_of_length_le (by omega)
      simp only [go_sem, hg, lt_f h, ht]
      exact ⟨j + 1, by omega, by simp only; omega, by simp only [go_sem, wj, hacc], by simp only [hacc]; rfl, rfl, rfl, rfl⟩
  · obtain rfl : j = 2 := by omega
    have d2 : decide ((2 : Int) < 2) = false := by decide
    subst hF
    have hcj : (if a.c = true then b.c else false) = (a.c && b.c) := by cases a.c <;> rfl
    generalize hD : stS (lessR l) (accAt a b 2) = D at *
    have hJ : joinS l a b = ⟨D, a.ps ++ b.ps, a.c && b.c⟩ := by unfold joinS; rw [hD]
    rw [hJ]
    clear hJ hcj
    have lastW : ∀ c : Bool, c = (a.c && b.c) → ∀ (n1 : Nat), True := fun _ _ _ => trivial
    cases hca : a.c with
    | true =>
      simp only [go_sem, d2]
      refine callD_pure qS (by simp only [go_sem]) (by simp only [go_sem]) ?_
      simp only [go_sem]
      refine v_for (α := Nat) (base := 0) (marks := []) (pu := true) (good := fun i => i ≤ a.ps.length) (m := fun i => a.ps.length - i)
        (E := fun i => [(4, .ptr 0 0), (5, .ptr 1 0), (6, .ptr 2 0), (13, .ptr 4 0), (14, .int .i64 (i : Nat))])
        (O := fun i => [.cells [.sl (a.rs.map eRs) 0, .sl (a.ps.map ePg) 0, .bool true], .cells [.sl (b.rs.map eRs) 0, .sl (b.ps.map ePg) 0, .bool b.c], .cells [.nils, .nils, .bool false], .tok (accAt a b 2).length 3, .cells [.sl (D.map eRs) 0, .sl ((a.ps.take i).map ePg) 7, .bool b.c], .tok i 4])
        (by intro j _; simp [go_sem, Obj.idsB]) rfl ?_ 0 _ (Nat.zero_le _) rfl rfl rfl rfl rfl
      intro i hi
      by_cases h : i < a.ps.length
      · have ga := get_map ePg h
        have wi : IntKind.i64.wrap ((i : Int) + 1) = ((i + 1 : Nat) : Int) := wrap_succ (by omega)
        have hti : (a.ps.take i).length = i := by rw [List.length_take]; omega
        have hc : (i + 1) * 32 ≤ 35184372088832 := cap_rs (by omega) (by decide)
        have hts := take_succ h
        simp only [go_sem, lt_t h, ga, ePg_box, hti, hc]
        exact ⟨i + 1, by omega, by simp only; omega, by simp only [go_sem, wi], by simp only [hts, List.map_append]; rfl, rfl, rfl, rfl⟩
      have ht : a.ps.take i = a.ps := List.take_of_length_le (by omega)
      obtain rfl : i = a.ps.length := by omega
      simp only [go_sem, lt_f h, ht]
      refine v_for (α := Nat) (base := 0) (marks := []) (pu := true) (good := fun i => i ≤ b.ps.length) (m := fun i => b.ps.length - i)
        (E := fun i => [(5, .ptr 1 0), (6, .ptr 2 0), (13, .ptr 4 0), (15, .int .i64 (i : Nat))])
        (O := fun i => [.cells [.sl (a.rs.map eRs) 0, .sl (a.ps.map ePg) 0, .bool true], .cells [.sl (b.rs.map eRs) 0, .sl (b.ps.map ePg) 0, .bool b.c], .cells [.nils, .nils, .bool false], .tok (accAt a b 2).length 3, .cells [.sl (D.map eRs) 0, .sl ((a.ps ++ b.ps.take i).map ePg) 7, .bool b.c], .tok (a.ps.length + i) 4])
        (by intro j _; simp [go_sem, Obj.idsB]) rfl ?_ 0 _ (Nat.zero_le _) rfl (by simp only [List.take_zero, List.append_nil]; rfl) rfl rfl rfl
      intro i hi
      by_cases h : i < b.ps.length
      · have ga := get_map ePg h
        have wi : IntKind.i64.wrap ((i : Int) + 1) = ((i + 1 : Nat) : Int) := wrap_succ (by omega)
        have hti : (a.ps ++ b.ps.take i).length = a.ps.length + i := by rw [List.length_append, List.length_take]; omega
        have hc : (a.ps.length + i + 1) * 32 ≤ 35184372088832 := cap_rs (by omega) (by decide)
        have hts := take_succ h
        simp only [go_sem, lt_t h, ga, ePg_box, hti, hc]
        exact ⟨i + 1, by omega, by simp only; omega, by simp only [go_sem, wi], by simp only [hts, ← List.append_assoc, List.map_append]; rfl, rfl, rfl, rfl⟩
      have ht : b.ps.take i = b.ps := List.take_of_length_le (by omega)
      simp only [go_sem, lt_f h, ht]
      simp only [go_sem, hres, hfr]
      exact ⟨by simp only [eAn, List.map_append, Bool.true_and], by simp [eAn, VV.ids, idsL]⟩
    | false =>
      simp only [go_sem, d2]
      refine callD_pure qS (by simp only [go_sem]) (by simp only [go_sem]) ?_
      simp only [go_sem]
      refine v_for (α := Nat) (base := 0) (marks := []) (pu := true) (good := fun i => i ≤ a.ps.length) (m := fun i => a.ps.length - i)
        (E := fun i => [(4, .ptr 0 0), (5, .ptr 1 0), (6, .ptr 2 0), (13, .ptr 4 0), (14, .int .i64 (i : Nat))])
        (O := fun i => [.cells [.sl (a.rs.map eRs) 0, .sl (a.ps.map ePg) 0, .bool false], .cells [.sl (b.rs.map eRs) 0, .sl (b.ps.map ePg) 0, .bool b.c], .cells [.nils, .nils, .bool false], .tok (accAt a b 2).length 3, .cells [.sl (D.map eRs) 0, .sl ((a.ps.take i).map ePg) 7, .bool false], .tok i 4])
        (by intro j _; simp [go_sem, Obj.idsB]) rfl ?_ 0 _ (Nat.zero_le _) rfl rfl rfl rfl rfl
      intro i hi
      by_cases h : i < a.ps.length
      · have ga := get_map ePg h
        have wi : IntKind.i64.wrap ((i : Int) + 1) = ((i + 1 : Nat) : Int) := wrap_succ (by omega)
        have hti : (a.ps.take i).length = i := by rw [List.length_take]; omega
        have hc : (i + 1) * 32 ≤ 35184372088832 := cap_rs (by omega) (by decide)
        have hts := take_succ h
        simp only [go_sem, lt_t h, ga, ePg_box, hti, hc]
        exact ⟨i + 1, by omega, by simp only; omega, by simp only [go_sem, wi], by simp only [hts, List.map_append]; rfl, rfl, rfl, rfl⟩
      have ht : a.ps.take i = a.ps := List.take_of_length_le (by omega)
      obtain rfl : i = a.ps.length := by omega
      simp only [go_sem, lt_f h, ht]
      refine v_for (α := Nat) (base := 0) (marks := []) (pu := true) (good := fun i => i ≤ b.ps.length) (m := fun i => b.ps.length - i)
        (E := fun i => [(5, .ptr 1 0), (6, .ptr 2 0), (13, .ptr 4 0), (15, .int .i64 (i : Nat))])
        (O := fun i => [.cells [.sl (a.rs.map eRs) 0, .sl (a.ps.map ePg) 0, .bool false], .cells [.sl (b.rs.map eRs) 0, .sl (b.ps.map ePg) 0, .bool b.c], .cells [.nils, .nils, .bool false], .tok (accAt a b 2).length 3, .cells [.sl (D.map eRs) 0, .sl ((a.ps ++ b.ps.take i).map ePg) 7, .bool false], .tok (a.ps.length + i) 4])
        (by intro j _; simp [go_sem, Obj.idsB]) rfl ?_ 0 _ (Nat.zero_le _) rfl (by simp only [List.take_zero, List.append_nil]; rfl) rfl rfl rfl
      intro i hi
      by_cases h : i < b.ps.length
      · have ga := get_map ePg h
        have wi : IntKind.i64.wrap ((i : Int) + 1) = ((i + 1 : Nat) : Int) := wrap_succ (by omega)
        have hti : (a.ps ++ b.ps.take i).length = a.ps.length + i := by rw [List.length_append, List.length_take]; omega
        have hc : (a.ps.length + i + 1) * 32 ≤ 35184372088832 := cap_rs (by omega) (by decide)
        have hts := take_succ h
        simp only [go_sem, lt_t h, ga, ePg_box, hti, hc]
        exact ⟨i + 1, by omega, by simp only; omega, by simp only [go_sem, wi], by simp only [hts, ← List.append_assoc, List.map_append]; rfl, rfl, rfl, rfl⟩
      have ht : b.ps.take i = b.ps := List.take_of_length_le (by omega)
      simp only [go_sem, lt_f h, ht]
      simp only [go_sem, hres, hfr]
      exact ⟨by simp only [eAn, List.map_append, Bool.false_and], by simp [eAn, VV.ids, idsL]⟩
end Go.Proofs
