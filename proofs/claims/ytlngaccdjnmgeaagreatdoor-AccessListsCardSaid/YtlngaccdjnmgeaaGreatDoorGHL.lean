/- V, proofs: the document's Docs, Revoked; Readers of both; the same numbers. Conditions: the lists' lengths. -/
import Derived.Test.YtlngaccdjnmgeaaGreatDoorGH10
import Derived.Test.YtlngaccdjnmgeaaGreatDoorGE6
import Derived.Test.YtlngaccdjnmgeaaGreatDoorGT1
set_option linter.unusedVariables false
set_option linter.unusedSimpArgs false
namespace Go.Proofs
open Go.V Go.RowKit

theorem c_R44_Docs (p : Pol) (u : Int) (l : List Dc) (hp : okP p) (hz : ∀ r ∈ p.rules, r.repo.length ≤ maxLen) (hl : okD l) : PureC PR n_R44_Docs [ePol p, .int .i64 u, .sl (l.map eDc) 0] (.sl ((docsS p u l).map eDc) 0) := by
  refine pure_of_wp m_R44_Docs rfl (by simp [ePol_argOk, argOk_sl, argOk_int]) ?_
  unfold FnW v_R44_Docs
  have hlm : l.length ≤ maxLen := by rw [maxLen_eq]; have := hl.1; omega
  have hl1 := hl.1
  simp only [go_sem, ePol]
  refine v_for (α := Nat) (base := 0) (marks := []) (pu := true) (good := fun i => i ≤ l.length) (m := fun i => l.length - i)
    (E := fun i => [(1, .int .i64 u), (2, .sl (l.map eDc) 0), (3, .ptr 0 0), (7, .sl ((docsS p u (l.take i)).map eDc) 3), (8, .int .i64 i)]) (O := fun i => [.cells (ePol p).cells, .tok (docsS p u (l.take i)).length 5])
    (by intro i _; simp [go_sem, Obj.idsB]) rfl ?_ 0 _ (by omega) rfl rfl rfl rfl rfl
  intro i hi
  simp only [go_sem]
  refine if_s (fun ht => ?_) (fun hf => ?_)
  · have hlt := len_lt ht
    have gi := get_map eDc hlt
    have hs : docsS p u (l.take (i + 1)) = docsS p u (l.take i) ++ (if canD p u l[i] then [l[i]] else []) := filter_take hlt
    have hn : (docsS p u (l.take i)).length ≤ i := filter_len
    generalize docsS p u (l.take i) = o at *
    simp only [go_sem, gi, ePol_fold, eDc_fold]
    refine callD_pure (c_R44_Can p u l[i].repo l[i].path hp hz (hl.2 _ (List.getElem_mem hlt))) (by simp only [go_sem]) (by simp only [go_sem]) ?_
    have hcap : (o.length + 1) * 80 ≤ 35184372088832 := cap_le (by omega) (by decide)
    rw [canP_same hp]
    simp only [go_sem]
    cases hc : canS p u l[i].repo l[i].path with
    | true =>
      have hc' : canD p u l[i] = true := hc
      simp only [go_sem, gi, eDc_fold, hcap]
      exact ⟨i + 1, by omega, by simp only; omega, by simp only [go_sem, wrap_len hlt hlm, hs, hc', List.map_append], by simp only [go_sem, hs, hc', List.length_append], rfl, rfl, rfl⟩
    | false =>
      have hc' : canD p u l[i] = false := hc
      simp only [go_sem]
      exact ⟨i + 1, by omega, by simp only; omega, by simp only [go_sem, wrap_len hlt hlm, hs, hc', List.append_nil], by simp only [go_sem, hs, hc', List.append_nil], rfl, rfl, rfl⟩
  have hie : i = l.length := by have := len_ge hf; omega
  subst hie
  simp only [go_sem, List.take_length]

theorem c_R44_Revoked (a b : Pol) (u : Int) (l : List Dc) (ha : okP a) (hb : okP b) (hza : ∀ r ∈ a.rules, r.repo.length ≤ maxLen) (hzb : ∀ r ∈ b.rules, r.repo.length ≤ maxLen) (hl : okD l) : PureC PR n_R44_Revoked [ePol a, ePol b, .int .i64 u, .sl (l.map eDc) 0] (.sl ((revokedS a b u l).map (VV.int .i64)) 0) := by
  refine pure_of_wp m_R44_Revoked rfl (by simp [ePol_argOk, argOk_sl, argOk_int]) ?_
  unfold FnW v_R44_Revoked
  have hlm : l.length ≤ maxLen := by rw [maxLen_eq]; have := hl.1; omega
  have hl1 := hl.1
  simp only [go_sem, ePol]
  refine v_for (α := Nat) (base := 0) (marks := []) (pu := true) (good := fun i => i ≤ l.length) (m := fun i => l.length - i)
    (E := fun i => [(2, .int .i64 u), (3, .sl (l.map eDc) 0), (4, .ptr 0 0), (5, .ptr 1 0), (9, .sl ((revokedS a b u (l.take i)).map (VV.int .i64)) 4), (10, .int .i64 i)]) (O := fun i => [.cells (ePol a).cells, .cells (ePol b).cells, .tok (revokedS a b u (l.take i)).length 1])
    (by intro i _; simp [go_sem, Obj.idsB]) rfl ?_ 0 _ (by omega) rfl rfl rfl rfl rfl
  intro i hi
  simp only [go_sem]
  refine if_s (fun ht => ?_) (fun hf => ?_)
  · have hlt := len_lt ht
    have gi := get_map eDc hlt
    have hs : revokedS a b u (l.take (i + 1)) = revokedS a b u (l.take i) ++ (if goneD a b u l[i] then [l[i].id] else []) := by
      rw [revokedS, filter_take hlt, List.map_append]
      cases goneD a b u l[i] <;> rfl
    have hn : (revokedS a b u (l.take i)).length ≤ i := by rw [revokedS, List.length_map]; exact filter_len
    have hpt := hl.2 _ (List.getElem_mem hlt)
    generalize revokedS a b u (l.take i) = o at *
    simp only [go_sem, gi, ePol_fold, eDc_fold]
    refine callD_pure (c_R44_Can a u l[i].repo l[i].path ha hza hpt) (by simp only [go_sem]) (by simp only [go_sem]) ?_
    have hcap : (o.length + 1) * 8 ≤ 35184372088832 := cap_le (by omega) (by decide)
    rw [canP_same ha]
    simp only [go_sem]
    cases hc : canS a u l[i].repo l[i].path with
    | false =>
      have hc' : goneD a b u l[i] = false := by simp [goneD, canD, hc]
      simp only [go_sem]
      exact ⟨i + 1, by omega, by simp only; omega, by simp only [go_sem, wrap_len hlt hlm, hs, hc', List.append_nil], by simp only [go_sem, hs, hc', List.append_nil], rfl, rfl, rfl⟩
    | true =>
    simp only [go_sem, gi, ePol_fold]
    refine callD_pure (c_R44_Can b u l[i].repo l[i].path hb hzb hpt) (by simp only [go_sem]) (by simp only [go_sem]) ?_
    rw [canP_same hb]
    simp only [go_sem]
    cases hd : canS b u l[i].repo l[i].path with
    | true =>
      have hc' : goneD a b u l[i] = false := by simp [goneD, canD, hc, hd]
      simp only [go_sem]
      exact ⟨i + 1, by omega, by simp only; omega, by simp only [go_sem, wrap_len hlt hlm, hs, hc', List.append_nil], by simp only [go_sem, hs, hc', List.append_nil], rfl, rfl, rfl⟩
    | false =>
      have hc' : goneD a b u l[i] = true := by simp [goneD, canD, hc, hd]
      simp only [go_sem, gi, hcap]
      exact ⟨i + 1, by omega, by simp only; omega, by simp only [go_sem, wrap_len hlt hlm, hs, hc', List.map_append], by simp only [go_sem, hs, hc', List.length_append], rfl, rfl, rfl⟩
  have hie : i = l.length := by have := len_ge hf; omega
  subst hie
  simp only [go_sem, List.take_length]

/-- the users of `1..16` who may read -/
def readersN (p : Pol) (repo path : List UInt8) : Nat → List Int
  | 0 => []
  | n + 1 => readersN p repo path n ++ (if canS p ((n : Int) + 1) repo path then [(n : Int) + 1] else [])
theorem readersN_len (p : Pol) (repo path : List UInt8) : ∀ n, (readersN p repo path n).length ≤ n
  | 0 => by simp [readersN]
  | n + 1 => by
    have := readersN_len p repo path n
    simp only [readersN, List.length_append]
    split <;> simp <;> omega
def readersS (p : Pol) (repo path : List UInt8) : List Int := readersN p repo path 16

theorem c_access_Readers (p : Pol) (repo path : List UInt8) (hp : okP p) (hl : path.length ≤ 1000000) : PureC PR n_access_Readers [ePol p, .str repo, .str path] (.sl ((readersS p repo path).map (VV.int .i64)) 0) := by
  refine pure_of_wp m_access_Readers rfl (by simp [ePol_argOk, argOk_str]) ?_
  unfold FnW v_access_Readers
  simp only [go_sem, ePol]
  refine v_for (α := Nat) (base := 0) (marks := []) (pu := true) (good := fun i => i ≤ 16) (m := fun i => 16 - i)
    (E := fun i => [(1, .str repo), (2, .str path), (3, .ptr 0 0), (7, .sl ((readersN p repo path i).map (VV.int .i64)) 3), (9, .int .i64 i)]) (O := fun i => [.cells (ePol p).cells, .tok (readersN p repo path i).length 1])
    (by intro i _; simp [go_sem, Obj.idsB]) rfl ?_ 0 _ (by omega) rfl rfl rfl rfl rfl
  intro i hi
  simp only [go_sem]
  refine if_s (fun ht => ?_) (fun hf => ?_)
  · have hlt : i < 16 := by simp at ht; omega
    have hi1 : ((i + 1 : Nat) : Int) = (i : Int) + 1 := by omega
    have hw : IntKind.i64.wrap ((i : Int) + 1) = (i : Int) + 1 := wrap_int (by omega) (by omega)
    have hn := readersN_len p repo path i
    have hs : readersN p repo path (i + 1) = readersN p repo path i ++ (if canS p ((i : Int) + 1) repo path then [(i : Int) + 1] else []) := rfl
    generalize readersN p repo path i = o at *
    simp only [go_sem, ePol_fold, hw]
    refine callW_pure (c_access_Can p ((i : Int) + 1) repo path hp hl) (by simp only [go_sem]) (by simp only [go_sem]) ?_
    have hcap : (o.length + 1) * 8 ≤ 35184372088832 := cap_le (by omega) (by decide)
    simp only [go_sem]
    cases hc : canS p ((i : Int) + 1) repo path with
    | true =>
      simp only [go_sem, hw, hcap]
      exact ⟨i + 1, by omega, by simp only; omega, by simp only [go_sem, hs, hc, List.map_append, hi1], by simp only [go_sem, hs, hc, List.length_append], rfl, rfl, rfl⟩
    | false =>
      simp only [go_sem, hw]
      exact ⟨i + 1, by omega, by simp only; omega, by simp only [go_sem, hs, hc, List.append_nil, hi1], by simp only [go_sem, hs, hc, List.append_nil], rfl, rfl, rfl⟩
  have hie : i = 16 := by simp at hf; omega
  subst hie
  simp only [go_sem, readersS]

theorem c_R44_Readers (p : Pol) (repo path : List UInt8) (hp : okP p) (hz : ∀ r ∈ p.rules, r.repo.length ≤ maxLen) (hl : path.length ≤ 1000000) : PureC PR n_R44_Readers [ePol p, .str repo, .str path] (.sl ((readersS p repo path).map (VV.int .i64)) 0) := by
  refine pure_of_wp m_R44_Readers rfl (by simp [ePol_argOk, argOk_str]) ?_
  unfold FnW v_R44_Readers
  simp only [go_sem, ePol]
  refine v_for (α := Nat) (base := 0) (marks := []) (pu := true) (good := fun i => i ≤ 16) (m := fun i => 16 - i)
    (E := fun i => [(1, .str repo), (2, .str path), (3, .ptr 0 0), (7, .sl ((readersN p repo path i).map (VV.int .i64)) 3), (8, .int .i64 ((i : Int) + 1))]) (O := fun i => [.cells (ePol p).cells, .tok (readersN p repo path i).length 1])
    (by intro i _; simp [go_sem, Obj.idsB]) rfl ?_ 0 _ (by omega) rfl rfl rfl rfl rfl
  intro i hi
  simp only [go_sem]
  refine if_s (fun ht => ?_) (fun hf => ?_)
  · have hlt : i < 16 := by simp at ht; omega
    have hi1 : ((i + 1 : Nat) : Int) = (i : Int) + 1 := by omega
    have hw : IntKind.i64.wrap ((i : Int) + 1 + 1) = (i : Int) + 1 + 1 := wrap_int (by omega) (by omega)
    have hn := readersN_len p repo path i
    have hs : readersN p repo path (i + 1) = readersN p repo path i ++ (if canS p ((i : Int) + 1) repo path then [(i : Int) + 1] else []) := rfl
    generalize readersN p repo path i = o at *
    simp only [go_sem, ePol_fold]
    refine callW_pure (c_R44_Can p ((i : Int) + 1) repo path hp hz hl) (by simp only [go_sem]) (by simp only [go_sem]) ?_
    have hcap : (o.length + 1) * 8 ≤ 35184372088832 := cap_le (by omega) (by decide)
    rw [canP_same hp]
    simp only [go_sem]
    cases hc : canS p ((i : Int) + 1) repo path with
    | true =>
      simp only [go_sem, hw, hcap]
      exact ⟨i + 1, by omega, by simp only; omega, by simp only [go_sem, hs, hc, List.map_append, hi1], by simp only [go_sem, hs, hc, List.length_append], rfl, rfl, rfl⟩
    | false =>
      simp only [go_sem, hw]
      exact ⟨i + 1, by omega, by simp only; omega, by simp only [go_sem, hs, hc, List.append_nil, hi1], by simp only [go_sem, hs, hc, List.append_nil], rfl, rfl, rfl⟩
  have hie : i = 16 := by simp at hf; omega
  subst hie
  simp only [go_sem, readersS]

theorem c_SameInts (l : List Int) (hl : l.length ≤ maxLen) : PureC PR n_R44_SameInts [.sl (l.map (VV.int .i64)) 0, .sl (l.map (VV.int .i64)) 0] (.bool true) := by
  refine pure_of_wp m_R44_SameInts rfl (by simp [argOk_sl]) ?_
  unfold FnW v_R44_SameInts
  have h0 : ((l.length : Int) != (l.length : Int)) = false := by simp
  simp only [go_sem, h0]
  refine v_for (α := Nat) (base := 0) (marks := []) (pu := true) (good := fun i => i ≤ l.length) (m := fun i => l.length - i)
    (E := fun i => [(0, .sl (l.map (VV.int .i64)) 0), (1, .sl (l.map (VV.int .i64)) 0), (5, .int .i64 i)]) (O := fun _ => [])
    (by intro i _; simp [go_sem, Obj.idsB]) rfl ?_ 0 _ (by omega) rfl rfl rfl rfl rfl
  intro i hi
  simp only [go_sem]
  refine if_s (fun ht => ?_) (fun hf => ?_)
  · have hlt := len_lt ht
    have gi := get_map (VV.int .i64) hlt
    have he : (l[i] != l[i]) = false := by simp
    simp only [go_sem, gi, he]
    exact ⟨i + 1, by omega, by simp only; omega, by simp only [go_sem, wrap_len hlt hl], rfl, rfl, rfl, rfl⟩
  · simp only [go_sem]
end Go.Proofs

/- V, proofs: the law AccessLists on data. Conditions: the lists' lengths. -/
set_option linter.unusedVariables false
set_option linter.unusedSimpArgs false
namespace Go.Proofs
open Go.V Go.RowKit

theorem revoked_len (a b : Pol) (u : Int) (l : List Dc) : (revokedS a b u l).length ≤ l.length := by
  rw [revokedS, List.length_map]
  exact List.length_filter_le _ _
theorem law_Lists (halive : PureC PR n_L44_alive [] (.bool true)) (t : Tw) (y : Ask) (hga : t.a.groups.length ≤ maxLen) (hgb : t.b.groups.length ≤ maxLen) (hdl : t.docs.length ≤ maxLen)
    (hza : ∀ r ∈ t.a.rules, r.repo.length ≤ maxLen) (hzb : ∀ r ∈ t.b.rules, r.repo.length ≤ maxLen) :
    PureC PR n_L44_AccessLists [eTw t, eAsk y] (.bool true) := by
  refine pure_of_wp m_L44_AccessLists rfl (by simp [eTw_argOk, eAsk_argOk]) ?_
  unfold FnW v_L44_AccessLists
  simp only [go_sem, eTw, eAsk]
  refine callW_pure halive rfl rfl ?_
  simp only [go_sem, ePol_fold]
  refine callW_pure (c_small t.a hga) (by simp only [go_sem]) (by simp only [go_sem]) ?_
  simp only [go_sem]
  cases hsa : smallS t.a with
  | false => simp only [go_sem]
  | true =>
  simp only [go_sem, ePol_fold]
  refine callW_pure (c_small t.b hgb) (by simp only [go_sem]) (by simp only [go_sem]) ?_
  simp only [go_sem]
  cases hsb : smallS t.b with
  | false => simp only [go_sem]
  | true =>
  simp only [go_sem, ePol_fold]
  refine callW_pure (c_short t.docs hdl) (by simp only [go_sem]) (by simp only [go_sem]) ?_
  simp only [go_sem]
  cases hsd : shortS t.docs with
  | false => simp only [go_sem]
  | true =>
  have hoa := (small_ok hsa).1
  have hob := (small_ok hsb).1
  have hod := (short_ok hsd).1
  simp only [go_sem]
  refine if_s (fun h2 => ?_) (fun h2 => ?_) <;> simp only [go_sem, ePol_fold]
  have hpl : y.path.length ≤ 1000000 := by simp at h2; omega
  refine callD_pure (c_access_Docs t.a t.user t.docs hoa hod) (by simp only [go_sem]) (by simp only [go_sem]) ?_
  simp only [go_sem, ePol_fold]
  refine callD_pure (c_R44_Docs t.a t.user t.docs hoa hza hod) (by simp only [go_sem]) (by simp only [go_sem]) ?_
  have hnl : (docsS t.a t.user t.docs).length ≤ t.docs.length := List.length_filter_le _ _
  generalize docsS t.a t.user t.docs = o at *
  have hom : o.length ≤ maxLen := by omega
  have h0 : ((o.length : Int) != (o.length : Int)) = false := by simp
  simp only [go_sem, h0]
  refine v_for (α := Nat) (base := 0) (marks := []) (pu := true) (good := fun i => i ≤ o.length) (m := fun i => o.length - i)
    (E := fun i => [(2, .ptr 0 0), (3, .ptr 1 0), (5, .sl (o.map eDc) 0), (6, .sl (o.map eDc) 0), (7, .int .i64 i)]) (O := fun _ => [.cells (eTw t).cells, .cells (eAsk y).cells])
    (by intro i _; simp [go_sem, Obj.idsB]) rfl ?_ 0 _ (by omega) rfl rfl rfl rfl rfl
  intro i hi
  simp only [go_sem]
  refine if_s (fun ht => ?_) (fun hf => ?_)
  · have hlt := len_lt ht
    have gi := get_map eDc hlt
    have e1 : (o[i].id != o[i].id) = false := by simp
    have e2 : (o[i].repo == o[i].repo) = true := by simp
    have e3 : (o[i].path == o[i].path) = true := by simp
    have e4 : (o[i].text == o[i].text) = true := by simp
    generalize o[i] = d at *
    simp only [go_sem, gi, e1, e2, e3, e4, Bool.not_true]
    exact ⟨i + 1, by omega, by simp only; omega, by simp only [go_sem, wrap_len hlt hom], rfl, rfl, rfl, rfl⟩
  simp only [go_sem, ePol_fold]
  refine callD_pure (c_access_Revoked t.a t.b t.user t.docs hoa hob hod) (by simp only [go_sem]) (by simp only [go_sem]) ?_
  simp only [go_sem, ePol_fold]
  refine callD_pure (c_R44_Revoked t.a t.b t.user t.docs hoa hob hza hzb hod) (by simp only [go_sem]) (by simp only [go_sem]) ?_
  simp only [go_sem]
  refine callD_pure (c_SameInts (revokedS t.a t.b t.user t.docs) (by have := revoked_len t.a t.b t.user t.docs; omega)) (by simp only [go_sem]) (by simp only [go_sem]) ?_
  simp only [go_sem, ePol_fold]
  refine callD_pure (c_access_Readers t.a y.repo y.path hoa hpl) (by simp only [go_sem]) (by simp only [go_sem]) ?_
  simp only [go_sem, ePol_fold]
  refine callD_pure (c_R44_Readers t.a y.repo y.path hoa hza hpl) (by simp only [go_sem]) (by simp only [go_sem]) ?_
  simp only [go_sem]
  refine callD_pure (c_SameInts (readersS t.a y.repo y.path) (by have := readersN_len t.a y.repo y.path 16; rw [maxLen_eq]; rw [readersS]; omega)) (by simp only [go_sem]) (by simp only [go_sem]) ?_
  simp only [go_sem]
end Go.Proofs
