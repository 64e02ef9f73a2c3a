/- V, proofs: the law AccessSplits on data. Conditions: the lists' lengths. -/
import Derived.Test.YtlngaccdjnmgeaaDoorGE7
set_option linter.unusedVariables false
set_option linter.unusedSimpArgs false
namespace Go.Proofs
open Go.V Go.RowKit

structure Tw where
  a : Pol
  b : Pol
  user : Int
  docs : List Dc
def eTw (t : Tw) : VV := .agg [.sl (t.a.groups.map eGp) 0, .sl (t.a.rules.map eRl) 0, .sl (t.b.groups.map eGp) 0, .sl (t.b.rules.map eRl) 0, .int .i64 t.user, .sl (t.docs.map eDc) 0]
theorem eTw_cells (t : Tw) : (eTw t).cells = [.sl (t.a.groups.map eGp) 0, .sl (t.a.rules.map eRl) 0, .sl (t.b.groups.map eGp) 0, .sl (t.b.rules.map eRl) 0, .int .i64 t.user, .sl (t.docs.map eDc) 0] := byRfl rfl
theorem eTw_argOk (g : Tw) : argOk (eTw g) = true := by simp [eTw, argOk, VV.noHnd, VV.noHnd0, VV.ids, idsL]
attribute [go_sem] eTw_cells

theorem short_ok {l : List Dc} (h : shortS l = true) : okD l ∧ l.length ≤ 20 := by
  simp only [shortS, Bool.and_eq_true, Bool.not_eq_true', List.any_eq_false, decide_eq_true_eq] at h
  refine ⟨⟨by omega, fun d hd => ?_⟩, by omega⟩
  have := h.1 d hd
  simp only [longD, decide_eq_true_eq] at this
  omega
def cnt (t : Tw) (i : Nat) : Nat := ((t.docs.take i).filter (goneD t.a t.b t.user)).length
def mem (t : Tw) (i : Nat) : Bool := (t.a.groups.take i).any fun g => inR43 t.a.groups g.name t.user

theorem law_Splits (halive : PureC PR n_L44_alive [] (.bool true)) (t : Tw) (hga : t.a.groups.length ≤ maxLen) (hgb : t.b.groups.length ≤ maxLen) (hdl : t.docs.length ≤ maxLen) :
    PureC PR n_L44_AccessSplits [eTw t] (.bool true) := by
  refine pure_of_wp m_L44_AccessSplits rfl (by simp [eTw_argOk]) ?_
  unfold FnW v_L44_AccessSplits
  simp only [go_sem, eTw]
  refine callW_pure halive rfl rfl ?_
  simp only [go_sem, ePol_fold]
  refine callW_pure (c_small t.a hga) (by simp only [go_sem]) (by simp only [go_sem]) ?_
  simp only [go_sem]
  cases hsa : smallS t.a with
  | false => simp only [go_sem]
  | true =>
  simp only [go_sem, ePol_fold]
  refine callW_pure (c_small t.b hgb) (by simp only [go_sem]) (by simp only [go_sem]) ?_
  simp only [go_sem]
  cases hsb : smallS t.b with
  | false => simp only [go_sem]
  | true =>
  simp only [go_sem, ePol_fold]
  refine callW_pure (c_short t.docs hdl) (by simp only [go_sem]) (by simp only [go_sem]) ?_
  simp only [go_sem]
  cases hsd : shortS t.docs with
  | false => simp only [go_sem]
  | true =>
  obtain ⟨hoa, _, hgl, _⟩ := small_ok hsa
  obtain ⟨hob, _⟩ := small_ok hsb
  obtain ⟨hod, hd20⟩ := short_ok hsd
  simp only [go_sem, ePol_fold]
  refine callW_pure (c_access_Revoked t.a t.b t.user t.docs hoa hob hod) (by simp only [go_sem]) (by simp only [go_sem]) ?_
  simp only [go_sem]
  generalize hG : revokedS t.a t.b t.user t.docs = gone
  have hGl : gone.length = cnt t t.docs.length := by rw [← hG, revokedS, List.length_map, cnt, List.take_length]
  refine v_for (α := Nat) (base := 0) (marks := []) (pu := true) (good := fun i => i ≤ t.docs.length) (m := fun i => t.docs.length - i)
    (E := fun i => [(1, .ptr 0 0), (3, .sl (gone.map (VV.int .i64)) 0), (4, .int .i64 (cnt t i)), (5, .int .i64 i)]) (O := fun i => [.cells (eTw t).cells])
    (by intro i _; simp [go_sem, Obj.idsB]) rfl ?_ 0 _ (by omega) rfl rfl rfl rfl rfl
  intro i hi
  simp only [go_sem]
  refine if_s (fun ht => ?_) (fun hf => ?_)
  · have hlt := len_lt ht
    have gi := get_map eDc hlt
    have hpt := hod.2 _ (List.getElem_mem hlt)
    have hs : cnt t (i + 1) = cnt t i + (if goneD t.a t.b t.user t.docs[i] then 1 else 0) := by
      rw [cnt, filter_take hlt, List.length_append, cnt]
      cases goneD t.a t.b t.user t.docs[i] <;> rfl
    simp only [go_sem, gi, ePol_fold, eDc_fold]
    refine callD_pure (c_access_Can t.a t.user t.docs[i].repo t.docs[i].path hoa hpt) (by simp only [go_sem]) (by simp only [go_sem]) ?_
    simp only [go_sem, ePol_fold]
    refine callD_pure (c_access_Can t.b t.user t.docs[i].repo t.docs[i].path hob hpt) (by simp only [go_sem]) (by simp only [go_sem]) ?_
    simp only [go_sem]
    cases hc : canS t.a t.user t.docs[i].repo t.docs[i].path with
    | false =>
      have hg : goneD t.a t.b t.user t.docs[i] = false := by simp [goneD, canD, hc]
      simp only [go_sem]
      exact ⟨i + 1, by omega, by simp only; omega, by simp only [go_sem, wrap_len hlt hdl, hs, hg], rfl, rfl, rfl, rfl⟩
    | true =>
    cases hd : canS t.b t.user t.docs[i].repo t.docs[i].path with
    | true =>
      have hg : goneD t.a t.b t.user t.docs[i] = false := by simp [goneD, canD, hc, hd]
      simp only [go_sem]
      exact ⟨i + 1, by omega, by simp only; omega, by simp only [go_sem, wrap_len hlt hdl, hs, hg], rfl, rfl, rfl, rfl⟩
    | false =>
      have hg : goneD t.a t.b t.user t.docs[i] = true := by simp [goneD, canD, hc, hd]
      obtain ⟨hk, hx⟩ := filter_at (p := goneD t.a t.b t.user) hlt hg
      have hkl : cnt t i < gone.length := by rw [← hG, revokedS, List.length_map]; exact hk
      have hkx : gone[cnt t i] = t.docs[i].id := by
        have : gone[cnt t i] = (revokedS t.a t.b t.user t.docs)[cnt t i]'(by rw [hG]; exact hkl) := by simp only [hG]
        rw [this]
        simp only [revokedS, List.getElem_map]
        exact congrArg Dc.id hx
      have gk := get_map (VV.int .i64) hkl
      have hge : decide ((cnt t i : Int) ≥ (gone.length : Int)) = false := by simp; omega
      have hne : (t.docs[i].id != t.docs[i].id) = false := by simp
      have hcw : IntKind.i64.wrap ((cnt t i : Int) + 1) = ((cnt t i + 1 : Nat) : Int) := wrap_succ (by
        have : cnt t i ≤ i := filter_len
        omega)
      rw [hkx] at gk
      simp only [go_sem, hge, gk, hne]
      exact ⟨i + 1, by omega, by simp only; omega, by simp only [go_sem, wrap_len hlt hdl, hs, hg, hcw], rfl, rfl, rfl, rfl⟩
  have hie : i = t.docs.length := by have := len_ge hf; omega
  subst hie
  simp only [go_sem]
  refine v_for (α := Nat) (base := 0) (marks := []) (pu := true) (good := fun i => i ≤ t.a.groups.length) (m := fun i => t.a.groups.length - i)
    (E := fun i => [(1, .ptr 0 0), (3, .sl (gone.map (VV.int .i64)) 0), (4, .int .i64 (cnt t t.docs.length)), (9, .bool (mem t i)), (10, .int .i64 i)]) (O := fun i => [.cells (eTw t).cells])
    (by intro i _; simp [go_sem, Obj.idsB]) rfl ?_ 0 _ (by omega) rfl rfl rfl rfl rfl
  intro i hi
  simp only [go_sem]
  refine if_s (fun ht => ?_) (fun hf => ?_)
  · have hlt := len_lt ht
    have gi := get_map eGp hlt
    have hs : mem t (i + 1) = (mem t i || inR43 t.a.groups t.a.groups[i].name t.user) := any_take hlt
    cases hm : mem t i with
    | true =>
      simp only [go_sem]
      exact ⟨i + 1, by omega, by simp only; omega, by simp only [go_sem, wrap_len hlt hga, hs, hm], rfl, rfl, rfl, rfl⟩
    | false =>
      simp only [go_sem, gi]
      refine callD_pure (c_R43_In t.a.groups t.a.groups[i].name t.user hoa.1) (by simp only [go_sem]) (by simp only [go_sem]) ?_
      simp only [go_sem]
      exact ⟨i + 1, by omega, by simp only; omega, by simp only [go_sem, wrap_len hlt hga, hs, hm], rfl, rfl, rfl, rfl⟩
  have hie : i = t.a.groups.length := by have := len_ge hf; omega
  subst hie
  have heq : ((cnt t t.docs.length : Int) == (gone.length : Int)) = true := by simp [hGl]
  simp only [go_sem, heq]
  cases hm : mem t t.a.groups.length with
  | true => simp only [go_sem]
  | false =>
    have hn : docsS t.a t.user t.docs = [] := docs_none (by rw [mem, List.take_length] at hm; exact hm)
    simp only [go_sem, ePol_fold]
    refine callW_pure (c_access_Docs t.a t.user t.docs hoa hod) (by simp only [go_sem]) (by simp only [go_sem]) ?_
    simp only [go_sem, hn]
    rfl
end Go.Proofs
