/- V, proofs: the sets of patterns of paths. Conditions: the pattern's length. -/
import Derived.Test.YtlngaccdjnmgeaaGreatDoorGA2
set_option linter.unusedVariables false
set_option linter.unusedSimpArgs false
namespace Go.Proofs
open Go.V Go.RowKit

abbrev Rg := UInt8 × UInt8
def rangesS : List UInt8 → List Rg → List Rg × Bool
  | [], acc => (acc, decide ((acc.length : Int) > 0))
  | [a], acc => (acc ++ [(a, a)], true)
  | [a, b], acc => (acc ++ [(a, a)] ++ [(b, b)], true)
  | a :: b :: c :: t, acc => if ((b.toNat : Int) == 45) = true then (if decide ((c.toNat : Int) < a.toNat) = true then (acc, false) else rangesS t (acc ++ [(a, c)])) else rangesS (b :: c :: t) (acc ++ [(a, a)])
theorem rangesS_one (a : UInt8) (acc : List Rg) : rangesS [a] acc = rangesS [] (acc ++ [(a, a)]) := by simp [rangesS]
theorem rangesS_two (a b : UInt8) (acc : List Rg) : rangesS [a, b] acc = rangesS [b] (acc ++ [(a, a)]) := by simp [rangesS]
def setS (s : List UInt8) : El × Bool := match s with
  | [] => (⟨4, 0, false, []⟩, false)
  | c :: r => if ((c.toNat : Int) == 33) = true then (⟨4, 0, true, (rangesS r []).1⟩, (rangesS r []).2) else (⟨4, 0, false, (rangesS (c :: r) []).1⟩, (rangesS (c :: r) []).2)

theorem eRg_all (r : Rg) : (eRg r).canon = true ∧ (eRg r).strip = eRg r ∧ (eRg r).noTup = true := ⟨rfl, rfl, rfl⟩
theorem eRg_canon (r : Rg) : (eRg r).canon = true := byRfl rfl
theorem eRg_strip (r : Rg) : (eRg r).strip = eRg r := byRfl rfl
theorem eRg_fold (a b : UInt8) : VV.agg [.int .u8 a.toNat, .int .u8 b.toNat] = eRg (a, b) := byRfl rfl

theorem c_glob_set (s : List UInt8) (hs : s.length ≤ 1000000) : PureC PR n_glob_set [.str s] (.tup [eEl (setS s).1, .bool (setS s).2]) := by
  cases s with
  | nil => exact runF_ok (tabOf_ok m_glob_set) (n := 100) (isV_eq (by decide +kernel))
  | cons c r =>
  refine pure_of_wp m_glob_set rfl (by simp [argOk_str]) ?_
  unfold FnW v_glob_set
  simp only [go_sem]
  refine if_cut (α := Bool × List UInt8) (base := 0) (marks := []) (pu := true) (fun x => x.2.length ≤ (c :: r).length ∧ setS (c :: r) = (⟨4, 0, x.1, (rangesS x.2 []).1⟩, (rangesS x.2 []).2)) (fun x => [(0, .str x.2), (2, .ptr 0 0), (4, .ptr 1 0)])
    (fun x => [.cells [.int .i64 0, .int .u8 0, .bool false, .nils], .cells [.int .i64 4, .int .u8 0, .bool x.1, .sl [] 4], .tok 0 2]) (fun h => ?_) (fun h => ?_) ?_
  · simp only [go_sem]
    exact ⟨(true, r), ⟨by simp, by simp only [setS, h, if_true]⟩, rfl, rfl⟩
  · simp only [go_sem]
    exact ⟨(false, c :: r), ⟨Nat.le_refl _, by simp only [setS, h, if_false, Bool.false_eq_true]⟩, rfl, rfl⟩
  rintro ⟨neg, s⟩ ⟨hl, hS⟩
  simp only [go_sem, hS]
  refine v_for (α := List UInt8 × List Rg) (base := 0) (marks := []) (pu := true) (good := fun x => rangesS x.1 x.2 = rangesS s [] ∧ x.1.length + x.2.length ≤ 1000000) (m := fun x => x.1.length)
    (E := fun x => [(0, .str x.1), (2, .ptr 0 0), (4, .ptr 1 0)]) (O := fun x => [.cells [.int .i64 0, .int .u8 0, .bool false, .nils], .cells [.int .i64 4, .int .u8 0, .bool neg, .sl (x.2.map eRg) 4], .tok x.2.length 2])
    (by intro i _; simp [go_sem, Obj.idsB]) rfl ?_ (s, []) _ ⟨rfl, by simp at hs hl ⊢; omega⟩ rfl rfl rfl rfl rfl
  rintro ⟨rest, acc⟩ ⟨hr, hle⟩
  rw [← hr]
  simp only at hle
  match rest, hr, hle with
  | [], hr, hle =>
    simp only [go_sem]
    exact ⟨rfl, rfl⟩
  | [a], hr, hle =>
    have hc : (acc.length + 1) * 2 ≤ 35184372088832 := by simp at hle; omega
    simp only [go_sem, byteInt, eRg_fold, eRg_cells, hc, eRg_canon, eRg_strip]
    refine if_s (fun h => ?_) (fun h => ?_)
    · simp at h
    simp only [go_sem, byteInt, eRg_fold, eRg_cells, hc, eRg_canon, eRg_strip]
    refine ⟨([], acc ++ [(a, a)]), ⟨(rangesS_one a acc).symm, by simp at hle ⊢; omega⟩, by simp only [List.length_cons, List.length_nil]; omega, ?_⟩
    simp [go_sem]
  | [a, b], hr, hle =>
    have hc : (acc.length + 1) * 2 ≤ 35184372088832 := by simp at hle; omega
    simp only [go_sem, byteInt, eRg_fold, eRg_cells, hc, eRg_canon, eRg_strip]
    refine if_s (fun h => ?_) (fun h => ?_)
    · simp at h
    simp only [go_sem, byteInt, eRg_fold, eRg_cells, hc, eRg_canon, eRg_strip]
    refine ⟨([b], acc ++ [(a, a)]), ⟨(rangesS_two a b acc).symm, by simp at hle ⊢; omega⟩, by simp only [List.length_cons, List.length_nil]; omega, ?_⟩
    simp [go_sem]
  | a :: b :: c :: t, hr, hle =>
    have hc : (acc.length + 1) * 2 ≤ 35184372088832 := by simp at hle; omega
    simp only [go_sem, byteInt, eRg_fold, eRg_cells, hc, eRg_canon, eRg_strip]
    refine if_s (fun h => ?_) (fun h => ?_) <;> simp only [go_sem, byteInt, eRg_fold, eRg_cells, hc, eRg_canon, eRg_strip]
    · refine if_s (fun h2 => ?_) (fun h2 => ?_) <;> simp only [go_sem, byteInt, eRg_fold, eRg_cells, hc, eRg_canon, eRg_strip]
      · have e : rangesS (a :: b :: c :: t) acc = (acc, false) := by simp only [rangesS, h, h2, if_true]
        rw [e]
        exact ⟨rfl, rfl⟩
      · have e : rangesS (a :: b :: c :: t) acc = rangesS t (acc ++ [(a, c)]) := by simp only [rangesS, h, h2, if_true, if_false, Bool.false_eq_true]
        refine ⟨(t, acc ++ [(a, c)]), ⟨e.symm, by simp at hle ⊢; omega⟩, by simp only [List.length_cons, List.length_nil]; omega, ?_⟩
        simp [go_sem]
    · refine if_s (fun h2 => ?_) (fun h2 => ?_)
      · simp at h2
      simp only [go_sem, byteInt, eRg_fold, eRg_cells, hc, eRg_canon, eRg_strip]
      have e : rangesS (a :: b :: c :: t) acc = rangesS (b :: c :: t) (acc ++ [(a, a)]) := by simp only [rangesS, h, if_false, Bool.false_eq_true]
      refine ⟨(b :: c :: t, acc ++ [(a, a)]), ⟨e.symm, by simp at hle ⊢; omega⟩, by simp only [List.length_cons, List.length_nil]; omega, ?_⟩
      simp [go_sem]
end Go.Proofs
