/- V, proofs: the document's set of a pattern of paths. Conditions: the pattern's length. -/
import Derived.Test.YtlngaccdjnmgeaaGreatDoorGF1
set_option linter.unusedVariables false
set_option linter.unusedSimpArgs false
namespace Go.Proofs
open Go.V Go.RowKit

def n93 (c : UInt8) : Bool := (c.toNat : Int) != 93
theorem tw_take {r : List UInt8} {k : Nat} (h : (r.take k).all n93 = true) (he : r.length ≤ k ∨ ∃ c, r[k]? = some c ∧ n93 c = false) : r.takeWhile n93 = r.take k := by
  induction r generalizing k with
  | nil => simp
  | cons a t ih =>
    cases k with
    | zero =>
      rcases he with he | ⟨c, hc, hn⟩
      · simp at he
      · simp only [List.getElem?_cons_zero, Option.some.injEq] at hc
        subst hc
        simp [List.takeWhile_cons, hn]
    | succ k =>
      simp only [List.take_succ_cons, List.all_cons, Bool.and_eq_true] at h
      rw [List.takeWhile_cons, if_pos h.1, List.take_succ_cons, ih h.2]
      rcases he with he | ⟨c, hc, hn⟩
      · exact .inl (by simpa using he)
      · exact .inr ⟨c, by simpa using hc, hn⟩
def negS : List UInt8 → Bool × List UInt8
  | [] => (false, [])
  | c :: r => if ((c.toNat : Int) == 33) = true then (true, r) else (false, c :: r)
def bodyR (g : List UInt8) (i : Nat) : List UInt8 := (g.drop (i + 1)).takeWhile n93
def setR (g : List UInt8) (i : Nat) : El × Int :=
  if g.length ≤ i + 1 + (bodyR g i).length then (⟨5, 0, false, []⟩, -1)
  else (⟨5, 0, (negS (bodyR g i)).1, (rangesS (negS (bodyR g i)).2 []).1⟩, if (rangesS (negS (bodyR g i)).2 []).2 then ((i + 1 + (bodyR g i).length + 1 : Nat) : Int) else -1)

theorem cap_le2 {n : Nat} (h : n ≤ 2000000000) : n * 2 ≤ 35184372088832 := Nat.le_trans (Nat.mul_le_mul_right 2 h) (by decide)

theorem c_R02_set (g : List UInt8) (i : Nat) (hg : g.length ≤ 1000000) (hi : i < g.length) : PureC PR n_R02_set [.str g, .int .i64 i] (.tup [eEl (setR g i).1, .int .i64 (setR g i).2]) := by
  refine pure_of_wp m_R02_set rfl (by simp [argOk_str, argOk_int]) ?_
  unfold FnW v_R02_set
  have hw1 : IntKind.i64.wrap ((i : Int) + 1) = ((i + 1 : Nat) : Int) := wrap_succ (by omega)
  simp only [go_sem, hw1]
  refine v_for (α := Nat) (base := 0) (marks := []) (pu := true) (good := fun k => i + 1 + k ≤ g.length ∧ ((g.drop (i + 1)).take k).all n93 = true) (m := fun k => g.length - k)
    (E := fun k => [(0, .str g), (1, .int .i64 i), (4, .ptr 0 0), (6, .ptr 1 0), (7, .int .i64 (i + 1 + k : Nat))])
    (O := fun _ => [.cells [.int .i64 0, .int .u8 0, .bool false, .nils], .cells [.int .i64 5, .int .u8 0, .bool false, .sl [] 4], .tok 0 2])
    (by intro i _; simp [go_sem, Obj.idsB]) rfl ?_ 0 _ ⟨by omega, rfl⟩ rfl rfl rfl rfl rfl
  rintro k ⟨hk, hall⟩
  simp only [go_sem]
  have hn0 : (0 : Int) ≤ ((i + 1 + k : Nat) : Int) := by omega
  refine g_s (fun h1 => ?_) (fun h1 => ?_) <;> simp only [go_sem, h1]
  case refine_2 =>
    -- no closing bracket
    have hke : i + 1 + k = g.length := by have := len_ge (by rw [h1]; rfl : decide (((i + 1 + k : Nat) : Int) < (g.length : Int)) = false); omega
    have hb : bodyR g i = (g.drop (i + 1)).take k := tw_take hall (.inl (by simp; omega))
    have hbl : (bodyR g i).length = k := by rw [hb]; simp; omega
    have hge : decide (((i + 1 + k : Nat) : Int) ≥ (g.length : Int)) = true := by simp; omega
    have hS : setR g i = (⟨5, 0, false, []⟩, -1) := by rw [setR, if_pos (by omega)]
    simp only [go_sem, hge, hS]
    first | exact ⟨rfl, rfl⟩ | rfl | (trace_state; done)
  have hlt : i + 1 + k < g.length := len_lt h1
  have gk := get_byte (s := g) (i := i + 1 + k) hlt
  have gk' : (g.drop (i + 1))[k]? = some (g.getD (i + 1 + k) 0) := by rw [List.getElem?_drop]; exact gk
  have hkl : k < (g.drop (i + 1)).length := by simp; omega
  have hwk : IntKind.i64.wrap (((i + 1 + k : Nat) : Int) + 1) = ((i + 1 + (k + 1) : Nat) : Int) := wrap_succ (n := i + 1 + k) (by omega)
  simp only [go_sem, hn0, gk, byteInt]
  refine if_s (fun h2 => ?_) (fun h2 => ?_)
  · simp only [go_sem]
    refine ⟨k + 1, ⟨by omega, all_step hkl hall ?_⟩, by simp only; omega, by simp only [go_sem, hwk], rfl, rfl, rfl, rfl⟩
    have : (g.drop (i + 1))[k] = g.getD (i + 1 + k) 0 := by
      have := gk'
      rw [List.getElem?_eq_getElem hkl] at this
      exact Option.some.inj this
    rw [this]
    exact h2
  -- the closing bracket
  have hb : bodyR g i = (g.drop (i + 1)).take k := tw_take hall (.inr ⟨_, gk', h2⟩)
  have hbl : (bodyR g i).length = k := by rw [hb]; simp; omega
  have hge : decide (((i + 1 + k : Nat) : Int) ≥ (g.length : Int)) = false := by simp; omega
  have hS : setR g i = (⟨5, 0, (negS (bodyR g i)).1, (rangesS (negS (bodyR g i)).2 []).1⟩, if (rangesS (negS (bodyR g i)).2 []).2 then ((i + 1 + k + 1 : Nat) : Int) else -1) := by
    rw [setR, if_neg (by omega), hbl]
  have hbt : bodyR g i = (g.take (i + 1 + k)).drop (i + 1) := by rw [hb, List.drop_take]; congr 1; omega
  have dr : ∀ j, j < i + 1 + k → (g.take (i + 1 + k)).drop j = g.getD j 0 :: (g.take (i + 1 + k)).drop (j + 1) := fun j hj => by
    have hjl : j < (g.take (i + 1 + k)).length := by simp; omega
    rw [List.drop_eq_getElem_cons hjl]
    congr 1
    have hj2 : j < g.length := by omega
    simp [List.getD_eq_getElem?_getD, hj2]
  simp only [go_sem, hge, hw1]
  generalize hE : i + 1 + k = e at *
  have tail : ∀ (neg : Bool) (j0 : Nat), i + 1 ≤ j0 → j0 ≤ e → negS (bodyR g i) = (neg, (g.take e).drop j0) → True := fun _ _ _ _ _ => trivial
  cases hj : decide (((i + 1 : Nat) : Int) < (e : Int)) with
  | false =>
    have hk0 : k = 0 := by simp at hj; omega
    have hbn : bodyR g i = [] := by rw [hb, hk0]; rfl
    have hS2 : setR g i = (⟨5, 0, false, []⟩, -1) := by rw [hS, hbn]; rfl
    simp only [go_sem, hj]
    refine v_for (α := Unit) (base := 0) (marks := []) (pu := true) (good := fun _ => True) (m := fun _ => 0)
      (E := fun _ => [(0, .str g), (4, .ptr 0 0), (6, .ptr 1 0), (7, .int .i64 e), (8, .int .i64 (i + 1 : Nat))])
      (O := fun _ => [.cells [.int .i64 0, .int .u8 0, .bool false, .nils], .cells [.int .i64 5, .int .u8 0, .bool false, .sl [] 4], .tok 0 2])
      (by intro i _; simp [go_sem, Obj.idsB]) rfl ?_ () _ trivial rfl rfl rfl rfl rfl
    intro _ _
    have hz0 : ((0 : Int) == 0) = true := rfl
    have hz1 : (((0 : Nat) : Int) == 0) = true := rfl
    simp only [go_sem, hj, hS2, hz0, hz1]
    first | exact ⟨rfl, rfl⟩ | rfl | (trace_state; done)
  | true =>
  have hj1 : i + 1 < e := len_lt hj
  have g1 := get_byte (s := g) (i := i + 1) (by omega)
  have hi1 : (0 : Int) ≤ ((i + 1 : Nat) : Int) := by omega
  have hw2 : IntKind.i64.wrap (((i + 1 : Nat) : Int) + 1) = ((i + 2 : Nat) : Int) := wrap_succ (n := i + 1) (by omega)
  simp only [go_sem, hj, hi1, g1, byteInt]
  have hcons := dr (i + 1) hj1
  rw [← hbt] at hcons
  refine if_cut (α := Bool × Nat) (base := 0) (marks := []) (pu := true) (fun x => i + 1 ≤ x.2 ∧ x.2 ≤ e ∧ negS (bodyR g i) = (x.1, (g.take e).drop x.2))
    (fun x => [(0, .str g), (4, .ptr 0 0), (6, .ptr 1 0), (7, .int .i64 e), (8, .int .i64 x.2)])
    (fun x => [.cells [.int .i64 0, .int .u8 0, .bool false, .nils], .cells [.int .i64 5, .int .u8 0, .bool x.1, .sl [] 4], .tok 0 2]) (fun h3 => ?_) (fun h3 => ?_) ?_
  · simp only [go_sem, hw2]
    exact ⟨(true, i + 2), ⟨by simp only; omega, by simp only; omega, by rw [hcons, negS, if_pos h3]⟩, rfl, rfl⟩
  · simp only [go_sem]
    exact ⟨(false, i + 1), ⟨by simp only; omega, by simp only; omega, by rw [hcons, negS, if_neg (by rw [h3]; simp), ← dr (i + 1) hj1]⟩, rfl, rfl⟩
  rintro ⟨neg, j0⟩ ⟨hj0, hj0e, hN⟩
  simp only at hj0 hj0e hN
  rw [hS, hN]
  simp only [go_sem]
  refine v_for (α := Nat × List Rg) (base := 0) (marks := []) (pu := true) (good := fun x => x.1 ≤ e ∧ x.2.length ≤ x.1 ∧ rangesS ((g.take e).drop x.1) x.2 = rangesS ((g.take e).drop j0) []) (m := fun x => e - x.1)
    (E := fun x => [(0, .str g), (4, .ptr 0 0), (6, .ptr 1 0), (7, .int .i64 e), (8, .int .i64 x.1)])
    (O := fun x => [.cells [.int .i64 0, .int .u8 0, .bool false, .nils], .cells [.int .i64 5, .int .u8 0, .bool neg, .sl (x.2.map eRg) 4], .tok x.2.length 2])
    (by intro i _; simp [go_sem, Obj.idsB]) rfl ?_ (j0, []) _ ⟨hj0e, by simp, rfl⟩ rfl rfl rfl rfl rfl
  rintro ⟨j, acc⟩ ⟨hje, hacc, hr⟩
  simp only at hje hacc hr
  rw [← hr]
  simp only [go_sem]
  have hc : (acc.length + 1) * 2 ≤ 35184372088832 := cap_le2 (by omega)
  have hwe : IntKind.i64.wrap ((e : Int) + 1) = ((e + 1 : Nat) : Int) := wrap_succ (by omega)
  refine if_s (fun h4 => ?_) (fun h4 => ?_)
  · have hjl := len_lt h4
    have ga := get_byte (s := g) (i := j) (by omega)
    have hjz : (0 : Int) ≤ (j : Int) := by omega
    have wj1 : IntKind.i64.wrap ((j : Int) + 1) = ((j + 1 : Nat) : Int) := wrap_succ (by omega)
    have wj2 : IntKind.i64.wrap ((j : Int) + 2) = ((j + 2 : Nat) : Int) := by
      have e : ((j : Int) + 2) = ((j + 2 : Nat) : Int) := by omega
      rw [e, wrap_nat (by omega)]
    have wj3 : IntKind.i64.wrap ((j : Int) + 3) = ((j + 3 : Nat) : Int) := by
      have e : ((j : Int) + 3) = ((j + 3 : Nat) : Int) := by omega
      rw [e, wrap_nat (by omega)]
    have ha := dr j hjl
    simp only [go_sem, wj2]
    refine g_s (fun h5 => ?_) (fun h5 => ?_) <;> simp only [go_sem, h5]
    · have hj2 := len_lt h5
      have gb := get_byte (s := g) (i := j + 1) (by omega)
      have gc := get_byte (s := g) (i := j + 2) (by omega)
      have hj1z : (0 : Int) ≤ ((j + 1 : Nat) : Int) := by omega
      have hj2z : (0 : Int) ≤ ((j + 2 : Nat) : Int) := by omega
      have hb1 := dr (j + 1) (by omega)
      have hc1 := dr (j + 2) (by omega)
      simp only [go_sem, wj1, gb, hj1z, byteInt]
      refine if_s (fun h6 => ?_) (fun h6 => ?_) <;> simp only [go_sem, wj2, gc, ga, hjz, hj2z, byteInt]
      · refine if_s (fun h7 => ?_) (fun h7 => ?_)
        · have q : rangesS ((g.take e).drop j) acc = (acc, false) := by rw [ha, hb1, hc1]; simp only [rangesS, h6, h7, if_true]
          rw [q]
          simp only [go_sem]
          first | exact ⟨rfl, rfl⟩ | rfl | (trace_state; done)
        · have q : rangesS ((g.take e).drop j) acc = rangesS ((g.take e).drop (j + 3)) (acc ++ [(g.getD j 0, g.getD (j + 2) 0)]) := by
            rw [ha, hb1, hc1]; simp only [rangesS, h6, h7, if_true, if_false, Bool.false_eq_true]
          simp only [go_sem, wj2, gc, ga, hjz, hj2z, byteInt, eRg_fold, eRg_cells, hc, eRg_canon, eRg_strip]
          exact ⟨(j + 3, acc ++ [(g.getD j 0, g.getD (j + 2) 0)]), ⟨by simp only; omega, by simp; omega, q.symm⟩, by simp only; omega, by simp only [go_sem, wj3], by simp [go_sem], rfl, rfl, rfl⟩
      · have q : rangesS ((g.take e).drop j) acc = rangesS ((g.take e).drop (j + 1)) (acc ++ [(g.getD j 0, g.getD j 0)]) := by
          rw [ha, hb1, hc1]; simp only [rangesS, h6, if_false, Bool.false_eq_true]
        simp only [go_sem, ga, hjz, byteInt, eRg_fold, eRg_cells, hc, eRg_canon, eRg_strip]
        exact ⟨(j + 1, acc ++ [(g.getD j 0, g.getD j 0)]), ⟨by simp only; omega, by simp; omega, q.symm⟩, by simp only; omega, by simp only [go_sem, wj1], by simp [go_sem], rfl, rfl, rfl⟩
    · have hj2 : e ≤ j + 2 := len_ge (by rw [h5]; rfl : decide (((j + 2 : Nat) : Int) < (e : Int)) = false)
      have q : rangesS ((g.take e).drop j) acc = rangesS ((g.take e).drop (j + 1)) (acc ++ [(g.getD j 0, g.getD j 0)]) := by
        rw [ha]
        by_cases hq : j + 1 < e
        · have hq2 : (g.take e).drop (j + 2) = [] := by simp; omega
          rw [dr (j + 1) hq, hq2, rangesS_two]
        · have hq2 : (g.take e).drop (j + 1) = [] := by simp; omega
          rw [hq2, rangesS_one]
      simp only [go_sem, ga, hjz, byteInt, eRg_fold, eRg_cells, hc, eRg_canon, eRg_strip]
      exact ⟨(j + 1, acc ++ [(g.getD j 0, g.getD j 0)]), ⟨by simp only; omega, by simp; omega, q.symm⟩, by simp only; omega, by simp only [go_sem, wj1], by simp [go_sem], rfl, rfl, rfl⟩
  · have hje2 : j = e := by have := len_ge h4; omega
    subst hje2
    have q : rangesS ((g.take j).drop j) acc = (acc, decide ((acc.length : Int) > 0)) := by
      have : (g.take j).drop j = [] := by simp
      rw [this]; rfl
    rw [q]
    cases acc with
    | nil =>
      have hz0 : ((0 : Int) == 0) = true := rfl
      have hz1 : (((0 : Nat) : Int) == 0) = true := rfl
      simp only [go_sem, hz0, hz1]
      first | exact ⟨rfl, rfl⟩ | rfl | (trace_state; done)
    | cons a t =>
      have hz : (((a :: t).length : Int) == 0) = false := by simp; omega
      have hp : decide ((((a :: t).length : Nat) : Int) > 0) = true := by simp
      simp only [List.length_cons] at hz hp
      simp only [go_sem, hz, hp, hwe]
      first | exact ⟨rfl, rfl⟩ | rfl | (trace_state; done)
end Go.Proofs
