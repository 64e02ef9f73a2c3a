/- V, proofs: slices.swapRangeCmpFunc and rotateCmpFunc on rows of results. Conditions: the row's length, the ranges within it. -/
import Derived.Test.YteekodocdhapdaaGreatDoorSO3
set_option linter.unusedVariables false
set_option linter.unusedSimpArgs false
namespace Go.Proofs
open Go.V Go.RowKit

theorem wrap_plus {a b : Nat} (h : a + b < 2 ^ 63) : IntKind.i64.wrap ((a : Int) + (b : Int)) = ((a + b : Nat) : Int) := by
  have e : ((a : Int) + (b : Int)) = ((a + b : Nat) : Int) := by omega
  rw [e, wrap_nat h]
theorem wrap_minus {a b : Nat} (h : b ≤ a) (k : a < 2 ^ 63) : IntKind.i64.wrap ((a : Int) - (b : Int)) = ((a - b : Nat) : Int) := by
  have e : ((a : Int) - (b : Int)) = ((a - b : Nat) : Int) := by omega
  rw [e, wrap_nat (by omega)]
theorem c_swap {c : Nat} {bx : List VV} (hbx : idsL 3 bx = true) (D : List Rs) (a b n : Nat) (ha : a + n ≤ D.length) (hb : b + n ≤ D.length) (hl : D.length ≤ 1000000) :
    ImpC PR n_slices_swapRangeCmpFunc_Result [.row 1 0 D.length, .int .i64 a, .int .i64 b, .int .i64 n, .fn c [.ptr 2 0]] [.tok 0 3, .cells (D.flatMap rc), .cells bx] fun r ob' => r = .tup [] ∧ ob' = [.tok 0 3, .cells ((swR a b n 0 D).flatMap rc), .cells bx] := by
  refine imp_of_wp m_slices_swapRangeCmpFunc_Result rfl ?_
  generalize hF : swR a b n 0 D = F
  unfold FnI
  have hv : v_slices_swapRangeCmpFunc_Result.body = v_slices_swapRangeCmpFunc_Result.body := rfl
  conv at hv => rhs; unfold v_slices_swapRangeCmpFunc_Result
  rw [hv]
  clear hv
  simp only [go_sem]
  refine v_for (α := Nat × List Rs) (base := 3) (marks := []) (pu := false) (good := fun y => y.1 ≤ n ∧ y.2.length = D.length ∧ swR a b (n - y.1) y.1 y.2 = F) (m := fun y => n - y.1)
    (E := fun y => [(0, .row 1 0 D.length), (1, .int .i64 a), (2, .int .i64 b), (3, .int .i64 n), (10, .int .i64 (y.1 : Nat))]) (O := fun y => [.tok 0 3, .cells (y.2.flatMap rc), .cells bx])
    (by intro y _; simp [go_sem, Obj.idsB, rc_ids, hbx]) rfl ?_ (0, D) _ ⟨Nat.zero_le _, rfl, hF⟩ rfl rfl rfl rfl rfl
  rintro ⟨i, E⟩ ⟨hi, hE, hg⟩
  simp only at hi hE hg
  simp only [go_sem]
  refine if_s (fun ht => ?_) (fun hf => ?_)
  rotate_left
  · simp only [go_sem]
    have : n - i = 0 := by simp at hf; omega
    rw [this, swR] at hg
    exact fin_row rfl hbx hg
  have hin : i < n := by simpa using ht
  have hstep : swR a b (n - (i + 1)) (i + 1) (sw E (a + i) (b + i)) = F := by
    have : n - i = (n - (i + 1)) + 1 := by omega
    rw [this, swR] at hg
    exact hg
  have wa : IntKind.i64.wrap ((a : Int) + (i : Int)) = ((a + i : Nat) : Int) := wrap_plus (by omega)
  have wb : IntKind.i64.wrap ((b : Int) + (i : Int)) = ((b + i : Nat) : Int) := wrap_plus (by omega)
  have wi : IntKind.i64.wrap ((i : Int) + 1) = ((i + 1 : Nat) : Int) := wrap_succ (by omega)
  have hIa : ((a + i : Nat) : Int) < (D.length : Int) := by omega
  have hIb : ((b + i : Nat) : Int) < (D.length : Int) := by omega
  have l1 : (a + i) * 3 + 3 ≤ (E.flatMap rc).length := by rw [rc_flat]; omega
  have l2 : (b + i) * 3 + 3 ≤ (E.flatMap rc).length := by rw [rc_flat]; omega
  have g1 := rc_at E (a + i) (by omega)
  have g2 := rc_at E (b + i) (by omega)
  have fs1 := rc_set E (a + i) (by omega) E[b + i]!
  have fs2 := rc_set (E.set (a + i) E[b + i]!) (b + i) (by simp; omega) E[a + i]!
  have l3 : (b + i) * 3 + 3 ≤ ((E.set (a + i) E[b + i]!).flatMap rc).length := by rw [rc_flat]; simp; omega
  simp only [go_sem, wa, wb, hIa, hIb, l1, l2, g1, g2, fs1, l3, fs2]
  exact ⟨(i + 1, sw E (a + i) (b + i)), ⟨by simp only; omega, by simp only [sw_len]; exact hE, hstep⟩, by simp only; omega, by simp only [go_sem, wi], rfl, rfl, rfl, rfl⟩
theorem c_rotate {c : Nat} {bx : List VV} (hbx : idsL 3 bx = true) (D : List Rs) (a m b : Nat) (ham : a < m) (hmb : m < b) (hb : b ≤ D.length) (hl : D.length ≤ 1000000) :
    ImpC PR n_slices_rotateCmpFunc_Result [.row 1 0 D.length, .int .i64 a, .int .i64 m, .int .i64 b, .fn c [.ptr 2 0]] [.tok 0 3, .cells (D.flatMap rc), .cells bx] fun r ob' => r = .tup [] ∧ ob' = [.tok 0 3, .cells ((rotS m (b - a) (m - a) (b - m) D).flatMap rc), .cells bx] := by
  refine imp_of_wp m_slices_rotateCmpFunc_Result rfl ?_
  generalize hF : rotS m (b - a) (m - a) (b - m) D = F
  unfold FnI
  have hv : v_slices_rotateCmpFunc_Result.body = v_slices_rotateCmpFunc_Result.body := rfl
  conv at hv => rhs; unfold v_slices_rotateCmpFunc_Result
  rw [hv]
  clear hv
  have w1 : IntKind.i64.wrap ((m : Int) - (a : Int)) = ((m - a : Nat) : Int) := wrap_minus (by omega) (by omega)
  have w2 : IntKind.i64.wrap ((b : Int) - (m : Int)) = ((b - m : Nat) : Int) := wrap_minus (by omega) (by omega)
  simp only [go_sem, w1, w2]
  refine v_for (α := Nat × Nat × Nat × List Rs) (base := 3) (marks := []) (pu := false) (good := fun y => y.2.1 + y.2.2.1 ≤ y.1 ∧ 0 < y.2.1 ∧ 0 < y.2.2.1 ∧ y.2.1 ≤ m ∧ m + y.2.2.1 ≤ D.length ∧ y.2.2.2.length = D.length ∧ rotS m y.1 y.2.1 y.2.2.1 y.2.2.2 = F) (m := fun y => y.1)
    (E := fun y => [(0, .row 1 0 D.length), (2, .int .i64 m), (4, .fn c [.ptr 2 0]), (10, .int .i64 (y.2.1 : Nat)), (11, .int .i64 (y.2.2.1 : Nat))]) (O := fun y => [.tok 0 3, .cells (y.2.2.2.flatMap rc), .cells bx])
    (by intro y _; simp [go_sem, Obj.idsB, rc_ids, hbx]) rfl ?_ (b - a, m - a, b - m, D) _ ⟨by simp only; omega, by simp only; omega, by simp only; omega, by simp only; omega, by simp only; omega, rfl, hF⟩ rfl rfl rfl rfl rfl
  rintro ⟨n, i, j, E⟩ ⟨h1, h2, h3, h4, h5, hE, hg⟩
  simp only at h1 h2 h3 h4 h5 hE hg
  obtain ⟨n, rfl⟩ : ∃ k, n = k + 1 := ⟨n - 1, by omega⟩
  rw [rotS] at hg
  have wm : IntKind.i64.wrap ((m : Int) - (i : Int)) = ((m - i : Nat) : Int) := wrap_minus h4 (by omega)
  simp only [go_sem]
  refine if_s (fun ht => ?_) (fun hf => ?_)
  rotate_left
  · have hij : i = j := by simp at hf; omega
    rw [if_pos hij] at hg
    simp only [go_sem, wm]
    have q := c_swap (c := c) hbx E (m - i) m i (by omega) (by omega) (by omega)
    rw [hE] at q
    refine callW_det q (by simp only [go_sem]) (by simp only [go_sem]) (.inl rfl) ?_
    simp only [go_sem]
    exact fin_row rfl hbx hg
  have hij : ¬ i = j := by simp at ht; omega
  rw [if_neg hij] at hg
  simp only [go_sem]
  refine if_s (fun hgt => ?_) (fun hgt => ?_)
  · have hji : j < i := by simpa using hgt
    rw [if_pos hji] at hg
    simp only [go_sem, wm]
    have q := c_swap (c := c) hbx E (m - i) m j (by omega) (by omega) (by omega)
    rw [hE] at q
    refine callW_det q (by simp only [go_sem]) (by simp only [go_sem]) (.inl rfl) ?_
    have wij : IntKind.i64.wrap ((i : Int) - (j : Int)) = ((i - j : Nat) : Int) := wrap_minus (by omega) (by omega)
    simp only [go_sem, wij]
    exact ⟨(n, i - j, j, swR (m - i) m j 0 E), ⟨by simp only; omega, by simp only; omega, h3, by simp only; omega, h5, by simp only [swR_len]; exact hE, hg⟩, by simp only; omega, rfl, rfl, rfl, rfl, rfl⟩
  · have hji : ¬ j < i := by simpa using hgt
    rw [if_neg hji] at hg
    have wp : IntKind.i64.wrap ((m : Int) + (j : Int)) = ((m + j : Nat) : Int) := wrap_plus (by omega)
    have wq : IntKind.i64.wrap (((m + j : Nat) : Int) - (i : Int)) = ((m + j - i : Nat) : Int) := wrap_minus (by omega) (by omega)
    simp only [go_sem, wm, wp, wq]
    have q := c_swap (c := c) hbx E (m - i) (m + j - i) i (by omega) (by omega) (by omega)
    rw [hE] at q
    refine callW_det q (by simp only [go_sem]) (by simp only [go_sem]) (.inl rfl) ?_
    have wij : IntKind.i64.wrap ((j : Int) - (i : Int)) = ((j - i : Nat) : Int) := wrap_minus (by omega) (by omega)
    simp only [go_sem, wij]
    exact ⟨(n, i, j - i, swR (m - i) (m + j - i) i 0 E), ⟨by simp only; omega, h2, by simp only; omega, h4, by simp only; omega, by simp only [swR_len]; exact hE, hg⟩, by simp only; omega, rfl, rfl, rfl, rfl, rfl⟩
end Go.Proofs
