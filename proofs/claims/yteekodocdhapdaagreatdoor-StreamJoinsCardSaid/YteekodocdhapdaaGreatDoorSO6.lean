/- V, proofs: slices.stableCmpFunc and SortStableFunc on rows of results. Conditions: the row's length. -/
import Derived.Test.YteekodocdhapdaaGreatDoorSO5
set_option linter.unusedVariables false
set_option linter.unusedSimpArgs false
namespace Go.Proofs
open Go.V Go.RowKit

theorem wrap_dbl {k : Nat} (h : 2 * k < 2 ^ 63) : IntKind.i64.wrap (2 * (k : Int)) = ((2 * k : Nat) : Int) := by
  have e : (2 * (k : Int)) = ((2 * k : Nat) : Int) := by omega
  rw [e, wrap_nat h]
theorem wrap_dbl' {k : Nat} (h : 2 * k < 2 ^ 63) : IntKind.i64.wrap ((k : Int) * 2) = ((2 * k : Nat) : Int) := by
  have e : ((k : Int) * 2) = ((2 * k : Nat) : Int) := by omega
  rw [e, wrap_nat h]
theorem c_stable {c : Nat} {bx : List VV} {cf : Rs → Rs → Int} (hc : CmpOk c bx cf) (D : List Rs) (hl : D.length ≤ 1000000) :
    ImpC PR n_slices_stableCmpFunc_Result [.row 1 0 D.length, .int .i64 D.length, .fn c [.ptr 2 0]] [.tok 0 3, .cells (D.flatMap rc), .cells bx] fun r ob' => r = .tup [] ∧ ob' = [.tok 0 3, .cells ((stS (ltC cf) D).flatMap rc), .cells bx] := by
  refine imp_of_wp m_slices_stableCmpFunc_Result rfl ?_
  have hbx := hc.1
  generalize hF : stS (ltC cf) D = F
  unfold stS at hF
  generalize hF1 : st1 (ltC cf) D.length 20 (D.length + 1) 0 D = F1 at hF
  unfold FnI
  have hv : v_slices_stableCmpFunc_Result.body = v_slices_stableCmpFunc_Result.body := rfl
  conv at hv => rhs; unfold v_slices_stableCmpFunc_Result
  rw [hv]
  clear hv
  simp only [go_sem]
  refine v_for (α := Nat × Nat × List Rs) (base := 3) (marks := []) (pu := false) (good := fun y => y.2.1 ≤ D.length ∧ D.length - y.2.1 < y.1 ∧ y.2.2.length = D.length ∧ st1 (ltC cf) D.length 20 y.1 y.2.1 y.2.2 = F1) (m := fun y => y.1)
    (E := fun y => [(0, .row 1 0 D.length), (1, .int .i64 D.length), (2, .fn c [.ptr 2 0]), (6, .int .i64 20), (7, .int .i64 (y.2.1 : Nat)), (8, .int .i64 (y.2.1 + 20 : Nat))]) (O := fun y => [.tok 0 3, .cells (y.2.2.flatMap rc), .cells bx])
    (by intro y _; simp [go_sem, Obj.idsB, rc_ids, hbx]) rfl ?_ (D.length + 1, 0, D) _ ⟨Nat.zero_le _, by simp only; omega, rfl, hF1⟩ rfl rfl rfl rfl rfl
  rintro ⟨f, a, E⟩ ⟨h1, h2, hE, hg⟩
  simp only at h1 h2 hE hg
  obtain ⟨f, rfl⟩ : ∃ q, f = q + 1 := ⟨f - 1, by omega⟩
  rw [st1] at hg
  simp only [go_sem]
  refine if_s (fun ht => ?_) (fun hf => ?_)
  · have hle : a + 20 ≤ D.length := by simp at ht; omega
    rw [if_pos hle] at hg
    simp only [go_sem]
    have q := c_insertion hc E a (a + 20) (by omega) (by omega) (by omega)
    have e19 : a + 20 - (a + 1) = 20 - 1 := by omega
    rw [e19, hE] at q
    refine callW_det q (by simp only [go_sem]) (by simp only [go_sem]) (.inl rfl) ?_
    have w20 : IntKind.i64.wrap (((a + 20 : Nat) : Int) + 20) = ((a + 20 + 20 : Nat) : Int) := wrap_plus (b := 20) (by omega)
    simp only [go_sem, w20]
    exact ⟨(f, a + 20, insI (ltC cf) a (20 - 1) (a + 1) E), ⟨by simp only; omega, by simp only; omega, by simp only [insI_len]; exact hE, hg⟩, by simp only; omega, rfl, rfl, rfl, rfl, rfl⟩
  have hnle : ¬ a + 20 ≤ D.length := by simp at hf; omega
  rw [if_neg hnle] at hg
  simp only [go_sem]
  have q := c_insertion hc E a D.length (by omega) (by omega) (by omega)
  rw [hg, hE] at q
  refine callW_det q (by simp only [go_sem]) (by simp only [go_sem]) (.inl rfl) ?_
  have hF1l : F1.length = D.length := by rw [← hF1, st1_len]
  simp only [go_sem]
  refine v_for (α := Nat × Nat × List Rs) (base := 3) (marks := []) (pu := false) (good := fun y => 0 < y.2.1 ∧ y.2.1 ≤ 2 * D.length + 20 ∧ D.length ≤ y.2.1 + y.1 ∧ y.2.2.length = D.length ∧ st3 (ltC cf) D.length y.1 y.2.1 y.2.2 = F) (m := fun y => y.1)
    (E := fun y => [(0, .row 1 0 D.length), (1, .int .i64 D.length), (2, .fn c [.ptr 2 0]), (6, .int .i64 (y.2.1 : Nat))]) (O := fun y => [.tok 0 3, .cells (y.2.2.flatMap rc), .cells bx])
    (by intro y _; simp [go_sem, Obj.idsB, rc_ids, hbx]) rfl ?_ (D.length, 20, F1) _ ⟨by simp only; omega, by simp only; omega, by simp only; omega, hF1l, hF⟩ rfl rfl rfl rfl rfl
  clear hg h1 h2 hE q hnle hf E a f
  rintro ⟨f, k, E⟩ ⟨k0, k1, h2, hE, hg⟩
  simp only at k0 k1 h2 hE hg
  simp only [go_sem]
  refine if_s (fun ht => ?_) (fun hf => ?_)
  rotate_left
  · have hkn : ¬ k < D.length := by simpa using hf
    simp only [go_sem]
    have : E = F := by
      cases f with
      | zero => rw [st3] at hg; exact hg
      | succ f => rw [st3, if_neg hkn] at hg; exact hg
    exact fin_row rfl hbx this
  have hkn : k < D.length := by simpa using ht
  obtain ⟨f, rfl⟩ : ∃ q, f = q + 1 := ⟨f - 1, by omega⟩
  rw [st3, if_pos hkn] at hg
  generalize hG : st2 (ltC cf) D.length k D.length 0 E = G at hg
  have hGl : G.length = D.length := by rw [← hG, st2_len, hE]
  have wk : IntKind.i64.wrap (2 * (k : Int)) = ((2 * k : Nat) : Int) := wrap_dbl (by omega)
  have wk' : IntKind.i64.wrap ((k : Int) * 2) = ((2 * k : Nat) : Int) := wrap_dbl' (by omega)
  simp only [go_sem, wk]
  refine v_for (α := Nat × Nat × List Rs) (base := 3) (marks := []) (pu := false) (good := fun y => y.2.1 ≤ D.length ∧ D.length - y.2.1 < y.1 * (2 * k) ∧ y.2.2.length = D.length ∧ st2 (ltC cf) D.length k y.1 y.2.1 y.2.2 = G) (m := fun y => y.1)
    (E := fun y => [(0, .row 1 0 D.length), (1, .int .i64 D.length), (2, .fn c [.ptr 2 0]), (6, .int .i64 (k : Nat)), (7, .int .i64 (y.2.1 : Nat)), (8, .int .i64 (y.2.1 + 2 * k : Nat))]) (O := fun y => [.tok 0 3, .cells (y.2.2.flatMap rc), .cells bx])
    (by intro y _; simp [go_sem, Obj.idsB, rc_ids, hbx]) rfl ?_ (D.length, 0, E) _ ⟨Nat.zero_le _, by
      simp only
      have : D.length * 2 ≤ D.length * (2 * k) := Nat.mul_le_mul_left _ (by omega)
      omega, hE, hG⟩ (by simp only [go_sem]) rfl rfl rfl rfl
  clear hE hG
  rintro ⟨f', a, E'⟩ ⟨h1, h3, hE, hg'⟩
  simp only at h1 h3 hE hg'
  obtain ⟨f', rfl⟩ : ∃ q, f' = q + 1 := ⟨f' - 1, by
    cases f' with
    | zero => simp at h3
    | succ f' => rfl⟩
  rw [st2] at hg'
  have wak : IntKind.i64.wrap ((a : Int) + (k : Int)) = ((a + k : Nat) : Int) := wrap_plus (by omega)
  simp only [go_sem]
  refine if_s (fun ht2 => ?_) (fun hf2 => ?_)
  · have hle : a + 2 * k ≤ D.length := by simp at ht2; omega
    rw [if_pos hle] at hg'
    simp only [go_sem, wak]
    have q := c_sym hc (2 * k) E' a (a + k) (a + 2 * k) (by omega) (by omega) (by omega) (by omega) (by omega)
    rw [hE] at q
    refine callW_det q (by simp only [go_sem]) (by simp only [go_sem]) (.inl rfl) ?_
    have w2 : IntKind.i64.wrap (((a + 2 * k : Nat) : Int) + ((2 * k : Nat) : Int)) = ((a + 2 * k + 2 * k : Nat) : Int) := wrap_plus (by omega)
    simp only [go_sem, wk, w2]
    refine ⟨(f', a + 2 * k, symS (ltC cf) (2 * k) a (a + k) (a + 2 * k) E'), ⟨by simp only; omega, ?_, by simp only [symS_len]; exact hE, hg'⟩, by simp only; omega, rfl, rfl, rfl, rfl, rfl⟩
    simp only
    rw [Nat.add_mul, Nat.one_mul] at h3
    omega
  have hnle : ¬ a + 2 * k ≤ D.length := by simp at hf2; omega
  rw [if_neg hnle] at hg'
  simp only [go_sem, wak]
  refine if_s (fun ht3 => ?_) (fun hf3 => ?_)
  · have hlt : a + k < D.length := by simp at ht3; omega
    rw [if_pos hlt] at hg'
    simp only [go_sem]
    have q := c_sym hc (D.length - a) E' a (a + k) D.length (by omega) (by omega) (by omega) (by omega) (by omega)
    rw [hE, hg'] at q
    refine callW_det q (by simp only [go_sem]) (by simp only [go_sem]) (.inl rfl) ?_
    simp only [go_sem, wk']
    exact ⟨(f, 2 * k, G), ⟨by simp only; omega, by simp only; omega, by simp only; omega, hGl, hg⟩, by simp only; omega, rfl, rfl, rfl, rfl, rfl⟩
  · have hlt : ¬ a + k < D.length := by simp at hf3; omega
    rw [if_neg hlt] at hg'
    subst hg'
    simp only [go_sem, wk']
    exact ⟨(f, 2 * k, E'), ⟨by simp only; omega, by simp only; omega, by simp only; omega, hE, hg⟩, by simp only; omega, rfl, rfl, rfl, rfl, rfl⟩
theorem c_ssf {c : Nat} {bx : List VV} {cf : Rs → Rs → Int} (hc : CmpOk c bx cf) (D : List Rs) (hl : D.length ≤ 1000000) :
    ImpC PR n_slices_SortStableFunc_Result_Result [.row 1 0 D.length, .fn c [.ptr 2 0]] [.tok 0 3, .cells (D.flatMap rc), .cells bx] fun r ob' => r = .tup [] ∧ ob' = [.tok 0 3, .cells ((stS (ltC cf) D).flatMap rc), .cells bx] := by
  refine imp_of_wp m_slices_SortStableFunc_Result_Result rfl ?_
  unfold FnI
  have hv : v_slices_SortStableFunc_Result_Result.body = v_slices_SortStableFunc_Result_Result.body := rfl
  conv at hv => rhs; unfold v_slices_SortStableFunc_Result_Result
  rw [hv]
  clear hv
  simp only [go_sem]
  refine callW_det (c_stable hc D hl) (by simp only [go_sem]) (by simp only [go_sem]) (.inl rfl) ?_
  simp only [go_sem]
  exact fin_row rfl hc.1 rfl
end Go.Proofs
