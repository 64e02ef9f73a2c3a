/- V, proofs: slices.symMergeCmpFunc on rows of results. Conditions: the row's length, the ranges within it. -/
import Derived.Test.YteekodocdhapdaaGreatDoorSO4
set_option linter.unusedVariables false
set_option linter.unusedSimpArgs false
namespace Go.Proofs
open Go.V Go.RowKit

theorem u64_nat {n : Nat} (h : n < 2 ^ 63) : IntKind.u64.wrap (n : Int) = (n : Int) := by
  have h1 : (n : Int) % (2 ^ 64 : Int) = n := Int.emod_eq_of_lt (by omega) (by omega)
  unfold IntKind.wrap
  simp only [IntKind.bits, h1]
  rw [if_neg]
  simp [IntKind.signed]
theorem shr_one {n : Nat} : shI .shr .u64 (n : Int) 1 = some (.int .u64 ((n / 2 : Nat) : Int)) := by
  have e : ((n : Int).fdiv (2 ^ min (1 : Int).toNat IntKind.u64.bits)) = ((n / 2 : Nat) : Int) := by
    have : min (1 : Int).toNat IntKind.u64.bits = 1 := rfl
    rw [this]
    have h2 : ((2 : Int) ^ 1) = 2 := rfl
    rw [h2, Int.fdiv_eq_ediv_of_nonneg _ (by omega)]
    omega
  unfold shI
  rw [if_neg (by omega)]
  simp only
  rw [e]
theorem bin_shr {n : Nat} : binI .shr .u64 (n : Int) 1 = some (.int .u64 ((n / 2 : Nat) : Int)) := shr_one
/-- where the loop of a search by halves ends -/
theorem bsr_end {p : Nat → Bool} {n i j S : Nat} (h : bsr p n i j = S) (hij : ¬ i < j) : i = S := by
  cases n with
  | zero => rw [bsr] at h; exact h
  | succ n => rw [bsr, if_neg hij] at h; exact h
theorem bsr_on {p : Nat → Bool} {n i j S : Nat} (h : bsr p (n + 1) i j = S) (hij : i < j) : (p ((i + j) / 2) = true → bsr p n ((i + j) / 2 + 1) j = S) ∧ (p ((i + j) / 2) = false → bsr p n i ((i + j) / 2) = S) := by
  rw [bsr, if_pos hij] at h
  exact ⟨fun q => by rw [if_pos q] at h; exact h, fun q => by rw [if_neg (by rw [q]; decide)] at h; exact h⟩
theorem fin_ret {vf : VF} (hv : vf.results = []) {env : List (Nat × VV)} {D F : List Rs} {bx : List VV} (hb : idsL 3 bx = true) (h : D = F) :
    EndI vf 3 (fun r ob' => r = .tup [] ∧ ob' = [.tok 0 3, .cells (F.flatMap rc), .cells bx]) .ret ⟨⟨env, [.tok 0 3, .cells (D.flatMap rc), .cells bx]⟩, 3, [], false⟩ := by
  subst h
  refine endI_of 3 (.tup []) (Nat.le_refl _) (Nat.le_refl _) ?_ (by rw [hv]; rfl) rfl ⟨rfl, rfl⟩
  simp only [List.take_succ_cons, List.take_zero, List.all_cons, List.all_nil, Bool.and_true, Obj.idsB, rc_ids, hb]
theorem ltC_t {cf : Rs → Rs → Int} {a b : Rs} {x : Bool} (h : ltC cf a b = x) : decide (cf a b < 0) = x := h

set_option maxHeartbeats 8000000 in
theorem c_sym {c : Nat} {bx : List VV} {cf : Rs → Rs → Int} (hc : CmpOk c bx cf) : ∀ (n : Nat) (D : List Rs) (a m b : Nat), a < m → m < b → b ≤ D.length → D.length ≤ 1000000 → b - a ≤ n →
    ImpC PR n_slices_symMergeCmpFunc_Result [.row 1 0 D.length, .int .i64 a, .int .i64 m, .int .i64 b, .fn c [.ptr 2 0]] [.tok 0 3, .cells (D.flatMap rc), .cells bx] fun r ob' => r = .tup [] ∧ ob' = [.tok 0 3, .cells ((symS (ltC cf) n a m b D).flatMap rc), .cells bx]
  | 0, D, a, m, b, ham, hmb, hb, hl, hn => by omega
  | n + 1, D, a, m, b, ham, hmb, hb, hl, hn => by
    have ih := c_sym hc n
    obtain ⟨hbx, hcm⟩ := hc
    refine imp_of_wp m_slices_symMergeCmpFunc_Result rfl ?_
    unfold FnI
    have hv : v_slices_symMergeCmpFunc_Result.body = v_slices_symMergeCmpFunc_Result.body := rfl
    conv at hv => rhs; unfold v_slices_symMergeCmpFunc_Result
    rw [hv]
    clear hv
    have w1 : IntKind.i64.wrap ((m : Int) - (a : Int)) = ((m - a : Nat) : Int) := wrap_minus (by omega) (by omega)
    have w2 : IntKind.i64.wrap ((b : Int) - (m : Int)) = ((b - m : Nat) : Int) := wrap_minus (by omega) (by omega)
    rw [symS]
    simp only [go_sem, w1]
    refine if_s (fun h1 => ?_) (fun h1 => ?_)
    · -- one on the left
      have hma : m - a = 1 := by simp at h1; omega
      rw [if_pos hma]
      generalize hS : bsr (fun h => ltC cf D[h]! D[a]!) (b - m) m b = S
      have hSb := bsr_ok (fun h => ltC cf D[h]! D[a]!) (b - m) m b (by omega) (by omega)
      rw [hS] at hSb
      obtain ⟨s1, s2, _, _⟩ := hSb
      simp only [go_sem]
      refine v_for (α := Nat × Nat × Nat) (base := 3) (marks := []) (pu := false) (good := fun y => m ≤ y.2.1 ∧ y.2.1 ≤ y.2.2 ∧ y.2.2 ≤ b ∧ y.2.2 - y.2.1 ≤ y.1 ∧ bsr (fun h => ltC cf D[h]! D[a]!) y.1 y.2.1 y.2.2 = S) (m := fun y => y.1)
        (E := fun y => [(0, .row 1 0 D.length), (1, .int .i64 a), (4, .fn c [.ptr 2 0]), (10, .int .i64 (y.2.1 : Nat)), (11, .int .i64 (y.2.2 : Nat))]) (O := fun y => [.tok 0 3, .cells (D.flatMap rc), .cells bx])
        (by intro y _; simp [go_sem, Obj.idsB, rc_ids, hbx]) rfl ?_ (b - m, m, b) _ ⟨Nat.le_refl _, by simp only; omega, Nat.le_refl _, Nat.le_refl _, hS⟩ rfl rfl rfl rfl rfl
      rintro ⟨k, i, j⟩ ⟨i1, i2, i3, i4, hg⟩
      simp only at i1 i2 i3 i4 hg
      simp only [go_sem]
      refine if_s (fun ht => ?_) (fun hf => ?_)
      · have hij : i < j := by simpa using ht
        obtain ⟨k, rfl⟩ : ∃ q, k = q + 1 := ⟨k - 1, by omega⟩
        obtain ⟨gT, gF⟩ := bsr_on hg hij
        have wp : IntKind.i64.wrap ((i : Int) + (j : Int)) = ((i + j : Nat) : Int) := wrap_plus (by omega)
        have wu : IntKind.u64.wrap ((i + j : Nat) : Int) = ((i + j : Nat) : Int) := u64_nat (by omega)
        have wh : IntKind.i64.wrap (((i + j) / 2 : Nat) : Int) = (((i + j) / 2 : Nat) : Int) := wrap_nat (by omega)
        have hh : (i + j) / 2 < D.length := by omega
        have hI : (((i + j) / 2 : Nat) : Int) < (D.length : Int) := by omega
        have hI1 : (a : Int) < (D.length : Int) := by omega
        have l1 : ((i + j) / 2) * 3 + 3 ≤ (D.flatMap rc).length := by rw [rc_flat]; omega
        have l2 : a * 3 + 3 ≤ (D.flatMap rc).length := by rw [rc_flat]; omega
        have g1 := rc_at D ((i + j) / 2) hh
        have g2 := rc_at D a (by omega)
        have sh : binI .shr .u64 ((i + j : Nat) : Int) 1 = some (.int .u64 (((i + j) / 2 : Nat) : Int)) := bin_shr
        simp only [binI] at sh
        simp only [go_sem, wp, wu, sh, wh, hI, hI1, l1, l2, g1, g2]
        refine callD_det (hcm D D[(i + j) / 2]! D[a]!) (by simp only [go_sem, eRs, rc]) (by simp only [go_sem]) rfl (fun h => by cases h) ?_
        simp only [go_sem]
        have wh1 : IntKind.i64.wrap ((((i + j) / 2 : Nat) : Int) + 1) = (((i + j) / 2 + 1 : Nat) : Int) := wrap_succ (by omega)
        refine if_s (fun hp => ?_) (fun hp => ?_)
        · simp only [go_sem, wh1]
          exact ⟨(k, (i + j) / 2 + 1, j), ⟨by simp only; omega, by simp only; omega, i3, by simp only; omega, gT hp⟩, by simp only; omega, rfl, rfl, rfl, rfl, rfl⟩
        · simp only [go_sem]
          exact ⟨(k, i, (i + j) / 2), ⟨i1, by simp only; omega, by simp only; omega, by simp only; omega, gF hp⟩, by simp only; omega, rfl, rfl, rfl, rfl, rfl⟩
      · have hiS : i = S := bsr_end hg (by simpa using hf)
        subst hiS
        simp only [go_sem]
        generalize hF : shU (i - 1 - a) a D = F
        have wS : IntKind.i64.wrap ((i : Int) - 1) = ((i - 1 : Nat) : Int) := by
          have := wrap_minus (a := i) (b := 1) (by omega) (by omega)
          exact this
        refine v_for (α := Nat × List Rs) (base := 3) (marks := []) (pu := false) (good := fun y => a ≤ y.1 ∧ y.1 ≤ i - 1 ∧ y.2.length = D.length ∧ shU (i - 1 - y.1) y.1 y.2 = F) (m := fun y => i - y.1)
          (E := fun y => [(0, .row 1 0 D.length), (10, .int .i64 (i : Nat)), (13, .int .i64 (y.1 : Nat))]) (O := fun y => [.tok 0 3, .cells (y.2.flatMap rc), .cells bx])
          (by intro y _; simp [go_sem, Obj.idsB, rc_ids, hbx]) rfl ?_ (a, D) _ ⟨Nat.le_refl _, by simp only; omega, rfl, hF⟩ rfl rfl rfl rfl rfl
        rintro ⟨k', E⟩ ⟨k1, k2, hE, hg'⟩
        simp only at k1 k2 hE hg'
        simp only [go_sem, wS]
        refine if_s (fun ht' => ?_) (fun hf' => ?_)
        · have hk : k' < i - 1 := by simp at ht'; omega
          have hstep : shU (i - 1 - (k' + 1)) (k' + 1) (sw E k' (k' + 1)) = F := by
            have : i - 1 - k' = (i - 1 - (k' + 1)) + 1 := by omega
            rw [this, shU] at hg'
            exact hg'
          have wk : IntKind.i64.wrap ((k' : Int) + 1) = ((k' + 1 : Nat) : Int) := wrap_succ (by omega)
          have hIa : (k' : Int) < (D.length : Int) := by omega
          have hIb : ((k' + 1 : Nat) : Int) < (D.length : Int) := by omega
          have l1 : k' * 3 + 3 ≤ (E.flatMap rc).length := by rw [rc_flat]; omega
          have l2 : (k' + 1) * 3 + 3 ≤ (E.flatMap rc).length := by rw [rc_flat]; omega
          have g1 := rc_at E k' (by omega)
          have g2 := rc_at E (k' + 1) (by omega)
          have fs1 := rc_set E k' (by omega) E[k' + 1]!
          have fs2 := rc_set (E.set k' E[k' + 1]!) (k' + 1) (by simp; omega) E[k']!
          have l3 : (k' + 1) * 3 + 3 ≤ ((E.set k' E[k' + 1]!).flatMap rc).length := by rw [rc_flat]; simp; omega
          simp only [go_sem, wk, hIa, hIb, l1, l2, g1, g2, fs1, l3, fs2]
          exact ⟨(k' + 1, sw E k' (k' + 1)), ⟨by simp only; omega, by simp only; omega, by simp only [sw_len]; exact hE, hstep⟩, by simp only; omega, by simp only [go_sem, wk], rfl, rfl, rfl, rfl⟩
        · simp only [go_sem]
          have : i - 1 - k' = 0 := by simp at hf'; omega
          rw [this, shU] at hg'
          exact fin_ret rfl hbx hg'
    · have hma : ¬ m - a = 1 := by simp at h1; omega
      rw [if_neg hma]
      simp only [go_sem, w2]
      refine if_s (fun h2 => ?_) (fun h2 => ?_)
      · -- one on the right
        have hbm : b - m = 1 := by simp at h2; omega
        rw [if_pos hbm]
        generalize hS : bsr (fun h => !ltC cf D[m]! D[h]!) (m - a) a m = S
        have hSb := bsr_ok (fun h => !ltC cf D[m]! D[h]!) (m - a) a m (by omega) (by omega)
        rw [hS] at hSb
        obtain ⟨s1, s2, _, _⟩ := hSb
        simp only [go_sem]
        refine v_for (α := Nat × Nat × Nat) (base := 3) (marks := []) (pu := false) (good := fun y => a ≤ y.2.1 ∧ y.2.1 ≤ y.2.2 ∧ y.2.2 ≤ m ∧ y.2.2 - y.2.1 ≤ y.1 ∧ bsr (fun h => !ltC cf D[m]! D[h]!) y.1 y.2.1 y.2.2 = S) (m := fun y => y.1)
          (E := fun y => [(0, .row 1 0 D.length), (2, .int .i64 m), (4, .fn c [.ptr 2 0]), (14, .int .i64 (y.2.1 : Nat)), (15, .int .i64 (y.2.2 : Nat))]) (O := fun y => [.tok 0 3, .cells (D.flatMap rc), .cells bx])
          (by intro y _; simp [go_sem, Obj.idsB, rc_ids, hbx]) rfl ?_ (m - a, a, m) _ ⟨Nat.le_refl _, by simp only; omega, Nat.le_refl _, Nat.le_refl _, hS⟩ rfl rfl rfl rfl rfl
        rintro ⟨k, i, j⟩ ⟨i1, i2, i3, i4, hg⟩
        simp only at i1 i2 i3 i4 hg
        simp only [go_sem]
        refine if_s (fun ht => ?_) (fun hf => ?_)
        · have hij : i < j := by simpa using ht
          obtain ⟨k, rfl⟩ : ∃ q, k = q + 1 := ⟨k - 1, by omega⟩
          obtain ⟨gT, gF⟩ := bsr_on hg hij
          have wp : IntKind.i64.wrap ((i : Int) + (j : Int)) = ((i + j : Nat) : Int) := wrap_plus (by omega)
          have wu : IntKind.u64.wrap ((i + j : Nat) : Int) = ((i + j : Nat) : Int) := u64_nat (by omega)
          have wh : IntKind.i64.wrap (((i + j) / 2 : Nat) : Int) = (((i + j) / 2 : Nat) : Int) := wrap_nat (by omega)
          have hh : (i + j) / 2 < D.length := by omega
          have hI : (((i + j) / 2 : Nat) : Int) < (D.length : Int) := by omega
          have hI1 : (m : Int) < (D.length : Int) := by omega
          have l1 : ((i + j) / 2) * 3 + 3 ≤ (D.flatMap rc).length := by rw [rc_flat]; omega
          have l2 : m * 3 + 3 ≤ (D.flatMap rc).length := by rw [rc_flat]; omega
          have g1 := rc_at D ((i + j) / 2) hh
          have g2 := rc_at D m (by omega)
          have sh : binI .shr .u64 ((i + j : Nat) : Int) 1 = some (.int .u64 (((i + j) / 2 : Nat) : Int)) := bin_shr
          simp only [binI] at sh
          simp only [go_sem, wp, wu, sh, wh, hI, hI1, l1, l2, g1, g2]
          refine callD_det (hcm D D[m]! D[(i + j) / 2]!) (by simp only [go_sem, eRs, rc]) (by simp only [go_sem]) rfl (fun h => by cases h) ?_
          simp only [go_sem]
          have wh1 : IntKind.i64.wrap ((((i + j) / 2 : Nat) : Int) + 1) = (((i + j) / 2 + 1 : Nat) : Int) := wrap_succ (by omega)
          refine if_s (fun hp => ?_) (fun hp => ?_)
          · simp only [go_sem, wh1]
            exact ⟨(k, (i + j) / 2 + 1, j), ⟨by simp only; omega, by simp only; omega, i3, by simp only; omega, gT hp⟩, by simp only; omega, rfl, rfl, rfl, rfl, rfl⟩
          · simp only [go_sem]
            exact ⟨(k, i, (i + j) / 2), ⟨i1, by simp only; omega, by simp only; omega, by simp only; omega, gF hp⟩, by simp only; omega, rfl, rfl, rfl, rfl, rfl⟩
        · have hiS : i = S := bsr_end hg (by simpa using hf)
          subst hiS
          simp only [go_sem]
          generalize hF : shD (m - i) m D = F
          refine v_for (α := Nat × List Rs) (base := 3) (marks := []) (pu := false) (good := fun y => i ≤ y.1 ∧ y.1 ≤ m ∧ y.2.length = D.length ∧ shD (y.1 - i) y.1 y.2 = F) (m := fun y => y.1)
            (E := fun y => [(0, .row 1 0 D.length), (14, .int .i64 (i : Nat)), (17, .int .i64 (y.1 : Nat))]) (O := fun y => [.tok 0 3, .cells (y.2.flatMap rc), .cells bx])
            (by intro y _; simp [go_sem, Obj.idsB, rc_ids, hbx]) rfl ?_ (m, D) _ ⟨by simp only; omega, Nat.le_refl _, rfl, hF⟩ rfl rfl rfl rfl rfl
          rintro ⟨k', E⟩ ⟨k1, k2, hE, hg'⟩
          simp only at k1 k2 hE hg'
          simp only [go_sem]
          refine if_s (fun ht' => ?_) (fun hf' => ?_)
          · have hk : i < k' := by simpa using ht'
            have hstep : shD (k' - 1 - i) (k' - 1) (sw E k' (k' - 1)) = F := by
              have : k' - i = (k' - 1 - i) + 1 := by omega
              rw [this, shD] at hg'
              exact hg'
            have wk : IntKind.i64.wrap ((k' : Int) - 1) = ((k' - 1 : Nat) : Int) := wrap_minus (a := k') (b := 1) (by omega) (by omega)
            have hIa : (k' : Int) < (D.length : Int) := by omega
            have hIb : ((k' - 1 : Nat) : Int) < (D.length : Int) := by omega
            have l1 : k' * 3 + 3 ≤ (E.flatMap rc).length := by rw [rc_flat]; omega
            have l2 : (k' - 1) * 3 + 3 ≤ (E.flatMap rc).length := by rw [rc_flat]; omega
            have g1 := rc_at E k' (by omega)
            have g2 := rc_at E (k' - 1) (by omega)
            have fs1 := rc_set E k' (by omega) E[k' - 1]!
            have fs2 := rc_set (E.set k' E[k' - 1]!) (k' - 1) (by simp; omega) E[k']!
            have l3 : (k' - 1) * 3 + 3 ≤ ((E.set k' E[k' - 1]!).flatMap rc).length := by rw [rc_flat]; simp; omega
            simp only [go_sem, wk, hIa, hIb, l1, l2, g1, g2, fs1, l3, fs2]
            exact ⟨(k' - 1, sw E k' (k' - 1)), ⟨by simp only; omega, by simp only; omega, by simp only [sw_len]; exact hE, hstep⟩, by simp only; omega, by simp only [go_sem, wk], rfl, rfl, rfl, rfl⟩
          · simp only [go_sem]
            have : k' - i = 0 := by simp at hf'; omega
            rw [this, shD] at hg'
            exact fin_ret rfl hbx hg'
      · have hbm : ¬ b - m = 1 := by simp at h2; omega
        rw [if_neg hbm]
        obtain ⟨mid, hmid⟩ : ∃ mid, mid = (a + b) / 2 := ⟨_, rfl⟩
        have wab : IntKind.i64.wrap ((a : Int) + (b : Int)) = ((a + b : Nat) : Int) := wrap_plus (by omega)
        have wu : IntKind.u64.wrap ((a + b : Nat) : Int) = ((a + b : Nat) : Int) := u64_nat (by omega)
        have wh : IntKind.i64.wrap (mid : Int) = (mid : Int) := wrap_nat (by omega)
        have sh : binI .shr .u64 ((a + b : Nat) : Int) 1 = some (.int .u64 (mid : Int)) := by rw [hmid]; exact bin_shr
        simp only [binI] at sh
        have wn : IntKind.i64.wrap ((mid : Int) + (m : Int)) = ((mid + m : Nat) : Int) := wrap_plus (by omega)
        have wn1 : IntKind.i64.wrap (((mid + m : Nat) : Int) - 1) = ((mid + m - 1 : Nat) : Int) := wrap_minus (a := mid + m) (b := 1) (by omega) (by omega)
        rw [← hmid]
        obtain ⟨i0, hi0⟩ : ∃ i0, i0 = (if mid < m then mid + m - b else a) := ⟨_, rfl⟩
        obtain ⟨j0, hj0⟩ : ∃ j0, j0 = (if mid < m then mid else m) := ⟨_, rfl⟩
        have hij0 : (i0 = mid + m - b ∧ j0 = mid ∧ mid < m) ∨ (i0 = a ∧ j0 = m ∧ m ≤ mid) := by
          by_cases h : mid < m
          · rw [if_pos h] at hi0 hj0; exact .inl ⟨hi0, hj0, h⟩
          · rw [if_neg h] at hi0 hj0; exact .inr ⟨hi0, hj0, by omega⟩
        have hSd : symE (ltC cf) a m b D = bsr (fun q => !ltC cf D[mid + m - 1 - q]! D[q]!) (b - a) i0 j0 := by
          rw [symE, hi0, hj0, hmid]
        generalize hS : symE (ltC cf) a m b D = S
        rw [hS] at hSd
        have hSb := bsr_ok (fun q => !ltC cf D[mid + m - 1 - q]! D[q]!) (b - a) i0 j0 (by omega) (by omega)
        rw [← hSd] at hSb
        obtain ⟨s1, s2, _, _⟩ := hSb
        have hS1 : a ≤ S ∧ S ≤ m ∧ S ≤ mid := by omega
        obtain ⟨e, he⟩ : ∃ e, e = mid + m - S := ⟨_, rfl⟩
        rw [← he]
        generalize hD1 : (if S < m ∧ m < e then rotS m (e - S) (m - S) (e - m) D else D) = D1
        have hD1l : D1.length = D.length := by
          rw [← hD1]; split
          · rw [rotS_len]
          · rfl
        generalize hD2 : (if a < S ∧ S < mid then symS (ltC cf) n a S mid D1 else D1) = D2
        have hD2l : D2.length = D.length := by
          rw [← hD2]; split
          · rw [symS_len, hD1l]
          · exact hD1l
        generalize hD3 : (if mid < e ∧ e < b then symS (ltC cf) n mid e b D2 else D2) = D3
        simp only [go_sem, wab, wu, sh, wh, wn]
        refine if_cut (α := Unit) (base := 3) (marks := []) (pu := false) (fun _ => True)
          (fun _ => [(0, .row 1 0 D.length), (1, .int .i64 a), (2, .int .i64 m), (3, .int .i64 b), (4, .fn c [.ptr 2 0]), (18, .int .i64 mid), (19, .int .i64 (mid + m : Nat)), (20, .int .i64 i0), (21, .int .i64 j0)])
          (fun _ => [.tok 0 3, .cells (D.flatMap rc), .cells bx]) (fun h => ?_) (fun h => ?_) (fun _ _ => ?_)
        · have hm : mid < m := by simpa using h
          have e1 : i0 = mid + m - b := by omega
          have e2 : j0 = mid := by omega
          have ws : IntKind.i64.wrap (((mid + m : Nat) : Int) - (b : Int)) = ((mid + m - b : Nat) : Int) := wrap_minus (by omega) (by omega)
          simp only [go_sem, ws, e1, e2]
          first | exact ⟨(), trivial⟩ | exact ⟨(), trivial, rfl, rfl, rfl, rfl, rfl⟩
        · have hm : ¬ mid < m := by simpa using h
          have e1 : i0 = a := by omega
          have e2 : j0 = m := by omega
          simp only [go_sem, e1, e2]
          first | exact ⟨(), trivial⟩ | exact ⟨(), trivial, rfl, rfl, rfl, rfl, rfl⟩
        simp only [go_sem, wn1]
        refine v_for (α := Nat × Nat × Nat) (base := 3) (marks := []) (pu := false) (good := fun y => i0 ≤ y.2.1 ∧ y.2.1 ≤ y.2.2 ∧ y.2.2 ≤ j0 ∧ y.2.2 - y.2.1 ≤ y.1 ∧ bsr (fun q => !ltC cf D[mid + m - 1 - q]! D[q]!) y.1 y.2.1 y.2.2 = S) (m := fun y => y.1)
          (E := fun y => [(0, .row 1 0 D.length), (1, .int .i64 a), (2, .int .i64 m), (3, .int .i64 b), (4, .fn c [.ptr 2 0]), (18, .int .i64 mid), (19, .int .i64 (mid + m : Nat)), (20, .int .i64 (y.2.1 : Nat)), (21, .int .i64 (y.2.2 : Nat)), (22, .int .i64 (mid + m - 1 : Nat))]) (O := fun y => [.tok 0 3, .cells (D.flatMap rc), .cells bx])
          (by intro y _; simp [go_sem, Obj.idsB, rc_ids, hbx]) rfl ?_ (b - a, i0, j0) _ ⟨Nat.le_refl _, by simp only; omega, Nat.le_refl _, by simp only; omega, hSd.symm⟩ rfl rfl rfl rfl rfl
        rintro ⟨k, i, j⟩ ⟨i1, i2, i3, i4, hg⟩
        simp only at i1 i2 i3 i4 hg
        simp only [go_sem]
        refine if_s (fun ht => ?_) (fun hf => ?_)
        · have hij : i < j := by simpa using ht
          obtain ⟨k, rfl⟩ : ∃ q, k = q + 1 := ⟨k - 1, by omega⟩
          obtain ⟨gT, gF⟩ := bsr_on hg hij
          obtain ⟨h, hh⟩ : ∃ h, h = (i + j) / 2 := ⟨_, rfl⟩
          rw [← hh] at gT gF
          obtain ⟨p, hp⟩ : ∃ p, p = mid + m - 1 - h := ⟨_, rfl⟩
          have wp : IntKind.i64.wrap ((i : Int) + (j : Int)) = ((i + j : Nat) : Int) := wrap_plus (by omega)
          have wu : IntKind.u64.wrap ((i + j : Nat) : Int) = ((i + j : Nat) : Int) := u64_nat (by omega)
          have wh : IntKind.i64.wrap (h : Int) = (h : Int) := wrap_nat (by omega)
          have wpc : IntKind.i64.wrap (((mid + m - 1 : Nat) : Int) - (h : Int)) = (p : Int) := by rw [hp]; exact wrap_minus (by omega) (by omega)
          have hhl : h < D.length := by omega
          have hpl : p < D.length := by omega
          have hI : (h : Int) < (D.length : Int) := by omega
          have hI1 : (p : Int) < (D.length : Int) := by omega
          have l1 : h * 3 + 3 ≤ (D.flatMap rc).length := by rw [rc_flat]; omega
          have l2 : p * 3 + 3 ≤ (D.flatMap rc).length := by rw [rc_flat]; omega
          have g1 := rc_at D h hhl
          have g2 := rc_at D p hpl
          have sh : binI .shr .u64 ((i + j : Nat) : Int) 1 = some (.int .u64 (h : Int)) := by rw [hh]; exact bin_shr
          simp only [binI] at sh
          simp only [go_sem, wp, wu, sh, wh, wpc, hI, hI1, l1, l2, g1, g2]
          refine callD_det (hcm D D[p]! D[h]!) (by simp only [go_sem, eRs, rc]) (by simp only [go_sem]) rfl (fun h => by cases h) ?_
          simp only [go_sem]
          have wh1 : IntKind.i64.wrap ((h : Int) + 1) = ((h + 1 : Nat) : Int) := wrap_succ (by omega)
          refine if_s (fun hq => ?_) (fun hq => ?_)
          · simp only [go_sem, wh1]
            exact ⟨(k, h + 1, j), ⟨by simp only; omega, by simp only; omega, i3, by simp only; omega, gT (by rw [← hp]; exact hq)⟩, by simp only; omega, rfl, rfl, rfl, rfl, rfl⟩
          · simp only [go_sem]
            exact ⟨(k, i, h), ⟨i1, by simp only; omega, by simp only; omega, by simp only; omega, gF (by rw [← hp]; exact hq)⟩, by simp only; omega, rfl, rfl, rfl, rfl, rfl⟩
        have hiS : i = S := bsr_end hg (by simpa using hf)
        subst hiS
        have wE : IntKind.i64.wrap (((mid + m : Nat) : Int) - (i : Int)) = (e : Int) := by rw [he]; exact wrap_minus (by omega) (by omega)
        simp only [go_sem, wE]
        refine g_cut (α := Unit) (base := 3) (marks := []) (pu := false) (fun _ => True)
          (fun _ => [(0, .row 1 0 D.length), (1, .int .i64 a), (2, .int .i64 m), (3, .int .i64 b), (4, .fn c [.ptr 2 0]), (18, .int .i64 mid), (20, .int .i64 i), (24, .int .i64 e), (185, .bool (decide (i < m ∧ m < e)))])
          (fun _ => [.tok 0 3, .cells (D.flatMap rc), .cells bx]) ?_ (fun _ _ => ?_)
        · by_cases q : i < m
          · have q1 : decide ((i : Int) < (m : Int)) = true := by simpa using q
            by_cases q2 : m < e
            · have q3 : decide ((m : Int) < (e : Int)) = true := by simpa using q2
              simp only [go_sem, q1, q3, q, q2]
              first | exact ⟨(), trivial⟩ | exact ⟨(), trivial, rfl, rfl, rfl, rfl, rfl⟩
            · have q3 : decide ((m : Int) < (e : Int)) = false := by simpa using q2
              simp only [go_sem, q1, q3, q, q2, and_false, decide_false]
              first | exact ⟨(), trivial⟩ | exact ⟨(), trivial, rfl, rfl, rfl, rfl, rfl⟩
          · have q1 : decide ((i : Int) < (m : Int)) = false := by simpa using q
            simp only [go_sem, q1, q, false_and, decide_false]
            first | exact ⟨(), trivial⟩ | exact ⟨(), trivial, rfl, rfl, rfl, rfl, rfl⟩
        simp only [go_sem]
        refine if_cut (α := Unit) (base := 3) (marks := []) (pu := false) (fun _ => True)
          (fun _ => [(0, .row 1 0 D.length), (1, .int .i64 a), (3, .int .i64 b), (4, .fn c [.ptr 2 0]), (18, .int .i64 mid), (20, .int .i64 i), (24, .int .i64 e)])
          (fun _ => [.tok 0 3, .cells (D1.flatMap rc), .cells bx]) (fun h => ?_) (fun h => ?_) (fun _ _ => ?_)
        · have hq : i < m ∧ m < e := of_decide_eq_true h
          rw [if_pos hq] at hD1
          simp only [go_sem]
          have q := c_rotate (c := c) hbx D i m e hq.1 hq.2 (by omega) hl
          rw [hD1] at q
          refine callW_det q (by simp only [go_sem]) (by simp only [go_sem]) (.inl rfl) ?_
          simp only [go_sem]
          first | exact ⟨(), trivial⟩ | exact ⟨(), trivial, rfl, rfl, rfl, rfl, rfl⟩
        · have hq : ¬ (i < m ∧ m < e) := of_decide_eq_false h
          rw [if_neg hq] at hD1
          subst hD1
          simp only [go_sem]
          first | exact ⟨(), trivial⟩ | exact ⟨(), trivial, rfl, rfl, rfl, rfl, rfl⟩
        simp only [go_sem]
        refine g_cut (α := Unit) (base := 3) (marks := []) (pu := false) (fun _ => True)
          (fun _ => [(0, .row 1 0 D.length), (1, .int .i64 a), (3, .int .i64 b), (4, .fn c [.ptr 2 0]), (18, .int .i64 mid), (20, .int .i64 i), (24, .int .i64 e), (199, .bool (decide (a < i ∧ i < mid)))])
          (fun _ => [.tok 0 3, .cells (D1.flatMap rc), .cells bx]) ?_ (fun _ _ => ?_)
        · by_cases q : a < i
          · have q1 : decide ((a : Int) < (i : Int)) = true := by simpa using q
            by_cases q2 : i < mid
            · have q3 : decide ((i : Int) < (mid : Int)) = true := by simpa using q2
              simp only [go_sem, q1, q3, q, q2]
              first | exact ⟨(), trivial⟩ | exact ⟨(), trivial, rfl, rfl, rfl, rfl, rfl⟩
            · have q3 : decide ((i : Int) < (mid : Int)) = false := by simpa using q2
              simp only [go_sem, q1, q3, q, q2, and_false, decide_false]
              first | exact ⟨(), trivial⟩ | exact ⟨(), trivial, rfl, rfl, rfl, rfl, rfl⟩
          · have q1 : decide ((a : Int) < (i : Int)) = false := by simpa using q
            simp only [go_sem, q1, q, false_and, decide_false]
            first | exact ⟨(), trivial⟩ | exact ⟨(), trivial, rfl, rfl, rfl, rfl, rfl⟩
        simp only [go_sem]
        refine if_cut (α := Unit) (base := 3) (marks := []) (pu := false) (fun _ => True)
          (fun _ => [(0, .row 1 0 D.length), (3, .int .i64 b), (4, .fn c [.ptr 2 0]), (18, .int .i64 mid), (24, .int .i64 e)])
          (fun _ => [.tok 0 3, .cells (D2.flatMap rc), .cells bx]) (fun h => ?_) (fun h => ?_) (fun _ _ => ?_)
        · have hq : a < i ∧ i < mid := of_decide_eq_true h
          rw [if_pos hq] at hD2
          simp only [go_sem]
          have q := ih D1 a i mid hq.1 hq.2 (by omega) (by omega) (by omega)
          rw [hD2, hD1l] at q
          refine callW_det q (by simp only [go_sem]) (by simp only [go_sem]) (.inl rfl) ?_
          simp only [go_sem]
          first | exact ⟨(), trivial⟩ | exact ⟨(), trivial, rfl, rfl, rfl, rfl, rfl⟩
        · have hq : ¬ (a < i ∧ i < mid) := of_decide_eq_false h
          rw [if_neg hq] at hD2
          subst hD2
          simp only [go_sem]
          first | exact ⟨(), trivial⟩ | exact ⟨(), trivial, rfl, rfl, rfl, rfl, rfl⟩
        simp only [go_sem]
        refine g_cut (α := Unit) (base := 3) (marks := []) (pu := false) (fun _ => True)
          (fun _ => [(0, .row 1 0 D.length), (3, .int .i64 b), (4, .fn c [.ptr 2 0]), (18, .int .i64 mid), (24, .int .i64 e), (213, .bool (decide (mid < e ∧ e < b)))])
          (fun _ => [.tok 0 3, .cells (D2.flatMap rc), .cells bx]) ?_ (fun _ _ => ?_)
        · by_cases q : mid < e
          · have q1 : decide ((mid : Int) < (e : Int)) = true := by simpa using q
            by_cases q2 : e < b
            · have q3 : decide ((e : Int) < (b : Int)) = true := by simpa using q2
              simp only [go_sem, q1, q3, q, q2]
              first | exact ⟨(), trivial⟩ | exact ⟨(), trivial, rfl, rfl, rfl, rfl, rfl⟩
            · have q3 : decide ((e : Int) < (b : Int)) = false := by simpa using q2
              simp only [go_sem, q1, q3, q, q2, and_false, decide_false]
              first | exact ⟨(), trivial⟩ | exact ⟨(), trivial, rfl, rfl, rfl, rfl, rfl⟩
          · have q1 : decide ((mid : Int) < (e : Int)) = false := by simpa using q
            simp only [go_sem, q1, q, false_and, decide_false]
            first | exact ⟨(), trivial⟩ | exact ⟨(), trivial, rfl, rfl, rfl, rfl, rfl⟩
        simp only [go_sem]
        refine if_s (fun h => ?_) (fun h => ?_)
        · have hq : mid < e ∧ e < b := of_decide_eq_true h
          rw [if_pos hq] at hD3
          simp only [go_sem]
          have q := ih D2 mid e b hq.1 hq.2 (by omega) (by omega) (by omega)
          rw [hD3, hD2l] at q
          refine callW_det q (by simp only [go_sem]) (by simp only [go_sem]) (.inl rfl) ?_
          simp only [go_sem]
          exact fin_row rfl hbx rfl
        · have hq : ¬ (mid < e ∧ e < b) := of_decide_eq_false h
          rw [if_neg hq] at hD3
          simp only [go_sem]
          exact fin_row rfl hbx hD3
end Go.Proofs
