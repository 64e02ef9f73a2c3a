/- V, proofs: slices.SortFunc on at most twelve pairs, by insertion (Gram). Conditions: the row's length. -/
import Derived.Test.YtglabjcjfjlkoaaGreatDoorEVa
set_option linter.unusedVariables false
set_option linter.unusedSimpArgs false
namespace Go.Proofs
open Go.V Go.RowKit

theorem c_cmp_Gram (a b : Gm) : PureC PR n_trigram_Grams_1 [eG a, eG b] (.int .i64 (cfG a b)) := by
  refine pure_of_wp m_trigram_Grams_1 rfl (by simp [argOk, eG, gc, VV.noHnd, VV.noHnd0, VV.ids, idsL]) ?_
  unfold FnW v_trigram_Grams_1
  have hw : IntKind.i64.wrap ((a.c.val : Int) - (b.c.val : Int)) = cfG a b := wrap_int (by omega) (by omega)
  simp only [go_sem, eG, gc, hw]
theorem c_ins_Gram {ob : List V.Obj} {t : Nat} (hR : RowO ob t) (D : List Gm) (hl : D.length ≤ 12) :
    ImpC PR n_slices_insertionSortCmpFunc_Gram [.row t 0 D.length, .int .i64 0, .int .i64 D.length, .fn n_trigram_Grams_1 []] (ob.set t (.cells (D.flatMap gc))) fun r ob' => r = .tup [] ∧ ob' = ob.set t (.cells ((insG D).flatMap gc)) := by
  refine imp_of_wp m_slices_insertionSortCmpFunc_Gram rfl ?_
  have hcm := c_cmp_Gram
  generalize hF : insG D = F
  unfold insG at hF
  unfold FnI
  rw [List.length_set]
  have hv : v_slices_insertionSortCmpFunc_Gram.body = v_slices_insertionSortCmpFunc_Gram.body := rfl
  conv at hv => rhs; unfold v_slices_insertionSortCmpFunc_Gram
  rw [hv]
  clear hv
  have hlo := hR.lt
  simp only [go_sem]
  refine v_for (α := Nat × List Gm) (base := ob.length) (marks := []) (pu := false) (good := fun y => 1 ≤ y.1 ∧ y.2.length = D.length ∧ insI ltG 0 (D.length - y.1) y.1 y.2 = F) (m := fun y => D.length - y.1)
    (E := fun y => [(0, .row t 0 D.length), (1, .int .i64 0), (2, .int .i64 D.length), (3, .fn n_trigram_Grams_1 []), (8, .int .i64 (y.1 : Nat))]) (O := fun y => ob.set t (.cells (y.2.flatMap gc)))
    (by intro y _; refine ⟨?_, hR.ids _, by simp⟩; simp [go_sem, hlo]) rfl ?_ (1, D) _ ⟨Nat.le_refl _, rfl, hF⟩ rfl tk_set rfl rfl rfl
  rintro ⟨i, E⟩ ⟨hi, hE, hg⟩
  simp only at hi hE hg
  simp only [go_sem]
  refine if_s (fun ht => ?_) (fun hf => ?_)
  rotate_left
  · simp only [go_sem]
    have : D.length - i = 0 := by simp at hf; omega
    rw [this, insI] at hg
    exact fin_G rfl hR hg
  have hib : i < D.length := by simpa using ht
  simp only [go_sem]
  have hstep : insI ltG 0 (D.length - (i + 1)) (i + 1) (insJ ltG 0 i E) = F := by
    have : D.length - i = (D.length - (i + 1)) + 1 := by omega
    rw [this, insI] at hg
    exact hg
  generalize hG : insJ ltG 0 i E = G at hstep
  have hGl : G.length = D.length := by rw [← hG, insJ_len, hE]
  refine v_for (α := Nat × List Gm) (base := ob.length) (marks := []) (pu := false) (good := fun y => y.1 ≤ i ∧ y.2.length = D.length ∧ insJ ltG 0 y.1 y.2 = G) (m := fun y => y.1)
    (E := fun y => [(0, .row t 0 D.length), (1, .int .i64 0), (2, .int .i64 D.length), (3, .fn n_trigram_Grams_1 []), (8, .int .i64 (i : Nat)), (9, .int .i64 (y.1 : Nat))]) (O := fun y => ob.set t (.cells (y.2.flatMap gc)))
    (by intro y _; refine ⟨?_, hR.ids _, by simp⟩; simp [go_sem, hlo]) rfl ?_ (i, E) _ ⟨Nat.le_refl _, hE, hG⟩ rfl tk_set rfl rfl rfl
  rintro ⟨j, H⟩ ⟨hj2, hH, hg2⟩
  simp only at hj2 hH hg2
  have wi : IntKind.i64.wrap ((i : Int) + 1) = ((i + 1 : Nat) : Int) := wrap_succ (by omega)
  have hget := hR.get
  cases j with
  | succ j =>
    have hgt : decide (((j + 1 : Nat) : Int) > 0) = true := decide_eq_true (by omega)
    have hjl : j + 1 < H.length := by omega
    have hI : ((j + 1 : Nat) : Int) < (D.length : Int) := by omega
    have hI1 : (j : Int) < (D.length : Int) := by omega
    have hw : IntKind.i64.wrap (((j + 1 : Nat) : Int) - 1) = (j : Int) := wrap_pred (by omega)
    have l1 : (j + 1) * 2 + 2 ≤ (H.flatMap gc).length := by rw [gc_flat]; omega
    have l2 : j * 2 + 2 ≤ (H.flatMap gc).length := by rw [gc_flat]; omega
    have g1 := gc_at H (j + 1) hjl
    have g2 := gc_at H j (by omega)
    rw [insJ] at hg2
    simp only [go_sem, hgt, hw, hI, hI1, l1, l2, g1, g2, hget]
    have hc2 := hcm H[j + 1]! H[j]!
    simp only [eG, gc] at hc2
    refine callD_pure hc2 (by simp only [go_sem]) (by simp only [go_sem]) ?_
    simp only [go_sem]
    cases hlt : ltG H[j + 1]! H[j]! with
    | true =>
      have hd : decide (cfG H[j + 1]! H[j]! < 0) = true := hlt
      simp only [go_sem, hd]
      rw [if_pos ⟨by omega, hlt⟩] at hg2
      have fs1 := gc_set H (j + 1) hjl H[j]!
      have fs2 := gc_set (H.set (j + 1) H[j]!) j (by simp; omega) H[j + 1]!
      have l3 : j * 2 + 2 ≤ ((H.set (j + 1) H[j]!).flatMap gc).length := by rw [gc_flat]; simp; omega
      simp only [go_sem, hw, hI, hI1, l1, l2, g1, g2, fs1, fs2, l3, hget, set_set']
      exact ⟨(j, sw H (j + 1) j), ⟨by simp only; omega, by simp only [sw_len]; exact hH, hg2⟩, by simp only; omega, by simp only [go_sem, hw], tk_set, rfl, rfl, rfl⟩
    | false =>
      have hd : decide (cfG H[j + 1]! H[j]! < 0) = false := hlt
      simp only [go_sem, hd]
      rw [if_neg (by rw [hlt]; simp)] at hg2
      subst hg2
      exact ⟨(i + 1, H), ⟨by simp only; omega, hH, hstep⟩, by simp only; omega, by simp only [go_sem, wi], tk_set, rfl, rfl, rfl⟩
  | zero =>
    have hgt : decide (((0 : Nat) : Int) > 0) = false := by decide
    have hend : H = G := by rw [insJ] at hg2; exact hg2
    simp only [go_sem, hgt]
    subst hend
    exact ⟨(i + 1, H), ⟨by simp only; omega, hH, hstep⟩, by simp only; omega, by simp only [go_sem, wi], tk_set, rfl, rfl, rfl⟩
theorem c_pdq_Gram {ob : List V.Obj} {t : Nat} (hR : RowO ob t) (D : List Gm) (hl : D.length ≤ 12) (z : Int) :
    ImpC PR n_slices_pdqsortCmpFunc_Gram [.row t 0 D.length, .int .i64 0, .int .i64 D.length, .int .i64 z, .fn n_trigram_Grams_1 []] (ob.set t (.cells (D.flatMap gc))) fun r ob' => r = .tup [] ∧ ob' = ob.set t (.cells ((insG D).flatMap gc)) := by
  refine imp_of_wp m_slices_pdqsortCmpFunc_Gram rfl ?_
  have hc := c_ins_Gram hR D hl
  unfold FnI
  rw [List.length_set]
  have hv : v_slices_pdqsortCmpFunc_Gram.body = v_slices_pdqsortCmpFunc_Gram.body := rfl
  conv at hv => rhs; unfold v_slices_pdqsortCmpFunc_Gram
  rw [hv]
  clear hv
  have hlo := hR.lt
  have hw : IntKind.i64.wrap ((D.length : Int) - 0) = (D.length : Int) := by rw [Int.sub_zero]; exact wrap_nat (by omega)
  have h12 : decide ((D.length : Int) ≤ 12) = true := decide_eq_true (by omega)
  simp only [go_sem]
  refine v_for (α := Unit) (base := ob.length) (marks := []) (pu := false) (good := fun _ => True) (m := fun _ => 0)
    (E := fun _ => [(0, .row t 0 D.length), (1, .int .i64 0), (2, .int .i64 D.length), (3, .int .i64 z), (4, .fn n_trigram_Grams_1 []), (10, .bool true), (11, .bool true)]) (O := fun _ => ob.set t (.cells (D.flatMap gc)))
    (by intro y _; refine ⟨?_, hR.ids _, by simp⟩; simp [go_sem, hlo]) rfl ?_ () _ trivial rfl tk_set rfl rfl rfl
  intro _ _
  simp only [go_sem, hw, h12]
  refine callW_det hc (by simp only [go_sem]) (by simp only [go_sem]) (.inl rfl) ?_
  simp only [go_sem]
  exact fin_Gr rfl hR rfl
theorem c_SortF_Gram {ob : List V.Obj} {t : Nat} (hR : RowO ob t) (D : List Gm) (hl : D.length ≤ 12) {z : Int} (hz : PureC PR n_math_bits_Len [.int .u64 D.length] (.int .i64 z)) :
    ImpC PR n_slices_SortFunc_Gram_Gram [.row t 0 D.length, .fn n_trigram_Grams_1 []] (ob.set t (.cells (D.flatMap gc))) fun r ob' => r = .tup [] ∧ ob' = ob.set t (.cells ((insG D).flatMap gc)) := by
  refine imp_of_wp m_slices_SortFunc_Gram_Gram rfl ?_
  have hc := c_pdq_Gram hR D hl z
  unfold FnI
  rw [List.length_set]
  have hv : v_slices_SortFunc_Gram_Gram.body = v_slices_SortFunc_Gram_Gram.body := rfl
  conv at hv => rhs; unfold v_slices_SortFunc_Gram_Gram
  rw [hv]
  clear hv
  have hw : IntKind.u64.wrap (D.length : Int) = (D.length : Int) := wrap_u64' (by omega)
  simp only [go_sem, hw]
  refine callW_pure hz (by simp only [go_sem]) (by simp only [go_sem]) ?_
  simp only [go_sem]
  refine callW_det hc (by simp only [go_sem]) (by simp only [go_sem]) (.inl rfl) ?_
  simp only [go_sem]
  exact fin_G rfl hR rfl
end Go.Proofs
