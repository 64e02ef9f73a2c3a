/- V, proofs: rows of results; slices.insertionSortCmpFunc on them. Conditions: the row's length. -/
import Derived.Test.YtglabjcjfjlkoaaGreatDoorSA0
import Derived.Test.YtglabjcjfjlkoaaGreatDoorSO2
set_option linter.unusedVariables false
set_option linter.unusedSimpArgs false
namespace Go.Proofs
open Go.V Go.RowKit

def eSp (p : Int × Int) : VV := .agg [.int .i64 p.1, .int .i64 p.2]
def rc (r : Rs) : List VV := [.int .i64 r.doc, .int .i64 r.sc, .sl (r.sp.map eSp) 0]
def eRs (r : Rs) : VV := .agg (rc r)
def eDc (d : Dc) : VV := .agg [.int .i64 d.id, .str d.repo, .str d.path, .str d.text, .sl (d.on.map VV.str) 0]
theorem rc_len (r : Rs) : (rc r).length = 3 := rfl
theorem flr_len' {α β : Type} {f : α → List β} {k : Nat} (h : ∀ x, (f x).length = k) : ∀ l : List α, (l.flatMap f).length = l.length * k
  | [] => by simp
  | x :: r => by
    rw [List.flatMap_cons, List.length_append, flr_len' h r, h x, List.length_cons, Nat.add_mul, Nat.one_mul, Nat.add_comm]
theorem rc_flat (l : List Rs) : (l.flatMap rc).length = l.length * 3 := flr_len' rc_len l
theorem flat_drop' {α β : Type} {f : α → List β} {k : Nat} (h : ∀ x, (f x).length = k) : ∀ (l : List α) (i : Nat), (l.flatMap f).drop (i * k) = (l.drop i).flatMap f
  | l, 0 => by simp
  | [], i + 1 => by simp
  | x :: r, i + 1 => by
    rw [List.flatMap_cons, List.drop_succ_cons, ← flat_drop' h r i, Nat.add_mul, Nat.one_mul, Nat.add_comm, ← List.drop_drop]
    congr 1
    rw [List.drop_append_of_le_length (by rw [h]; omega)]
    rw [List.drop_of_length_le (by rw [h]; omega)]
    rfl
theorem rc_at (l : List Rs) (i : Nat) (h : i < l.length) : ((l.flatMap rc).drop (i * 3)).take 3 = [.int .i64 l[i]!.doc, .int .i64 l[i]!.sc, .sl (l[i]!.sp.map eSp) 0] := by
  rw [flat_drop' rc_len, List.drop_eq_getElem_cons h, List.flatMap_cons, getElem!_pos l i h]
  rfl
theorem setCells_app' (vs : List VV) : ∀ (a b cs : List VV), vs.length = b.length → setCells (a ++ b ++ cs) a.length vs = a ++ vs ++ cs := by
  induction vs with
  | nil =>
    intro a b cs h
    have hb : b = [] := List.eq_nil_of_length_eq_zero h.symm
    subst hb; simp [setCells]
  | cons v r ih =>
    intro a b cs h
    cases b with
    | nil => simp at h
    | cons x y =>
      rw [setCells]
      have e : (a ++ x :: y ++ cs).set a.length v = (a ++ [v]) ++ y ++ cs := by
        rw [List.append_assoc, List.set_append_right _ _ (Nat.le_refl _)]
        simp
      rw [e]
      have := ih (a ++ [v]) y cs (by simpa using h)
      rw [List.length_append] at this
      simp only [List.length_cons, List.length_nil, Nat.zero_add] at this
      rw [this]
      simp
theorem rc_set (D : List Rs) (k : Nat) (h : k < D.length) (x : Rs) : ((((D.flatMap rc).set (k * 3) (.int .i64 x.doc)).set (k * 3 + 1) (.int .i64 x.sc)).set (k * 3 + 1 + 1) (.sl (x.sp.map eSp) 0)) = (D.set k x).flatMap rc := by
  have e : D.flatMap rc = (D.take k).flatMap rc ++ rc D[k] ++ (D.drop (k + 1)).flatMap rc := by
    have e0 : D = D.take k ++ D[k] :: D.drop (k + 1) := by rw [← List.drop_eq_getElem_cons h, List.take_append_drop]
    have e1 := congrArg (fun z => z.flatMap rc) e0
    simp only [List.flatMap_append, List.flatMap_cons] at e1
    rw [List.append_assoc]
    exact e1
  have e2 : (D.set k x).flatMap rc = (D.take k).flatMap rc ++ rc x ++ (D.drop (k + 1)).flatMap rc := by
    rw [List.set_eq_take_append_cons_drop, if_pos h]
    simp [List.flatMap_append]
  have e3 : k * 3 = ((D.take k).flatMap rc).length := by rw [rc_flat, List.length_take, Nat.min_eq_left (by omega)]
  have := setCells_app' (rc x) ((D.take k).flatMap rc) (rc D[k]) ((D.drop (k + 1)).flatMap rc) (by rw [rc_len, rc_len])
  rw [← e, ← e2, ← e3] at this
  exact this
theorem rc_ids (n : Nat) (D : List Rs) : idsL n (D.flatMap rc) = true := idsL_of fun v hv => by
  obtain ⟨x, _, hx⟩ := List.mem_flatMap.1 hv
  simp only [rc, List.mem_cons, List.not_mem_nil, or_false] at hx
  rcases hx with rfl | rfl | rfl <;> simp [VV.ids]
/-- the row and the box that the comparison reads -/
def RB (bx : List VV) (D : List Rs) : List V.Obj := [.tok 0 3, .cells (D.flatMap rc), .cells bx]
/-- what is known of a comparison bound to the box -/
def CmpOk (c : Nat) (bx : List VV) (cf : Rs → Rs → Int) : Prop := idsL 3 bx = true ∧ ∀ (D : List Rs) (a b : Rs), ImpC PR c [eRs a, eRs b, .ptr 2 0] [.tok 0 3, .cells (D.flatMap rc), .cells bx] fun r o => r = .int .i64 (cf a b) ∧ o = [.tok 0 3, .cells (D.flatMap rc), .cells bx]
def ltC (cf : Rs → Rs → Int) (a b : Rs) : Bool := decide (cf a b < 0)
theorem fin_row {vf : VF} (hv : vf.results = []) {env : List (Nat × VV)} {D F : List Rs} {bx : List VV} (hb : idsL 3 bx = true) (h : D = F) :
    EndI vf 3 (fun r ob' => r = .tup [] ∧ ob' = [.tok 0 3, .cells (F.flatMap rc), .cells bx]) .nrm ⟨⟨env, [.tok 0 3, .cells (D.flatMap rc), .cells bx]⟩, 3, [], false⟩ := by
  subst h
  refine endI_nrm 3 (.tup []) (Nat.le_refl _) (Nat.le_refl _) ?_ (by rw [hv]; rfl) rfl ⟨rfl, rfl⟩
  simp only [List.take_succ_cons, List.take_zero, List.all_cons, List.all_nil, Bool.and_true, Obj.idsB, rc_ids, hb]
theorem get_bang {D : List Rs} {i : Nat} (h : i < D.length) : D[i]! = D[i] := getElem!_pos D i h

theorem c_insertion {c : Nat} {bx : List VV} {cf : Rs → Rs → Int} (hc : CmpOk c bx cf) (D : List Rs) (a b : Nat) (hb : b ≤ D.length) (ha : a < 1000000000) (hl : D.length ≤ 1000000) :
    ImpC PR n_slices_insertionSortCmpFunc_Result [.row 1 0 D.length, .int .i64 a, .int .i64 b, .fn c [.ptr 2 0]] [.tok 0 3, .cells (D.flatMap rc), .cells bx] fun r ob' => r = .tup [] ∧ ob' = [.tok 0 3, .cells ((insI (ltC cf) a (b - (a + 1)) (a + 1) D).flatMap rc), .cells bx] := by
  refine imp_of_wp m_slices_insertionSortCmpFunc_Result rfl ?_
  obtain ⟨hbx, hcm⟩ := hc
  generalize hF : insI (ltC cf) a (b - (a + 1)) (a + 1) D = F
  unfold FnI
  have hv : v_slices_insertionSortCmpFunc_Result.body = v_slices_insertionSortCmpFunc_Result.body := rfl
  conv at hv => rhs; unfold v_slices_insertionSortCmpFunc_Result
  rw [hv]
  clear hv
  have hw1 : IntKind.i64.wrap ((a : Int) + 1) = ((a + 1 : Nat) : Int) := wrap_succ (by omega)
  simp only [go_sem, hw1]
  refine v_for (α := Nat × List Rs) (base := 3) (marks := []) (pu := false) (good := fun y => a + 1 ≤ y.1 ∧ y.2.length = D.length ∧ insI (ltC cf) a (b - y.1) y.1 y.2 = F) (m := fun y => b - y.1)
    (E := fun y => [(0, .row 1 0 D.length), (1, .int .i64 a), (2, .int .i64 b), (3, .fn c [.ptr 2 0]), (8, .int .i64 (y.1 : Nat))]) (O := fun y => [.tok 0 3, .cells (y.2.flatMap rc), .cells bx])
    (by intro y _; simp [go_sem, Obj.idsB, rc_ids, hbx]) rfl ?_ (a + 1, D) _ ⟨Nat.le_refl _, rfl, hF⟩ rfl rfl rfl rfl rfl
  rintro ⟨i, E⟩ ⟨hi, hE, hg⟩
  simp only at hi hE hg
  simp only [go_sem]
  refine if_s (fun ht => ?_) (fun hf => ?_)
  rotate_left
  · simp only [go_sem]
    have : b - i = 0 := by simp at hf; omega
    rw [this, insI] at hg
    exact fin_row rfl hbx hg
  have hib : i < b := by simpa using ht
  simp only [go_sem]
  have hstep : insI (ltC cf) a (b - (i + 1)) (i + 1) (insJ (ltC cf) a i E) = F := by
    have : b - i = (b - (i + 1)) + 1 := by omega
    rw [this, insI] at hg
    exact hg
  generalize hG : insJ (ltC cf) a i E = G at hstep
  have hGl : G.length = D.length := by rw [← hG, insJ_len, hE]
  refine v_for (α := Nat × List Rs) (base := 3) (marks := []) (pu := false) (good := fun y => a ≤ y.1 ∧ y.1 ≤ i ∧ y.2.length = D.length ∧ insJ (ltC cf) a y.1 y.2 = G) (m := fun y => y.1)
    (E := fun y => [(0, .row 1 0 D.length), (1, .int .i64 a), (2, .int .i64 b), (3, .fn c [.ptr 2 0]), (8, .int .i64 (i : Nat)), (9, .int .i64 (y.1 : Nat))]) (O := fun y => [.tok 0 3, .cells (y.2.flatMap rc), .cells bx])
    (by intro y _; simp [go_sem, Obj.idsB, rc_ids, hbx]) rfl ?_ (i, E) _ ⟨by simp only; omega, Nat.le_refl _, hE, hG⟩ rfl rfl rfl rfl rfl
  rintro ⟨j, H⟩ ⟨hj1, hj2, hH, hg2⟩
  simp only at hj1 hj2 hH hg2
  have wi : IntKind.i64.wrap ((i : Int) + 1) = ((i + 1 : Nat) : Int) := wrap_succ (by omega)
  by_cases hja : a < j
  · obtain ⟨j, rfl⟩ : ∃ k, j = k + 1 := ⟨j - 1, by omega⟩
    have hja' : decide ((a : Int) < ((j + 1 : Nat) : Int)) = true := decide_eq_true (by omega)
    have hgt : decide (((j + 1 : Nat) : Int) > (a : Int)) = true := hja'
    have hjl : j + 1 < H.length := by omega
    have hI : ((j + 1 : Nat) : Int) < (D.length : Int) := by omega
    have hI1 : (j : Int) < (D.length : Int) := by omega
    have hw : IntKind.i64.wrap (((j + 1 : Nat) : Int) - 1) = (j : Int) := wrap_pred (by omega)
    have l1 : (j + 1) * 3 + 3 ≤ (H.flatMap rc).length := by rw [rc_flat]; omega
    have l2 : j * 3 + 3 ≤ (H.flatMap rc).length := by rw [rc_flat]; omega
    have g1 := rc_at H (j + 1) hjl
    have g2 := rc_at H j (by omega)
    rw [insJ] at hg2
    simp only [go_sem, hgt, hw, hI, hI1, l1, l2, g1, g2]
    refine callD_det (hcm H H[j + 1]! H[j]!) (by simp only [go_sem, eRs, rc]) (by simp only [go_sem]) rfl (fun h => by cases h) ?_
    simp only [go_sem]
    cases hlt : ltC cf H[j + 1]! H[j]! with
    | true =>
      have hd : decide (cf H[j + 1]! H[j]! < 0) = true := hlt
      simp only [go_sem, hd]
      rw [if_pos ⟨by omega, hlt⟩] at hg2
      have fs1 := rc_set H (j + 1) hjl H[j]!
      have fs2 := rc_set (H.set (j + 1) H[j]!) j (by simp; omega) H[j + 1]!
      have l3 : j * 3 + 3 ≤ ((H.set (j + 1) H[j]!).flatMap rc).length := by rw [rc_flat]; simp; omega
      simp only [go_sem, hw, hI, hI1, l1, l2, g1, g2, fs1, fs2, l3]
      exact ⟨(j, sw H (j + 1) j), ⟨by simp only; omega, by simp only; omega, by simp only [sw_len]; exact hH, hg2⟩, by simp only; omega, by simp only [go_sem, hw], rfl, rfl, rfl, rfl⟩
    | false =>
      have hd : decide (cf H[j + 1]! H[j]! < 0) = false := hlt
      simp only [go_sem, hd]
      rw [if_neg (by rw [hlt]; simp)] at hg2
      subst hg2
      exact ⟨(i + 1, H), ⟨by simp only; omega, hH, hstep⟩, by simp only; omega, by simp only [go_sem, wi], rfl, rfl, rfl, rfl⟩
  · have hgt : decide ((j : Int) > (a : Int)) = false := decide_eq_false (by omega)
    have hend : H = G := by
      cases j with
      | zero => rw [insJ] at hg2; exact hg2
      | succ k => rw [insJ, if_neg (by omega)] at hg2; exact hg2
    simp only [go_sem, hgt]
    subst hend
    exact ⟨(i + 1, H), ⟨by simp only; omega, hH, hstep⟩, by simp only; omega, by simp only [go_sem, wi], rfl, rfl, rfl, rfl⟩
end Go.Proofs
