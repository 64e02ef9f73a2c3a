/- V, proofs: slices.Compact on a row of keys. Conditions: the row's length. -/
import Derived.Test.YtifahgjmdiandaaGreatDoorSA1
import Derived.Test.YtifahgjmdiandaaGreatDoorSA2
set_option linter.unusedVariables false
set_option linter.unusedSimpArgs false
namespace Go.Proofs
open Go.V Go.RowKit

def kc (k : Ky) : List VV := [.str k.repo, .str k.path, .str k.text]
theorem kc_len (k : Ky) : (kc k).length = 3 := rfl
theorem kc_flat (l : List Ky) : (l.flatMap kc).length = l.length * 3 := flr_len kc_len l
theorem flat_drop {α β : Type} {f : α → List β} {k : Nat} (h : ∀ x, (f x).length = k) : ∀ (l : List α) (i : Nat), (l.flatMap f).drop (i * k) = (l.drop i).flatMap f
  | l, 0 => by simp
  | [], i + 1 => by simp
  | x :: r, i + 1 => by
    rw [List.flatMap_cons, List.drop_succ_cons, ← flat_drop h r i, Nat.add_mul, Nat.one_mul, Nat.add_comm, ← List.drop_drop]
    congr 1
    rw [List.drop_append_of_le_length (by rw [h]; omega)]
    rw [List.drop_of_length_le (by rw [h]; omega)]
    rfl
theorem flat_at (l : List Ky) (i : Nat) (h : i < l.length) : ((l.flatMap kc).drop (i * 3)).take 3 = [.str l[i].repo, .str l[i].path, .str l[i].text] := by
  rw [flat_drop kc_len, List.drop_eq_getElem_cons h, List.flatMap_cons]
  rfl
theorem flat_take {α β : Type} {f : α → List β} {k : Nat} (h : ∀ x, (f x).length = k) : ∀ (l : List α) (i : Nat), (l.flatMap f).take (i * k) = (l.take i).flatMap f
  | l, 0 => by simp
  | [], i + 1 => by simp
  | x :: r, i + 1 => by
    rw [List.flatMap_cons, List.take_succ_cons, List.flatMap_cons, ← flat_take h r i, Nat.add_mul, Nat.one_mul]
    rw [List.take_append]
    rw [h x, List.take_of_length_le (by rw [h]; omega)]
    congr 2
    omega
theorem setCells_app (vs : List VV) : ∀ (a b cs : List VV), vs.length = b.length → setCells (a ++ b ++ cs) a.length vs = a ++ vs ++ cs := by
  induction vs with
  | nil =>
    intro a b cs h
    have hb : b = [] := List.eq_nil_of_length_eq_zero h.symm
    subst hb; simp [setCells]
  | cons v r ih =>
    intro a b cs h
    cases b with
    | nil => simp at h
    | cons x y =>
      rw [setCells]
      have e : (a ++ x :: y ++ cs).set a.length v = (a ++ [v]) ++ y ++ cs := by
        rw [List.append_assoc, List.set_append_right _ _ (Nat.le_refl _)]
        simp
      rw [e]
      have := ih (a ++ [v]) y cs (by simpa using h)
      rw [List.length_append] at this
      simp only [List.length_cons, List.length_nil, Nat.zero_add] at this
      rw [this]
      simp
theorem flat_set (D : List Ky) (k : Nat) (h : k < D.length) (x : Ky) : setCells (D.flatMap kc) (k * 3) (kc x) = (D.set k x).flatMap kc := by
  have e : D.flatMap kc = (D.take k).flatMap kc ++ kc D[k] ++ (D.drop (k + 1)).flatMap kc := by
    have e0 : D = D.take k ++ D[k] :: D.drop (k + 1) := by rw [← List.drop_eq_getElem_cons h, List.take_append_drop]
    have e1 := congrArg (fun z => z.flatMap kc) e0
    simp only [List.flatMap_append, List.flatMap_cons] at e1
    rw [List.append_assoc]
    exact e1
  have e2 : (D.set k x).flatMap kc = (D.take k).flatMap kc ++ kc x ++ (D.drop (k + 1)).flatMap kc := by
    rw [List.set_eq_take_append_cons_drop, if_pos h]
    simp [List.flatMap_append]
  have e3 : k * 3 = ((D.take k).flatMap kc).length := by rw [kc_flat, List.length_take, Nat.min_eq_left (by omega)]
  rw [e, e2, e3]
  exact setCells_app _ _ _ _ (by rw [kc_len, kc_len])
theorem setCells_mem : ∀ (vs cs : List VV) (off : Nat) (v : VV), v ∈ setCells cs off vs → v ∈ cs ∨ v ∈ vs
  | [], _, _, _, h => .inl h
  | u :: r, cs, off, v, h => by
    rcases setCells_mem r _ _ v h with h | h
    · rcases List.mem_or_eq_of_mem_set h with h | rfl
      · exact .inl h
      · exact .inr (by simp)
    · exact .inr (by simp [h])
theorem setCells_take : ∀ (vs cs : List VV) (off : Nat), (setCells cs off vs).take off = cs.take off
  | [], _, _ => rfl
  | v :: r, cs, off => by
    rw [setCells]
    have := setCells_take r (cs.set off v) (off + 1)
    have h2 : ((setCells (cs.set off v) (off + 1) r).take (off + 1)).take off = ((cs.set off v).take (off + 1)).take off := by rw [this]
    rw [List.take_take, List.take_take, Nat.min_eq_left (by omega)] at h2
    rw [h2, List.take_set_of_le (Nat.le_refl _)]

/-- of neighbours that are equal, the first -/
def compactP : Ky → List Ky → List Ky
  | _, [] => []
  | a, x :: r => if x = a then compactP a r else x :: compactP x r
def compactK : List Ky → List Ky
  | [] => []
  | a :: r => a :: compactP a r
theorem compactP_snoc : ∀ (r : List Ky) (a y : Ky), compactP a (r ++ [y]) = compactP a r ++ (if y = (a :: r).getLast (by simp) then [] else [y])
  | [], a, y => by
    by_cases h : y = a <;> simp [compactP, h]
  | x :: r, a, y => by
    have ih := compactP_snoc r
    rw [List.cons_append, compactP]
    by_cases h : x = a
    · subst h
      rw [if_pos rfl, compactP, if_pos rfl, ih]
      rw [List.getLast_cons_cons]
    · rw [if_neg h, compactP, if_neg h, ih, List.getLast_cons_cons]
      rfl
theorem compact_snoc {l : List Ky} (h : 0 < l.length) (y : Ky) : compactK (l ++ [y]) = compactK l ++ (if y = l[l.length - 1] then [] else [y]) := by
  cases l with
  | nil => simp at h
  | cons a r =>
    rw [List.cons_append, compactK, compactP_snoc, compactK, List.getLast_eq_getElem]
    rfl
theorem compact_take {l : List Ky} {i : Nat} (h : i < l.length) (h0 : 0 < i) : compactK (l.take (i + 1)) = compactK (l.take i) ++ (if l[i] = l[i - 1] then [] else [l[i]]) := by
  rw [take_succ h, compact_snoc (by simp; omega)]
  have : (l.take i)[(l.take i).length - 1]'(by simp; omega) = l[i - 1] := by
    simp [Nat.min_eq_left (Nat.le_of_lt h)]
  rw [this]
theorem compact_le : ∀ l : List Ky, (compactK l).length ≤ l.length := by
  have key : ∀ (r : List Ky) (a : Ky), (compactP a r).length ≤ r.length := by
    intro r
    induction r with
    | nil => intro a; simp [compactP]
    | cons x r ih =>
      intro a
      rw [compactP]
      split
      · have := ih a; simp; omega
      · have := ih x; simp; omega
  intro l
  cases l with
  | nil => simp [compactK]
  | cons a r => have := key r a; simp [compactK]; omega

theorem c_Compact (l : List Ky) (hl : l.length ≤ 1000000) :
    ImpC PR n_slices_Compact_Key_Key [.row 0 0 l.length] [.cells (l.flatMap kc)] fun r ob' => ∃ rest, r = .row 0 0 (compactK l).length ∧ ob' = [.cells ((compactK l).flatMap kc ++ rest)] := by
  refine imp_of_wp m_slices_Compact_Key_Key rfl ?_
  have fin : ∀ (env : List (Nat × VV)) (C rest : List VV), get env 2 = .row 0 0 (compactK l).length → C = (compactK l).flatMap kc ++ rest → C.all (fun v => v.ids 1) = true →
      EndI v_slices_Compact_Key_Key 1 (fun r ob' => ∃ rest, r = .row 0 0 (compactK l).length ∧ ob' = [.cells ((compactK l).flatMap kc ++ rest)]) .ret ⟨⟨env, [.cells C]⟩, 1, [], false⟩ := fun env C rest h1 h2 h3 => by
    refine endI_of 1 (.row 0 0 (compactK l).length) (Nat.le_refl _) (Nat.le_refl _) ?_ ?_ rfl ⟨rest, rfl, ?_⟩
    · simp only [List.take_succ_cons, List.take_zero, List.all_cons, List.all_nil, Bool.and_true, Obj.idsB]
      exact idsL_of (List.all_eq_true.1 h3)
    · simp only [v_slices_Compact_Key_Key, resOfL, resOf, h1, outI]; rfl
    · rw [← h2]; rfl
  have hall : ∀ D : List Ky, (D.flatMap kc).all (fun v => v.ids 1) = true := fun D => by
    rw [List.all_eq_true]
    intro v hv
    obtain ⟨x, _, hx⟩ := List.mem_flatMap.1 hv
    simp only [kc, List.mem_cons, List.not_mem_nil, or_false] at hx
    rcases hx with rfl | rfl | rfl <;> rfl
  have hallI : ∀ D : List Ky, idsL 1 (D.flatMap kc) = true := fun D => idsL_of (List.all_eq_true.1 (hall D))
  unfold FnI
  have hv : v_slices_Compact_Key_Key.body = v_slices_Compact_Key_Key.body := rfl
  conv at hv => rhs; unfold v_slices_Compact_Key_Key
  rw [hv]
  clear hv
  simp only [go_sem]
  refine if_s (fun h0 => ?_) (fun h0 => ?_) <;> simp only [go_sem]
  · have hlt : l.length < 2 := by simp at h0; omega
    have hc : compactK l = l := by
      match l, hlt with
      | [], _ => rfl
      | [a], _ => rfl
    exact fin _ _ [] (by rw [hc]; rfl) (by rw [hc]; simp) (hall l)
  have h2 : 2 ≤ l.length := by simp at h0; omega
  refine v_for (α := Nat) (base := 1) (marks := []) (pu := false) (good := fun k => 1 ≤ k ∧ k ≤ l.length ∧ compactK (l.take k) = l.take k) (m := fun k => l.length - k)
    (E := fun k => [(0, .row 0 0 l.length), (3, .int .i64 k)]) (O := fun _ => [.cells (l.flatMap kc)])
    (by intro k _; simp [go_sem, Obj.idsB, hallI]) rfl ?_ 1 _ ⟨by omega, by omega, by
      match l, h2 with
      | a :: b :: r, _ => rfl⟩ rfl rfl rfl rfl rfl
  rintro k ⟨hk1, hkl, hck⟩
  simp only [go_sem]
  refine if_s (fun ht => ?_) (fun hf => ?_)
  · have hlt : k < l.length := by simp at ht; omega
    have hI : (k : Int) < (l.length : Int) := by omega
    have hI1 : ((k - 1 : Nat) : Int) < (l.length : Int) := by omega
    have hw : IntKind.i64.wrap ((k : Int) - 1) = ((k - 1 : Nat) : Int) := by rw [wrap_int (by omega) (by omega)]; omega
    have l1 : k * 3 + 3 ≤ (l.flatMap kc).length := by rw [kc_flat]; omega
    have l2 : (k - 1) * 3 + 3 ≤ (l.flatMap kc).length := by rw [kc_flat]; omega
    have g1 := flat_at l k hlt
    have g2 := flat_at l (k - 1) (by omega)
    simp only [go_sem, hI, hI1, hw, l1, l2, g1, g2, fitsL, eq_ky]
    refine if_s (fun h1 => ?_) (fun h1 => ?_)
    · have heq : l[k] = l[k - 1] := by simpa using h1
      have b1 : boundV l.length (.int .i64 (k : Int)) = some k := bnd (by omega)
      have hne : (l.length = k) = False := by simp; omega
      have hc1 : compactK (l.take (k + 1)) = l.take k := by rw [compact_take hlt hk1, if_pos heq, hck, List.append_nil]
      simp only [go_sem, b1, hne]
      refine v_for (α := Nat × List Ky) (base := 1) (marks := []) (pu := false)
        (good := fun y => 1 ≤ y.1 ∧ y.1 ≤ l.length - k ∧ y.2.length = l.length ∧ y.2.take (compactK (l.take (k + y.1))).length = compactK (l.take (k + y.1)) ∧ (∀ j (h : j < l.length) (h' : j < y.2.length), k + y.1 - 1 ≤ j → y.2[j] = l[j]) ∧ (compactK (l.take (k + y.1))).length ≤ k + y.1 - 1) (m := fun y => l.length - y.1)
        (E := fun y => [(0, .row 0 0 l.length), (3, .int .i64 (compactK (l.take (k + y.1))).length), (4, .row 0 (k * 3) (l.length - k)), (5, .int .i64 y.1)]) (O := fun y => [.cells (y.2.flatMap kc)])
        (by intro y _; simp [go_sem, Obj.idsB, hallI]) rfl ?_ (1, l) _ ⟨by omega, by simp only; omega, rfl, by simp only [hc1]; simp [Nat.min_eq_left (Nat.le_of_lt hlt)], fun j h h' _ => rfl, by simp only [hc1, List.length_take]; omega⟩ (by simp only [go_sem, hc1, List.length_take, Nat.min_eq_left (Nat.le_of_lt hlt)]) rfl rfl rfl rfl
      rintro ⟨y, D⟩ ⟨hy1, hy2, hD, hDt, hDd, hcc⟩
      simp only at hy1 hy2 hD hDt hDd hcc
      generalize hC : compactK (l.take (k + y)) = C at *
      simp only [go_sem]
      refine if_s (fun ht2 => ?_) (fun hf2 => ?_)
      · have hy : y < l.length - k := by simp at ht2; omega
        have hky : k + y < l.length := by omega
        have hI2 : (y : Int) < ((l.length - k : Nat) : Int) := by omega
        have hI3 : ((y - 1 : Nat) : Int) < ((l.length - k : Nat) : Int) := by omega
        have hw2 : IntKind.i64.wrap ((y : Int) - 1) = ((y - 1 : Nat) : Int) := by rw [wrap_int (by omega) (by omega)]; omega
        have hw3 : IntKind.i64.wrap ((y : Int) + 1) = ((y + 1 : Nat) : Int) := by rw [wrap_int (by omega) (by omega)]; omega
        have hw4 : IntKind.i64.wrap ((C.length : Int) + 1) = ((C.length + 1 : Nat) : Int) := by rw [wrap_int (by omega) (by omega)]; omega
        have l3 : k * 3 + y * 3 + 3 ≤ (D.flatMap kc).length := by rw [kc_flat]; omega
        have l4 : k * 3 + (y - 1) * 3 + 3 ≤ (D.flatMap kc).length := by rw [kc_flat]; omega
        have g3 := flat_at D (k + y) (by omega)
        have g4 := flat_at D (k + y - 1) (by omega)
        rw [show (k + y) * 3 = k * 3 + y * 3 by omega, hDd (k + y) hky (by omega) (by omega)] at g3
        rw [show (k + y - 1) * 3 = k * 3 + (y - 1) * 3 by omega, hDd (k + y - 1) (by omega) (by omega) (by omega)] at g4
        have hct := compact_take hky (by omega)
        rw [hC] at hct
        simp only [go_sem, hI2, hI3, hw2, l3, l4, g3, g4, fitsL, eq_ky]
        refine if_s (fun h3 => ?_) (fun h3 => ?_)
        · have hne3 : ¬ l[k + y] = l[k + y - 1] := by simpa using h3
          rw [if_neg hne3] at hct
          have hcI : (C.length : Int) < (l.length : Int) := by omega
          have lc : C.length * 3 + 3 ≤ (D.flatMap kc).length := by rw [kc_flat]; omega
          have fs : (((D.flatMap kc).set (C.length * 3) (.str l[k + y].repo)).set (C.length * 3 + 1) (.str l[k + y].path)).set (C.length * 3 + 1 + 1) (.str l[k + y].text) = (D.set C.length l[k + y]).flatMap kc := flat_set D C.length (by omega) l[k + y]
          simp only [go_sem, hI2, l3, g3, hcI, lc, fs]
          refine ⟨(y + 1, D.set C.length l[k + y]), ⟨by simp only; omega, by simp only; omega, by simp only [List.length_set]; exact hD, ?_, ?_, ?_⟩, by simp only; omega, ?_, rfl, rfl, rfl, rfl⟩
          · simp only
            rw [show k + (y + 1) = k + y + 1 by omega, hct, List.length_append, List.length_singleton]
            have hcl : C.length < (D.set C.length l[k + y]).length := by simp only [List.length_set]; omega
            rw [take_succ hcl, List.getElem_set_self, List.take_set_of_le (Nat.le_refl _), hDt]
          · intro j h h' hj
            simp only at h' hj ⊢
            rw [List.getElem_set_ne (by omega)]
            exact hDd j h (by rw [hD]; exact h) (by omega)
          · simp only
            rw [show k + (y + 1) = k + y + 1 by omega, hct, List.length_append, List.length_singleton]
            omega
          · simp only [go_sem, hw3, hw4]
            rw [show k + (y + 1) = k + y + 1 by omega, hct, List.length_append, List.length_singleton]
        · have heq3 : l[k + y] = l[k + y - 1] := by simpa using h3
          rw [if_pos heq3, List.append_nil] at hct
          simp only [go_sem]
          refine ⟨(y + 1, D), ⟨by simp only; omega, by simp only; omega, hD, ?_, ?_, ?_⟩, by simp only; omega, ?_, rfl, rfl, rfl, rfl⟩
          · simp only
            rw [show k + (y + 1) = k + y + 1 by omega, hct]
            exact hDt
          · intro j h h' hj
            simp only at h' hj ⊢
            exact hDd j h h' (by omega)
          · simp only
            rw [show k + (y + 1) = k + y + 1 by omega, hct]
            omega
          · simp only [go_sem, hw3]
            rw [show k + (y + 1) = k + y + 1 by omega, hct]
      · have hy : y = l.length - k := by simp at hf2; omega
        have hCl : compactK l = C := by
          rw [← hC, show k + y = l.length by omega, List.take_length]
        have hc0 : 0 < C.length := by
          rw [← hCl]
          match l, h2 with
          | a :: r, _ => simp [compactK]
        have b2 : boundV l.length (.int .i64 (C.length : Int)) = some C.length := bnd (by omega)
        have hne2 : (l.length = C.length) = False := eq_false (by omega)
        have hne3 : (C.length = 0) = False := eq_false (by omega)
        have hp : 0 < l.length - C.length := by omega
        have hq : C.length * 3 + (l.length - C.length) * 3 ≤ (D.flatMap kc).length := by rw [kc_flat]; omega
        simp only [go_sem, b2, hne2, hne3, hp, hq, Nat.zero_mul, Nat.sub_zero]
        refine fin _ _ ((setCells (D.flatMap kc) (C.length * 3) (zeroRow [.str [], .str [], .str []] (l.length - C.length))).drop (C.length * 3)) (by rw [hCl]; rfl) ?_ ?_
        · rw [hCl]
          conv => lhs; rw [← List.take_append_drop (C.length * 3) (setCells (D.flatMap kc) (C.length * 3) (zeroRow [.str [], .str [], .str []] (l.length - C.length)))]
          rw [setCells_take, flat_take kc_len, hDt]
        · rw [List.all_eq_true]
          intro v hv
          rcases setCells_mem _ _ _ v hv with h | h
          · exact List.all_eq_true.1 (hall D) v h
          · simp only [zeroRow, List.mem_map, List.mem_range] at h
            obtain ⟨i, _, rfl⟩ := h
            have hm : i % [VV.str [], .str [], .str []].length < 3 := Nat.mod_lt _ (by simp)
            generalize i % [VV.str [], .str [], .str []].length = q at hm
            match q, hm with
            | 0, _ => rfl
            | 1, _ => rfl
            | 2, _ => rfl
    · have hne : ¬ l[k] = l[k - 1] := by simpa using h1
      simp only [go_sem]
      exact ⟨k + 1, ⟨by omega, by omega, by rw [compact_take hlt hk1, if_neg hne, hck, take_succ hlt]⟩, by simp only; omega, by simp only [go_sem, wrap_len hlt (by rw [maxLen_eq]; omega)], rfl, rfl, rfl, rfl⟩
  · have hk : k = l.length := by simp at hf; omega
    subst hk
    rw [List.take_length] at hck
    simp only [go_sem]
    exact fin _ _ [] (by rw [hck]; rfl) (by rw [hck]; simp) (hall l)
end Go.Proofs
