/- V, proofs: whether a pattern of paths matches. Conditions: the path's length. -/
import Derived.Test.YtlngaccdjnmgeaaGreatDoorGA4
set_option linter.unusedVariables false
set_option linter.unusedSimpArgs false
namespace Go.Proofs
open Go.V Go.RowKit

def starK (x : El) : Bool := x.kind == 1 || x.kind == 2
/-- the value that a star gives to place i -/
def starAt (x : El) (p : List UInt8) (fr nx : List Bool) (i : Nat) : Bool :=
  fr.getD i false || (decide (0 < i) && nx.getD (i - 1) false && (x.kind == 1 || ((p.getD (i - 1) 0).toNat : Int) != 47))
def nstep (x : El) (p : List UInt8) (fr : List Bool) (i : Nat) (nx : List Bool) : List Bool :=
  if starK x then nx.set i (starAt x p fr nx i) else if fr.getD i false && decide (i < p.length) && standsS x (p.getD i 0) then nx.set (i + 1) true else nx
def nrow (x : El) (p : List UInt8) (fr : List Bool) : Nat → List Bool
  | 0 => List.replicate (p.length + 1) false
  | i + 1 => nstep x p fr i (nrow x p fr i)
theorem nstep_len (x : El) (p : List UInt8) (fr : List Bool) (i : Nat) (nx : List Bool) : (nstep x p fr i nx).length = nx.length := by
  unfold nstep; split
  · simp
  · split <;> simp
theorem nrow_len (x : El) (p : List UInt8) (fr : List Bool) : ∀ i, (nrow x p fr i).length = p.length + 1
  | 0 => by simp [nrow]
  | i + 1 => by rw [nrow, nstep_len, nrow_len x p fr i]
def mrow (p : List UInt8) : List El → List Bool → List Bool
  | [], fr => fr
  | x :: r, fr => mrow p r (nrow x p fr (p.length + 1))
def globMatchS (g p : List UInt8) : Bool := match (if globRightS g = 0 then globP g else none) with
  | none => false
  | some l => (mrow p l (true :: List.replicate p.length false)).getD p.length false

theorem ranges_len : ∀ (n : Nat) (s : List UInt8) (acc : List Rg), s.length ≤ n → (rangesS s acc).1.length ≤ acc.length + s.length := by
  intro n
  induction n with
  | zero =>
    intro s acc h
    cases s with
    | nil => simp [rangesS]
    | cons a r => simp at h
  | succ n ih =>
    intro s acc h
    match s, h with
    | [], _ => simp [rangesS]
    | [a], _ => simp [rangesS]
    | [a, b], _ => simp [rangesS]
    | a :: b :: c :: t, h =>
      simp only [rangesS]
      simp only [List.length_cons] at h
      split
      · split
        · simp
        · have := ih t (acc ++ [(a, c)]) (by omega)
          simp only [List.length_append, List.length_cons, List.length_nil] at this ⊢
          omega
      · have := ih (b :: c :: t) (acc ++ [(a, a)]) (by simp only [List.length_cons]; omega)
        simp only [List.length_append, List.length_cons, List.length_nil] at this ⊢
        omega
theorem setS_len (s : List UInt8) : (setS s).1.set.length ≤ s.length := by
  have h : ∀ r : List UInt8, (rangesS r []).1.length ≤ r.length := fun r => by have := ranges_len r.length r [] (Nat.le_refl _); simpa using this
  unfold setS
  split
  · exact Nat.zero_le _
  · rename_i c r
    split
    · exact Nat.le_trans (h r) (by simp only [List.length_cons]; omega)
    · exact h (c :: r)
theorem stepG_len {c : UInt8} {r : List UInt8} {x : El} {rest : List UInt8} (h : stepG (c :: r) c r = some (x, rest)) : rest.length ≤ r.length ∧ x.set.length ≤ r.length := by
  unfold stepG at h
  by_cases h0 : decide ((c.toNat : Int) < 33) = true
  · rw [if_pos h0] at h; cases h
  rw [if_neg h0] at h
  by_cases h1 : decide ((c.toNat : Int) > 126) = true
  · rw [if_pos h1] at h; cases h
  rw [if_neg h1] at h
  by_cases h2 : ((c.toNat : Int) == 93) = true
  · rw [if_pos h2] at h; cases h
  rw [if_neg h2] at h
  by_cases h3 : ([42, 42, 42] : List UInt8).isPrefixOf (c :: r) = true
  · rw [if_pos h3] at h; cases h
  rw [if_neg h3] at h
  by_cases h4 : ([42, 42] : List UInt8).isPrefixOf (c :: r) = true
  · rw [if_pos h4] at h; cases h; exact ⟨by simp, Nat.zero_le _⟩
  rw [if_neg h4] at h
  by_cases h5 : ((c.toNat : Int) == 42) = true
  · rw [if_pos h5] at h; cases h; exact ⟨Nat.le_refl _, Nat.zero_le _⟩
  rw [if_neg h5] at h
  by_cases h6 : ((c.toNat : Int) == 63) = true
  · rw [if_pos h6] at h; cases h; exact ⟨Nat.le_refl _, Nat.zero_le _⟩
  rw [if_neg h6] at h
  by_cases h7 : ((c.toNat : Int) == 91) = true
  · rw [if_pos h7] at h
    by_cases h8 : Lib.indexByte (c :: r) 93 = -1
    · rw [if_pos h8] at h; cases h
    rw [if_neg h8] at h
    generalize (Lib.indexByte (c :: r) 93).toNat = k at h
    by_cases h9 : (setS (((c :: r).take k).drop 1)).2 = false
    · rw [if_pos h9] at h; cases h
    rw [if_neg h9] at h
    by_cases h10 : (((c :: r).take k).drop 1).all printS = false
    · rw [if_pos h10] at h; cases h
    rw [if_neg h10] at h
    cases h
    exact ⟨by simp, Nat.le_trans (setS_len _) (by simp; omega)⟩
  · rw [if_neg h7] at h; cases h; exact ⟨Nat.le_refl _, Nat.zero_le _⟩
theorem parseA_ok {m : Nat} : ∀ (n : Nat) (g : List UInt8) (acc l : List El), g.length ≤ m → (∀ x ∈ acc, x.set.length ≤ m) → parseA n g acc = some l → l.length ≤ acc.length + n ∧ ∀ x ∈ l, x.set.length ≤ m
  | 0, g, acc, l, _, _, h => by simp [parseA] at h
  | n + 1, [], acc, l, _, ha, h => by rw [parseA_nil] at h; cases h; exact ⟨by omega, ha⟩
  | n + 1, c :: r, acc, l, hg, ha, h => by
    cases hs : stepG (c :: r) c r with
    | none => rw [parseA_none hs] at h; cases h
    | some p =>
      obtain ⟨x, rest⟩ := p
      rw [parseA_some hs] at h
      obtain ⟨h1, h2⟩ := stepG_len hs
      simp only [List.length_cons] at hg
      have := parseA_ok (m := m) n rest (acc ++ [x]) l (by omega) (by
        intro y hy
        rcases List.mem_append.1 hy with hy | hy
        · exact ha y hy
        · simp at hy; subst hy; omega) h
      simp only [List.length_append, List.length_cons, List.length_nil] at this
      exact ⟨by omega, this.2⟩
theorem globP_ok {g : List UInt8} {l : List El} (hg : g.length ≤ 60) (h : globP g = some l) : l.length ≤ 61 ∧ ∀ x ∈ l, x.set.length ≤ 60 := by
  have := parseA_ok (m := 60) _ g [] l hg (by simp) h
  simp only [List.length_nil] at this
  exact ⟨by omega, this.2⟩

theorem setB {l : List Bool} {i : Nat} {v : Bool} : (l.map VV.bool).set i (.bool v) = (l.set i v).map VV.bool := by rw [List.map_set]

theorem c_glob_Match (g p : List UInt8) (hp : p.length ≤ 1000000) : PureC PR n_glob_Match [.str g, .str p] (.bool (globMatchS g p)) := by
  refine pure_of_wp m_glob_Match rfl (by simp [argOk_str]) ?_
  unfold FnW v_glob_Match
  simp only [go_sem]
  refine callW_pure (c_glob_Right g) rfl rfl ?_
  simp only [go_sem]
  refine if_s (fun h => ?_) (fun h => ?_) <;> simp only [go_sem]
  · have : ¬ globRightS g = 0 := by simpa using h
    simp [globMatchS, this]
  have h0 : globRightS g = 0 := by simpa using h
  have hgl : g.length ≤ 60 := by
    unfold globRightS at h0
    split at h0
    · cases h0
    · rename_i q
      have : ¬ ((g.length : Int) > 60) := by simpa using q
      omega
  obtain ⟨l, hl⟩ : ∃ l, globP g = some l := by
    unfold globRightS at h0
    split at h0
    · cases h0
    · split at h0
      · cases h0
      · rename_i q
        cases hq : globP g with
        | none => rw [hq] at q; simp at q
        | some l => exact ⟨l, rfl⟩
  have hr : globMatchS g p = (mrow p l (true :: List.replicate p.length false)).getD p.length false := by simp only [globMatchS, h0, if_true, hl]
  obtain ⟨hll0, hset0⟩ := globP_ok hgl hl
  have hll : l.length ≤ 1000000 := by omega
  have hset : ∀ x ∈ l, x.set.length ≤ maxLen := fun x hx => Nat.le_trans (hset0 x hx) (by decide)
  rw [hr]
  have hq : PureC PR n_glob_parse [.str g] (parseV (some l)) := by rw [← hl]; exact c_glob_parse g (by omega)
  refine callW_pure hq rfl rfl ?_
  have hw : IntKind.i64.wrap ((p.length : Int) + 1) = ((p.length + 1 : Nat) : Int) := wrap_succ (by omega)
  have hm : (0 : Int) ≤ ((p.length + 1 : Nat) : Int) ∧ ((p.length + 1 : Nat) : Int) * ((1 : Nat) : Int) ≤ 281474976710656 := by omega
  have hm1 : (0 : Int) ≤ ((p.length + 1 : Nat) : Int) := by omega
  have hm2 : ((p.length + 1 : Nat) : Int) * 1 ≤ 281474976710656 := by omega
  have hm3 : (0 : Int) < ((p.length + 1 : Nat) : Int) := by omega
  simp only [go_sem, parseV, hw, hm1, hm2, hm3, and_self]
  have hfr0 : (VV.bool true :: List.replicate p.length (VV.bool false)) = (true :: List.replicate p.length false).map VV.bool := by simp
  have hlen0 : (true :: List.replicate p.length false).length = p.length + 1 := by simp
  rw [hfr0]
  generalize (true :: List.replicate p.length false) = fr0 at *
  refine frz_all (cs := fr0.map VV.bool) rfl (by simp [hlen0]) (by simp [VV.canon, VV.canon0]) ?_
  simp only [go_sem]
  refine v_for (α := Nat × List Bool) (base := 0) (marks := []) (pu := true) (good := fun x => x.1 ≤ l.length ∧ x.2.length = p.length + 1 ∧ mrow p (l.drop x.1) x.2 = mrow p l fr0) (m := fun x => l.length - x.1)
    (E := fun x => [(1, .str p), (7, .sl (x.2.map VV.bool) 0), (27, .sl (l.map eEl) 0), (28, .int .i64 l.length), (29, .int .i64 x.1)]) (O := fun _ => [.gone])
    (by intro i _; simp [go_sem, Obj.idsB]) rfl ?_ (0, fr0) _ ⟨by omega, hlen0, rfl⟩ rfl rfl rfl rfl rfl
  rintro ⟨i, fr⟩ ⟨hi, hfr, hmr⟩
  simp only at hi hfr hmr
  simp only [go_sem]
  refine if_s (fun ht => ?_) (fun hf => ?_)
  · have hlt := len_lt ht
    have gx := get_map eEl hlt
    have hx : l[i].set.length ≤ maxLen := hset _ (List.getElem_mem hlt)
    have hdrop := cons_of_get hlt
    simp only [go_sem, gx, eEl_fold', hw, hm1, hm2, hm3, and_self]
    generalize l[i] = x at *
    refine v_for (α := Nat) (base := 0) (marks := []) (pu := true) (good := fun j => j ≤ p.length + 1) (m := fun j => p.length + 1 - j)
      (E := fun j => [(1, .str p), (9, .ptr 1 0), (10, .row 2 0 (p.length + 1)), (27, .sl (l.map eEl) 0), (28, .int .i64 l.length), (29, .int .i64 i), (37, .sl (fr.map VV.bool) 0), (38, .int .i64 (p.length + 1 : Nat)), (39, .int .i64 j)])
      (O := fun j => [.gone, .cells (eEl x).cells, .cells ((nrow x p fr j).map VV.bool)])
      (by intro i _; simp [go_sem, Obj.idsB]) rfl ?_ 0 _ (by omega) (by simp [go_sem, hfr]) (by simp [go_sem, nrow]) rfl rfl rfl
    intro j hj
    simp only [go_sem]
    refine if_s (fun ht => ?_) (fun hf => ?_)
    · have hjt := len_lt ht
      have gfr := get_bool (l := fr) (i := j) (by omega)
      have hjb : (0 : Int) ≤ (j : Int) := by omega
      have hjn : (j : Int) < ((p.length + 1 : Nat) : Int) := by omega
      have hw2 : IntKind.i64.wrap ((j : Int) + 1) = ((j + 1 : Nat) : Int) := wrap_succ (by omega)
      have hnl := nrow_len x p fr j
      have hjl : j + 1 ≤ (nrow x p fr j).length := by omega
      have hns : nrow x p fr (j + 1) = nstep x p fr j (nrow x p fr j) := rfl
      simp only [go_sem, gfr]
      generalize nrow x p fr j = nx at *
      have hst : starK x = true → nrow x p fr (j + 1) = nx.set j (starAt x p fr nx j) := fun h => by rw [hns, nstep, if_pos h]
      cases hk1 : (x.kind == 1) with
      | true =>
        have hsk : starK x = true := by simp only [starK, hk1, Bool.true_or]
        simp only [go_sem, hk1]
        cases hb : fr.getD j false with
        | true =>
          have hv : starAt x p fr nx j = true := by simp only [starAt, hb, Bool.true_or]
          simp only [go_sem, hjb, hjn, hjl]
          exact ⟨j + 1, by omega, by simp only; omega, by simp only [go_sem, hw2], by simp only [go_sem, setB, hst hsk, hv], rfl, rfl, rfl⟩
        | false =>
          cases j with
          | zero =>
            have hv : starAt x p fr nx 0 = false := by simp only [starAt, hb]; rfl
            have h1l : 1 ≤ nx.length := by omega
            simp only [go_sem, hm3, h1l]
            exact ⟨1, by omega, by simp only; omega, by simp only [go_sem, hw2], by simp only [go_sem, setB, hst hsk, hv], rfl, rfl, rfl⟩
          | succ m =>
            have gn := get_bool (l := nx) (i := m) (by omega)
            have hm0 : (0 : Int) ≤ (m : Int) := by omega
            have hmn : (m : Int) < ((p.length + 1 : Nat) : Int) := by omega
            have hwm : IntKind.i64.wrap (((m + 1 : Nat) : Int) - 1) = (m : Int) := wrap_pred (by omega)
            cases hn : nx.getD m false with
            | false =>
              have hv : starAt x p fr nx (m + 1) = false := by simp only [starAt, hb, Nat.add_sub_cancel, hn]; simp
              rw [hn] at gn
              simp only [go_sem, hwm, hm0, hmn, gn, hjb, hjn, hjl]
              exact ⟨m + 1 + 1, by omega, by simp only; omega, by simp only [go_sem, hw2], by simp only [go_sem, setB, hst hsk, hv], rfl, rfl, rfl⟩
            | true =>
              rw [hn] at gn
              simp only [go_sem, hwm, hm0, hmn, gn, hjb, hjn, hjl]
              have hv : starAt x p fr nx (m + 1) = true := by simp only [starAt, hb, Nat.add_sub_cancel, hn, hk1]; simp
              simp only [go_sem, hk1, hjb, hjn, hjl]
              exact ⟨m + 1 + 1, by omega, by simp only; omega, by simp only [go_sem, hw2], by simp only [go_sem, setB, hst hsk, hv], rfl, rfl, rfl⟩
      | false =>
        cases hk2 : (x.kind == 2) with
        | true =>
          have hsk : starK x = true := by simp only [starK, hk1, hk2]; rfl
          simp only [go_sem, hk1, hk2]
          cases hb : fr.getD j false with
          | true =>
            have hv : starAt x p fr nx j = true := by simp only [starAt, hb, Bool.true_or]
            simp only [go_sem, hjb, hjn, hjl]
            exact ⟨j + 1, by omega, by simp only; omega, by simp only [go_sem, hw2], by simp only [go_sem, setB, hst hsk, hv], rfl, rfl, rfl⟩
          | false =>
            cases j with
            | zero =>
              have hv : starAt x p fr nx 0 = false := by simp only [starAt, hb]; rfl
              have h1l : 1 ≤ nx.length := by omega
              simp only [go_sem, hm3, h1l]
              exact ⟨1, by omega, by simp only; omega, by simp only [go_sem, hw2], by simp only [go_sem, setB, hst hsk, hv], rfl, rfl, rfl⟩
            | succ m =>
              have gn := get_bool (l := nx) (i := m) (by omega)
              have hm0 : (0 : Int) ≤ (m : Int) := by omega
              have hmn : (m : Int) < ((p.length + 1 : Nat) : Int) := by omega
              have hwm : IntKind.i64.wrap (((m + 1 : Nat) : Int) - 1) = (m : Int) := wrap_pred (by omega)
              cases hn : nx.getD m false with
              | false =>
                have hv : starAt x p fr nx (m + 1) = false := by simp only [starAt, hb, Nat.add_sub_cancel, hn]; simp
                rw [hn] at gn
                simp only [go_sem, hwm, hm0, hmn, gn, hjb, hjn, hjl]
                exact ⟨m + 1 + 1, by omega, by simp only; omega, by simp only [go_sem, hw2], by simp only [go_sem, setB, hst hsk, hv], rfl, rfl, rfl⟩
              | true =>
                rw [hn] at gn
                simp only [go_sem, hwm, hm0, hmn, gn, hjb, hjn, hjl]
                have gp := get_byte (s := p) (i := m) (by omega)
                have hv : starAt x p fr nx (m + 1) = (((p.getD m 0).toNat : Int) != 47) := by simp only [starAt, hb, Nat.add_sub_cancel, hn, hk1]; simp
                simp only [go_sem, hk1, hwm, hm0, gp, byteInt, hjb, hjn, hjl]
                exact ⟨m + 1 + 1, by omega, by simp only; omega, by simp only [go_sem, hw2], by simp only [go_sem, setB, hst hsk, hv], rfl, rfl, rfl⟩
        | false =>
          have hsk : starK x = false := by simp only [starK, hk1, hk2]; rfl
          have hnst : ∀ b, (fr.getD j false && decide (j < p.length) && standsS x (p.getD j 0)) = b → nrow x p fr (j + 1) = if b then nx.set (j + 1) true else nx := fun b h => by
            rw [hns, nstep, hsk, h]; rfl
          simp only [go_sem, hk1, hk2]
          cases hb : fr.getD j false with
          | false =>
            have e := hnst false (by rw [hb]; rfl)
            simp only [go_sem, hb]
            exact ⟨j + 1, by omega, by simp only; omega, by simp only [go_sem, hw2], by simp only [go_sem, e], rfl, rfl, rfl⟩
          | true =>
            simp only [go_sem, hb]
            cases hjp : decide ((j : Int) < (p.length : Int)) with
            | false =>
              have hjp' : decide (j < p.length) = false := by simp at hjp ⊢; omega
              have e := hnst false (by rw [hb, hjp']; rfl)
              simp only [go_sem, hjp]
              exact ⟨j + 1, by omega, by simp only; omega, by simp only [go_sem, hw2], by simp only [go_sem, e], rfl, rfl, rfl⟩
            | true =>
              have hjp' : decide (j < p.length) = true := by simp at hjp ⊢; omega
              have hjl2 : j < p.length := by simpa using hjp'
              have gp := get_byte (s := p) (i := j) hjl2
              simp only [go_sem, hjp, gp, byteInt, eEl_fold']
              refine callD_pure (c_glob_element_stands x (p.getD j 0) hx) (by simp [go_sem, byteInt]) (by simp [go_sem, byteInt]) ?_
              simp only [go_sem]
              refine if_s (fun hs => ?_) (fun hs => ?_)
              · have e := hnst true (by rw [hb, hjp', hs]; rfl)
                have hj1 : ((j + 1 : Nat) : Int) < ((p.length + 1 : Nat) : Int) := by omega
                have hj0 : (0 : Int) ≤ ((j + 1 : Nat) : Int) := by omega
                have hjl3 : j + 1 + 1 ≤ nx.length := by omega
                simp only [go_sem, hw2, hj0, hj1, hjl3]
                exact ⟨j + 1, by omega, by simp only; omega, by simp only [go_sem, hw2], by simp only [go_sem, setB, e], rfl, rfl, rfl⟩
              · have e := hnst false (by rw [hb, hjp', hs]; rfl)
                simp only [go_sem]
                exact ⟨j + 1, by omega, by simp only; omega, by simp only [go_sem, hw2], by simp only [go_sem, e], rfl, rfl, rfl⟩
    · have hje : j = p.length + 1 := by have := len_ge hf; omega
      subst hje
      simp only [go_sem]
      refine frz_all (cs := (nrow x p fr (p.length + 1)).map VV.bool) rfl (by simp [nrow_len]) (by simp [VV.canon, VV.canon0]) ?_
      have hwi : IntKind.i64.wrap ((i : Int) + 1) = ((i + 1 : Nat) : Int) := wrap_succ (by omega)
      simp only [go_sem, hwi]
      exact ⟨(i + 1, nrow x p fr (p.length + 1)), ⟨by omega, nrow_len x p fr _, by rw [← hmr, hdrop]; rfl⟩, by simp only; omega, by simp [go_sem], by simp [go_sem]⟩
  · have hie : i = l.length := by have := len_ge hf; omega
    subst hie
    have gp : (fr.map VV.bool)[p.length]? = some (.bool (fr.getD p.length false)) := by simp [hfr, List.getD_eq_getElem?_getD]
    simp only [go_sem, gp]
    rw [← hmr]
    simp [mrow]
end Go.Proofs
