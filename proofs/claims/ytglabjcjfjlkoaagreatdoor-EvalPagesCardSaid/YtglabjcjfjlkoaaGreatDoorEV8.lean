/- V, proofs: the document's Same on results (chapter 41). Conditions: the lists' lengths. -/
import Derived.Test.YtglabjcjfjlkoaaGreatDoorSO3
set_option linter.unusedVariables false
set_option linter.unusedSimpArgs false
namespace Go.Proofs
open Go.V Go.RowKit

theorem hd_rs (l : List Rs) : hdSz (l.map eRs) 3 = true := by cases l <;> rfl
theorem eRs_cells (r : Rs) : (eRs r).cells = [.int .i64 r.doc, .int .i64 r.sc, .sl (r.sp.map eSp) 0] := byRfl rfl
theorem eRs_strip (g : Rs) : (eRs g).strip = eRs g := byRfl rfl
theorem eRs_canon (g : Rs) : (eRs g).canon = true := byRfl rfl
theorem eRs_noTup (g : Rs) : (eRs g).noTup = true := byRfl rfl
theorem eRs_ids (g : Rs) (n : Nat) : (eRs g).ids n = true := by simp [eRs, rc, VV.ids, idsL]
theorem eRs_box (r : Rs) : VV.agg [.int .i64 r.doc, .int .i64 r.sc, .sl (r.sp.map eSp) 0] = eRs r := byRfl rfl
attribute [go_sem] eRs_cells eRs_strip eRs_canon eRs_noTup eRs_ids hd_rs
theorem lt_t {i n : Nat} (h : i < n) : decide ((i : Int) < (n : Int)) = true := decide_eq_true (by omega)
theorem lt_f {i n : Nat} (h : ¬ i < n) : decide ((i : Int) < (n : Int)) = false := decide_eq_false (by omega)
theorem eq_f {i n : Nat} (h : i < n) : ((i : Int) == (n : Int)) = false := by rw [beq_eq_false_iff_ne]; omega
theorem eq_t {i n : Nat} (h : i = n) : ((i : Int) == (n : Int)) = true := by subst h; simp
theorem Rs.ext' {a b : Rs} (h1 : a.doc = b.doc) (h2 : a.sc = b.sc) (h3 : a.sp = b.sp) : a = b := by
  cases a; cases b; simp only at h1 h2 h3; subst h1; subst h2; subst h3; rfl
instance : DecidableEq Rs := fun a b => decidable_of_iff (a.doc = b.doc ∧ a.sc = b.sc ∧ a.sp = b.sp) ⟨fun h => Rs.ext' h.1 h.2.1 h.2.2, fun h => by subst h; exact ⟨rfl, rfl, rfl⟩⟩
theorem eq_sp (p q : Int × Int) : eqL [.int .i64 p.1, .int .i64 p.2] [.int .i64 q.1, .int .i64 q.2] = some (decide (p = q)) := by
  have h : decide (p = q) = ((p.1 == q.1) && (p.2 == q.2)) := by
    obtain ⟨a, b⟩ := p
    obtain ⟨c, d⟩ := q
    by_cases h1 : a = c <;> by_cases h2 : b = d <;> simp [h1, h2]
  rw [h]
  simp only [eqL, eq0]
  cases (p.1 == q.1) <;> cases (p.2 == q.2) <;> rfl
theorem eSp_cells (p : Int × Int) : (eSp p).cells = [.int .i64 p.1, .int .i64 p.2] := byRfl rfl
theorem ne_t {a b : Int} (h : ¬ a = b) : (a != b) = true := by simpa using h
theorem ne_f {a b : Int} (h : a = b) : (a != b) = false := by simpa using h
theorem take_eq_step {α : Type} {a b : List α} {i : Nat} (ha : i < a.length) (hb : i < b.length) (h : a.take i = b.take i) (e : a[i] = b[i]) : a.take (i + 1) = b.take (i + 1) := by
  rw [take_succ ha, take_succ hb, h, e]
theorem ne_of_at {α : Type} {a b : List α} {i : Nat} (ha : i < a.length) (hb : i < b.length) (e : ¬ a[i] = b[i]) : ¬ a = b := by
  intro h; subst h; exact e rfl
theorem c_RSame (a b : List Rs) (ha : a.length ≤ 1000000) (hsp : ∀ r ∈ a, r.sp.length ≤ maxLen) : PureC PR n_R41_Same [.sl (a.map eRs) 0, .sl (b.map eRs) 0] (.bool (decide (a = b))) := by
  refine pure_of_wp m_R41_Same rfl (by simp [argOk_sl]) ?_
  unfold FnW
  have hv : v_R41_Same.body = v_R41_Same.body := rfl
  conv at hv => rhs; unfold v_R41_Same
  rw [hv]
  clear hv
  have hres : v_R41_Same.results = [(4, none)] := rfl
  have hfr : v_R41_Same.fresh = none := rfl
  simp only [go_sem]
  refine if_s (fun h => ?_) (fun h => ?_)
  · have hne : ¬ a = b := by
      intro e; subst e; simp at h
    simp only [go_sem, hres, hfr, decide_eq_false hne]
  have hlen : a.length = b.length := by simp at h; omega
  simp only [go_sem]
  refine v_for (α := Nat) (base := 0) (marks := []) (pu := true) (good := fun i => i ≤ a.length ∧ a.take i = b.take i) (m := fun i => a.length - i)
    (E := fun i => [(0, .sl (a.map eRs) 0), (1, .sl (b.map eRs) 0), (5, .int .i64 i)]) (O := fun _ => [])
    (by intro i _; simp [go_sem, Obj.idsB]) rfl ?_ 0 _ ⟨Nat.zero_le _, rfl⟩ rfl rfl rfl rfl rfl
  rintro i ⟨hi, hp⟩
  by_cases h1 : i < a.length
  · have h2 : i < b.length := by omega
    have ga := get_map eRs h1
    have gb := get_map eRs h2
    have hspi : a[i].sp.length ≤ maxLen := hsp _ (List.getElem_mem h1)
    have wi : IntKind.i64.wrap ((i : Int) + 1) = ((i + 1 : Nat) : Int) := wrap_succ (by omega)
    by_cases q1 : a[i].doc = b[i].doc
    · by_cases q2 : a[i].sc = b[i].sc
      · by_cases q3 : a[i].sp.length = b[i].sp.length
        · have q3' : ((a[i].sp.length : Int) != (b[i].sp.length : Int)) = false := ne_f (by omega)
          simp only [go_sem, lt_t h1, ga, gb, ne_f q1, ne_f q2, q3', List.length_map]
          refine v_for (α := Nat) (base := 0) (marks := []) (pu := true) (good := fun k => k ≤ a[i].sp.length ∧ a[i].sp.take k = b[i].sp.take k) (m := fun k => a[i].sp.length - k)
            (E := fun k => [(0, .sl (a.map eRs) 0), (1, .sl (b.map eRs) 0), (5, .int .i64 i), (6, .int .i64 k)]) (O := fun _ => [])
            (by intro k _; simp [go_sem, Obj.idsB]) rfl ?_ 0 _ ⟨Nat.zero_le _, rfl⟩ rfl rfl rfl rfl rfl
          rintro k ⟨hk, hpk⟩
          by_cases k1 : k < a[i].sp.length
          · have k2 : k < b[i].sp.length := by omega
            have gk := get_map eSp k1
            have gk2 := get_map eSp k2
            simp only [go_sem, ga, gb, lt_t k1, gk, gk2, eSp_cells, fitsL, eq_sp, List.length_map]
            by_cases q4 : a[i].sp[k] = b[i].sp[k]
            · simp only [go_sem, decide_eq_true q4, Bool.not_true]
              exact ⟨k + 1, ⟨by omega, take_eq_step k1 k2 hpk q4⟩, by simp only; omega, by simp only [go_sem, wrap_len k1 hspi], rfl, rfl, rfl, rfl⟩
            · have hne : ¬ a = b := ne_of_at h1 h2 fun e => q4 (by simp only [e])
              simp only [go_sem, decide_eq_false q4, Bool.not_false, hres, hfr, decide_eq_false hne]
          · have hkl : k = a[i].sp.length := by omega
            have hsp2 : a[i].sp = b[i].sp := by
              have e1 := List.take_of_length_le (show a[i].sp.length ≤ k by omega)
              have e2 := List.take_of_length_le (show b[i].sp.length ≤ k by omega)
              rw [e1, e2] at hpk
              exact hpk
            simp only [go_sem, ga, lt_f k1, List.length_map]
            exact ⟨i + 1, ⟨by omega, take_eq_step h1 h2 hp (Rs.ext' q1 q2 hsp2)⟩, by simp only; omega, by simp only [go_sem, wi], rfl, rfl, rfl, rfl⟩
        · have q3' : ((a[i].sp.length : Int) != (b[i].sp.length : Int)) = true := ne_t (by omega)
          have hne : ¬ a = b := ne_of_at h1 h2 fun e => q3 (by rw [e])
          simp only [go_sem, lt_t h1, ga, gb, ne_f q1, ne_f q2, q3', List.length_map]
          simp only [go_sem, hres, hfr, decide_eq_false hne]
      · have hne : ¬ a = b := ne_of_at h1 h2 fun e => q2 (by rw [e])
        simp only [go_sem, lt_t h1, ga, gb, ne_f q1, ne_t q2, List.length_map]
        simp only [go_sem, hres, hfr, decide_eq_false hne]
    · have hne : ¬ a = b := ne_of_at h1 h2 fun e => q1 (by rw [e])
      simp only [go_sem, lt_t h1, ga, gb, ne_t q1, List.length_map]
      simp only [go_sem, hres, hfr, decide_eq_false hne]
  · have heq : a = b := by
      have e1 := List.take_of_length_le (show a.length ≤ i by omega)
      have e2 := List.take_of_length_le (show b.length ≤ i by omega)
      rw [e1, e2] at hp
      exact hp
    simp only [go_sem, lt_f h1]
    simp only [go_sem, hres, hfr, decide_eq_true heq]
end Go.Proofs
