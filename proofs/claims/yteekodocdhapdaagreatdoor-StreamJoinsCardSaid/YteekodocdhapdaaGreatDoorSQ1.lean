/- V, proofs: answers as values; near, Account and the document's, the document's Same on answers. Conditions: the lists' lengths. -/
import Derived.Test.YteekodocdhapdaaGreatDoorSP0
set_option linter.unusedVariables false
set_option linter.unusedSimpArgs false
namespace Go.Proofs
open Go.V Go.RowKit

structure Pg where
  sh : Int
  dn : Int
  lf : Int
  cs : Int
structure An where
  rs : List Rs
  ps : List Pg
  c : Bool
instance : Inhabited Pg := ⟨⟨0, 0, 0, 0⟩⟩
def ePg (p : Pg) : VV := .agg [.int .i64 p.sh, .int .i64 p.dn, .int .i64 p.lf, .int .i64 p.cs]
def eAn (a : An) : VV := .agg [.sl (a.rs.map eRs) 0, .sl (a.ps.map ePg) 0, .bool a.c]
theorem ePg_cells (p : Pg) : (ePg p).cells = [.int .i64 p.sh, .int .i64 p.dn, .int .i64 p.lf, .int .i64 p.cs] := byRfl rfl
theorem ePg_strip (g : Pg) : (ePg g).strip = ePg g := byRfl rfl
theorem ePg_canon (g : Pg) : (ePg g).canon = true := byRfl rfl
theorem ePg_noTup (g : Pg) : (ePg g).noTup = true := byRfl rfl
theorem ePg_ids (g : Pg) (n : Nat) : (ePg g).ids n = true := by simp [ePg, VV.ids, idsL]
theorem ePg_box (p : Pg) : VV.agg [.int .i64 p.sh, .int .i64 p.dn, .int .i64 p.lf, .int .i64 p.cs] = ePg p := byRfl rfl
theorem hd_pg (l : List Pg) : hdSz (l.map ePg) 4 = true := hd_maps' (f := ePg) (n := 4) (fun _ => rfl) l
attribute [go_sem] ePg_cells ePg_strip ePg_canon ePg_noTup ePg_ids hd_pg
theorem Pg.ext' {a b : Pg} (h1 : a.sh = b.sh) (h2 : a.dn = b.dn) (h3 : a.lf = b.lf) (h4 : a.cs = b.cs) : a = b := by
  cases a; cases b; simp only at h1 h2 h3 h4; subst h1; subst h2; subst h3; subst h4; rfl
instance : DecidableEq Pg := fun a b => decidable_of_iff (a.sh = b.sh ∧ a.dn = b.dn ∧ a.lf = b.lf ∧ a.cs = b.cs) ⟨fun h => Pg.ext' h.1 h.2.1 h.2.2.1 h.2.2.2, fun h => by subst h; exact ⟨rfl, rfl, rfl, rfl⟩⟩
theorem eq_pg (p q : Pg) : eqL [.int .i64 p.sh, .int .i64 p.dn, .int .i64 p.lf, .int .i64 p.cs] [.int .i64 q.sh, .int .i64 q.dn, .int .i64 q.lf, .int .i64 q.cs] = some (decide (p = q)) := by
  have h : decide (p = q) = ((p.sh == q.sh) && ((p.dn == q.dn) && ((p.lf == q.lf) && (p.cs == q.cs)))) := by
    obtain ⟨a, b, c, d⟩ := p
    obtain ⟨e, f, g, h⟩ := q
    by_cases h1 : a = e <;> by_cases h2 : b = f <;> by_cases h3 : c = g <;> by_cases h4 : d = h <;> simp [h1, h2, h3, h4]
  rw [h]
  simp only [eqL, eq0]
  cases (p.sh == q.sh) <;> cases (p.dn == q.dn) <;> cases (p.lf == q.lf) <;> cases (p.cs == q.cs) <;> rfl
def big : Int := 1099511627776
def nearP (p : Pg) : Bool := !(decide (p.dn < -big) || decide (p.dn > big) || decide (p.lf < -big) || decide (p.lf > big))
def nearS (a : An) : Bool := decide (a.rs.length ≤ 40) && decide (a.ps.length ≤ 40) && a.ps.all nearP
theorem all_at {α : Type} {p : α → Bool} {l : List α} {i : Nat} (h : i < l.length) : (l.drop i).all p = (p l[i] && (l.drop (i + 1)).all p) := by
  rw [cons_of_get h]; rfl
theorem c_near (a : An) : PureC PR n_L42_near [eAn a] (.bool (nearS a)) := by
  by_cases h1 : a.rs.length ≤ 40
  · have d1 : decide ((a.rs.length : Int) > 40) = false := decide_eq_false (by omega)
    by_cases h2 : a.ps.length ≤ 40
    · have d2 : decide ((a.ps.length : Int) > 40) = false := decide_eq_false (by omega)
      have hF : nearS a = a.ps.all nearP := by unfold nearS; rw [decide_eq_true h1, decide_eq_true h2]; rfl
      rw [hF]
      refine pure_of_wp m_L42_near rfl (by simp [argOk, eAn, VV.noHnd, VV.noHnd0, VV.ids, idsL]) ?_
      unfold FnW
      have hv : v_L42_near.body = v_L42_near.body := rfl
      conv at hv => rhs; unfold v_L42_near
      rw [hv]
      clear hv
      have hres : v_L42_near.results = [(2, none)] := rfl
      have hfr : v_L42_near.fresh = none := rfl
      generalize hR : a.ps.all nearP = R
      simp only [go_sem, eAn, d1, d2]
      refine v_for (α := Nat) (base := 0) (marks := []) (pu := true) (good := fun i => i ≤ a.ps.length ∧ (a.ps.drop i).all nearP = R) (m := fun i => a.ps.length - i)
        (E := fun i => [(1, .ptr 0 0), (3, .int .i64 (i : Nat))]) (O := fun _ => [.cells [.sl (a.rs.map eRs) 0, .sl (a.ps.map ePg) 0, .bool a.c]])
        (by intro i _; simp [go_sem, Obj.idsB]) rfl ?_ 0 _ ⟨Nat.zero_le _, hR⟩ rfl rfl rfl rfl rfl
      rintro i ⟨hi, hr⟩
      by_cases h : i < a.ps.length
      · have ga := get_map ePg h
        have wi : IntKind.i64.wrap ((i : Int) + 1) = ((i + 1 : Nat) : Int) := wrap_succ (by omega)
        rw [all_at h] at hr
        have hN : nearP a.ps[i] = !(decide (a.ps[i].dn < -1099511627776) || decide (a.ps[i].dn > 1099511627776) || decide (a.ps[i].lf < -1099511627776) || decide (a.ps[i].lf > 1099511627776)) := rfl
        cases e1 : decide (a.ps[i].dn < -1099511627776) with
        | true =>
          have hN' : nearP a.ps[i] = false := by rw [hN, e1]; rfl
          rw [hN', Bool.false_and] at hr
          subst hr
          simp only [go_sem, lt_t h, ga, e1, hres, hfr]
        | false =>
        cases e2 : decide (a.ps[i].dn > 1099511627776) with
        | true =>
          have hN' : nearP a.ps[i] = false := by rw [hN, e1, e2]; rfl
          rw [hN', Bool.false_and] at hr
          subst hr
          simp only [go_sem, lt_t h, ga, e1, e2, hres, hfr]
        | false =>
        cases e3 : decide (a.ps[i].lf < -1099511627776) with
        | true =>
          have hN' : nearP a.ps[i] = false := by rw [hN, e1, e2, e3]; rfl
          rw [hN', Bool.false_and] at hr
          subst hr
          simp only [go_sem, lt_t h, ga, e1, e2, e3, hres, hfr]
        | false =>
        cases e4 : decide (a.ps[i].lf > 1099511627776) with
        | true =>
          have hN' : nearP a.ps[i] = false := by rw [hN, e1, e2, e3, e4]; rfl
          rw [hN', Bool.false_and] at hr
          subst hr
          simp only [go_sem, lt_t h, ga, e1, e2, e3, e4, hres, hfr]
        | false =>
          have hN' : nearP a.ps[i] = true := by rw [hN, e1, e2, e3, e4]; rfl
          rw [hN', Bool.true_and] at hr
          simp only [go_sem, lt_t h, ga, e1, e2, e3, e4]
          exact ⟨i + 1, ⟨by omega, hr⟩, by simp only; omega, by simp only [go_sem, wi], rfl, rfl, rfl, rfl⟩
      · have hd : a.ps.drop i = [] := List.drop_eq_nil_of_le (by omega)
        rw [hd] at hr
        subst hr
        simp only [go_sem, lt_f h]
        simp only [go_sem, hres, hfr, List.all_nil]
    · have d2 : decide ((a.ps.length : Int) > 40) = true := decide_eq_true (by omega)
      have hF : nearS a = false := by unfold nearS; rw [decide_eq_true h1, decide_eq_false h2]; rfl
      rw [hF]
      refine pure_of_wp m_L42_near rfl (by simp [argOk, eAn, VV.noHnd, VV.noHnd0, VV.ids, idsL]) ?_
      unfold FnW v_L42_near
      simp only [go_sem, eAn, d1, d2]
  · have d1 : decide ((a.rs.length : Int) > 40) = true := decide_eq_true (by omega)
    have hF : nearS a = false := by unfold nearS; rw [decide_eq_false h1]; rfl
    rw [hF]
    refine pure_of_wp m_L42_near rfl (by simp [argOk, eAn, VV.noHnd, VV.noHnd0, VV.ids, idsL]) ?_
    unfold FnW v_L42_near
    simp only [go_sem, eAn, d1]

/-! ### what was examined and is left, and the greatest cost -/
def accS (l : List Pg) (s : Int × Int × Int) : Int × Int × Int := l.foldl (fun s p => (IntKind.i64.wrap (s.1 + p.dn), IntKind.i64.wrap (s.2.1 + p.lf), if s.2.2 ≥ p.cs then s.2.2 else p.cs)) s
theorem accS_at {l : List Pg} {s : Int × Int × Int} {i : Nat} (h : i < l.length) : accS (l.take (i + 1)) s = (IntKind.i64.wrap ((accS (l.take i) s).1 + l[i].dn), IntKind.i64.wrap ((accS (l.take i) s).2.1 + l[i].lf), if (accS (l.take i) s).2.2 ≥ l[i].cs then (accS (l.take i) s).2.2 else l[i].cs) := by
  unfold accS
  rw [take_succ h, List.foldl_append]
  rfl
def accV (s : Int × Int × Int) : VV := .tup [.int .i64 s.1, .int .i64 s.2.1, .int .i64 s.2.2]
theorem c_Account (a : An) (ha : a.ps.length ≤ 1000000) : PureC PR n_stream_Account [eAn a] (accV (accS a.ps (0, 0, 0))) := by
  refine pure_of_wp m_stream_Account rfl (by simp [argOk, eAn, VV.noHnd, VV.noHnd0, VV.ids, idsL]) ?_
  unfold FnW
  have hv : v_stream_Account.body = v_stream_Account.body := rfl
  conv at hv => rhs; unfold v_stream_Account
  rw [hv]
  clear hv
  have hres : v_stream_Account.results = [(2, none), (3, none), (4, none)] := rfl
  have hfr : v_stream_Account.fresh = none := rfl
  simp only [go_sem, eAn]
  refine v_for (α := Nat) (base := 0) (marks := []) (pu := true) (good := fun i => i ≤ a.ps.length) (m := fun i => a.ps.length - i)
    (E := fun i => [(5, .int .i64 (accS (a.ps.take i) (0, 0, 0)).1), (6, .int .i64 (accS (a.ps.take i) (0, 0, 0)).2.1), (7, .int .i64 (accS (a.ps.take i) (0, 0, 0)).2.2), (11, .sl (a.ps.map ePg) 0), (12, .int .i64 a.ps.length), (13, .int .i64 (i : Nat))]) (O := fun _ => [.cells [.sl (a.rs.map eRs) 0, .sl (a.ps.map ePg) 0, .bool a.c]])
    (by intro i _; simp [go_sem, Obj.idsB]) rfl ?_ 0 _ (Nat.zero_le _) rfl rfl rfl rfl rfl
  intro i hi
  by_cases h : i < a.ps.length
  · have ga := get_map ePg h
    have wi : IntKind.i64.wrap ((i : Int) + 1) = ((i + 1 : Nat) : Int) := wrap_succ (by omega)
    simp only [go_sem, lt_t h, ga]
    exact ⟨i + 1, by omega, by simp only; omega, by simp only [go_sem, wi, accS_at h], rfl, rfl, rfl, rfl⟩
  · have ht : a.ps.take i = a.ps := List.take_of_length_le (by omega)
    simp only [go_sem, lt_f h, ht]
    simp only [go_sem, hres, hfr, accV]
theorem mx_eq (x y : Int) : (if x ≥ y then x else y) = if y > x then y else x := by
  split <;> split <;> omega
theorem c_R42_Account (a : An) (ha : a.ps.length ≤ 1000000) : PureC PR n_R42_Account [eAn a] (accV (accS a.ps (0, 0, 0))) := by
  refine pure_of_wp m_R42_Account rfl (by simp [argOk, eAn, VV.noHnd, VV.noHnd0, VV.ids, idsL]) ?_
  unfold FnW
  have hv : v_R42_Account.body = v_R42_Account.body := rfl
  conv at hv => rhs; unfold v_R42_Account
  rw [hv]
  clear hv
  have hres : v_R42_Account.results = [(2, none), (3, none), (4, none)] := rfl
  have hfr : v_R42_Account.fresh = none := rfl
  simp only [go_sem, eAn]
  refine v_for (α := Nat) (base := 0) (marks := []) (pu := true) (good := fun i => i ≤ a.ps.length) (m := fun i => a.ps.length - i)
    (E := fun i => [(1, .ptr 0 0), (5, .int .i64 (accS (a.ps.take i) (0, 0, 0)).1), (6, .int .i64 (accS (a.ps.take i) (0, 0, 0)).2.1), (7, .int .i64 (accS (a.ps.take i) (0, 0, 0)).2.2), (8, .int .i64 (i : Nat))]) (O := fun _ => [.cells [.sl (a.rs.map eRs) 0, .sl (a.ps.map ePg) 0, .bool a.c]])
    (by intro i _; simp [go_sem, Obj.idsB]) rfl ?_ 0 _ (Nat.zero_le _) rfl rfl rfl rfl rfl
  intro i hi
  by_cases h : i < a.ps.length
  · have ga := get_map ePg h
    have wi : IntKind.i64.wrap ((i : Int) + 1) = ((i + 1 : Nat) : Int) := wrap_succ (by omega)
    by_cases hc : a.ps[i].cs > (accS (a.ps.take i) (0, 0, 0)).2.2
    · have dc : decide (a.ps[i].cs > (accS (a.ps.take i) (0, 0, 0)).2.2) = true := decide_eq_true hc
      simp only [go_sem, lt_t h, ga, dc]
      exact ⟨i + 1, by omega, by simp only; omega, by simp only [go_sem, wi, accS_at h, mx_eq, if_pos hc], rfl, rfl, rfl, rfl⟩
    · have dc : decide (a.ps[i].cs > (accS (a.ps.take i) (0, 0, 0)).2.2) = false := decide_eq_false hc
      simp only [go_sem, lt_t h, ga, dc]
      exact ⟨i + 1, by omega, by simp only; omega, by simp only [go_sem, wi, accS_at h, mx_eq, if_neg hc], rfl, rfl, rfl, rfl⟩
  · have ht : a.ps.take i = a.ps := List.take_of_length_le (by omega)
    simp only [go_sem, lt_f h, ht]
    simp only [go_sem, hres, hfr, accV]

/-! ### equal answers -/
theorem c_R01_Spans (p : List (Int × Int)) (hp : p.length ≤ maxLen) : PureC PR n_R01_Spans [.sl (p.map eSp) 0, .sl (p.map eSp) 0] (.bool true) := by
  refine pure_of_wp m_R01_Spans rfl (by simp [argOk_sl]) ?_
  unfold FnW
  have hv : v_R01_Spans.body = v_R01_Spans.body := rfl
  conv at hv => rhs; unfold v_R01_Spans
  rw [hv]
  clear hv
  have hres : v_R01_Spans.results = [(4, none)] := rfl
  have hfr : v_R01_Spans.fresh = none := rfl
  simp only [go_sem, bne_self_eq_false]
  refine v_for (α := Nat) (base := 0) (marks := []) (pu := true) (good := fun k => k ≤ p.length) (m := fun k => p.length - k)
    (E := fun k => [(0, .sl (p.map eSp) 0), (1, .sl (p.map eSp) 0), (5, .int .i64 (k : Nat))]) (O := fun _ => [])
    (by intro k _; simp [go_sem, Obj.idsB]) rfl ?_ 0 _ (Nat.zero_le _) rfl rfl rfl rfl rfl
  intro k hk
  by_cases h : k < p.length
  · have gk := get_map eSp h
    have q : decide (p[k] = p[k]) = true := decide_eq_true rfl
    simp only [go_sem, lt_t h, gk, eSp_cells, fitsL, eq_sp, q, Bool.not_true]
    exact ⟨k + 1, by omega, by simp only; omega, by simp only [go_sem, wrap_len h hp], rfl, rfl, rfl, rfl⟩
  · simp only [go_sem, lt_f h]
    simp only [go_sem, hres, hfr]
theorem c_SameResults (a : List Rs) (ha : a.length ≤ 1000000) (hs : ∀ r ∈ a, r.sp.length ≤ maxLen) : PureC PR n_R42_SameResults [.sl (a.map eRs) 0, .sl (a.map eRs) 0] (.bool true) := by
  refine pure_of_wp m_R42_SameResults rfl (by simp [argOk_sl]) ?_
  unfold FnW
  have hv : v_R42_SameResults.body = v_R42_SameResults.body := rfl
  conv at hv => rhs; unfold v_R42_SameResults
  rw [hv]
  clear hv
  have hres : v_R42_SameResults.results = [(4, none)] := rfl
  have hfr : v_R42_SameResults.fresh = none := rfl
  simp only [go_sem, bne_self_eq_false]
  refine v_for (α := Nat) (base := 0) (marks := []) (pu := true) (good := fun k => k ≤ a.length) (m := fun k => a.length - k)
    (E := fun k => [(0, .sl (a.map eRs) 0), (1, .sl (a.map eRs) 0), (5, .int .i64 (k : Nat))]) (O := fun _ => [])
    (by intro k _; simp [go_sem, Obj.idsB]) rfl ?_ 0 _ (Nat.zero_le _) rfl rfl rfl rfl rfl
  intro k hk
  by_cases h : k < a.length
  · have gk := get_map eRs h
    have wi : IntKind.i64.wrap ((k : Int) + 1) = ((k + 1 : Nat) : Int) := wrap_succ (by omega)
    have q := c_R01_Spans a[k].sp (hs _ (List.getElem_mem h))
    simp only [go_sem, lt_t h, gk, bne_self_eq_false]
    refine callD_pure q (by simp only [go_sem]) (by simp only [go_sem]) ?_
    simp only [go_sem, Bool.not_true]
    exact ⟨k + 1, by omega, by simp only; omega, by simp only [go_sem, wi], rfl, rfl, rfl, rfl⟩
  · simp only [go_sem, lt_f h]
    simp only [go_sem, hres, hfr]
theorem c_SameA (a : An) (hr : a.rs.length ≤ 1000000) (hp : a.ps.length ≤ 1000000) (hs : ∀ r ∈ a.rs, r.sp.length ≤ maxLen) : PureC PR n_R42_Same [eAn a, eAn a] (.bool true) := by
  refine pure_of_wp m_R42_Same rfl (by simp [argOk, eAn, VV.noHnd, VV.noHnd0, VV.ids, idsL]) ?_
  unfold FnW
  have hv : v_R42_Same.body = v_R42_Same.body := rfl
  conv at hv => rhs; unfold v_R42_Same
  rw [hv]
  clear hv
  have hres : v_R42_Same.results = [(4, none)] := rfl
  have hfr : v_R42_Same.fresh = none := rfl
  simp only [go_sem, eAn, bne_self_eq_false, beq_self_eq_true, Bool.not_true]
  refine callW_pure (c_SameResults a.rs hr hs) (by simp only [go_sem]) (by simp only [go_sem]) ?_
  simp only [go_sem, Bool.not_true]
  refine v_for (α := Nat) (base := 0) (marks := []) (pu := true) (good := fun k => k ≤ a.ps.length) (m := fun k => a.ps.length - k)
    (E := fun k => [(2, .ptr 0 0), (3, .ptr 1 0), (5, .int .i64 (k : Nat))]) (O := fun _ => [.cells [.sl (a.rs.map eRs) 0, .sl (a.ps.map ePg) 0, .bool a.c], .cells [.sl (a.rs.map eRs) 0, .sl (a.ps.map ePg) 0, .bool a.c]])
    (by intro k _; simp [go_sem, Obj.idsB]) rfl ?_ 0 _ (Nat.zero_le _) rfl rfl rfl rfl rfl
  intro k hk
  by_cases h : k < a.ps.length
  · have gk := get_map ePg h
    have wi : IntKind.i64.wrap ((k : Int) + 1) = ((k + 1 : Nat) : Int) := wrap_succ (by omega)
    have q : decide (a.ps[k] = a.ps[k]) = true := decide_eq_true rfl
    simp only [go_sem, lt_t h, gk, fitsL, eq_pg, q, Bool.not_true]
    exact ⟨k + 1, by omega, by simp only; omega, by simp only [go_sem, wi], rfl, rfl, rfl, rfl⟩
  · simp only [go_sem, lt_f h]
    simp only [go_sem, hres, hfr]
end Go.Proofs
