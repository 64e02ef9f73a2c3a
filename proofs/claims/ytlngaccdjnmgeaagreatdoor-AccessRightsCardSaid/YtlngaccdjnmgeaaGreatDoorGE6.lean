/- V, proofs: documents of a policy: Docs, Revoked, short. Conditions: the lists' lengths. -/
import Derived.Test.YtlngaccdjnmgeaaGreatDoorGC2
import Derived.Test.YtlngaccdjnmgeaaGreatDoorGE5
set_option linter.unusedVariables false
set_option linter.unusedSimpArgs false
namespace Go.Proofs
open Go.V Go.RowKit

structure Dc where
  id : Int
  repo : List UInt8
  path : List UInt8
  text : List UInt8
  on : List (List UInt8)
def eDc (d : Dc) : VV := .agg [.int .i64 d.id, .str d.repo, .str d.path, .str d.text, .sl (d.on.map VV.str) 0]
theorem eDc_cells (g : Dc) : (eDc g).cells = [.int .i64 g.id, .str g.repo, .str g.path, .str g.text, .sl (g.on.map VV.str) 0] := byRfl rfl
theorem eDc_strip (g : Dc) : (eDc g).strip = eDc g := byRfl rfl
theorem eDc_canon (g : Dc) : (eDc g).canon = true := byRfl rfl
theorem eDc_noTup (g : Dc) : (eDc g).noTup = true := byRfl rfl
theorem eDc_ids (g : Dc) (n : Nat) : (eDc g).ids n = true := by simp [eDc, VV.ids, idsL]
theorem eDc_argOk (g : Dc) : argOk (eDc g) = true := by simp [eDc, argOk, VV.noHnd, VV.noHnd0, VV.ids, idsL]
theorem eDc_fold (g : Dc) : VV.agg [.int .i64 g.id, .str g.repo, .str g.path, .str g.text, .sl (g.on.map VV.str) 0] = eDc g := byRfl rfl
theorem hd_dc (l : List Dc) : hdSz (l.map eDc) 5 = true := hdSz_map (f := eDc) (n := 5) (fun _ => rfl) l
attribute [go_sem] eDc_cells eDc_strip eDc_canon eDc_noTup eDc_ids hd_dc

def longD (d : Dc) : Bool := decide ((d.path.length : Int) > 200)
def shortS (l : List Dc) : Bool := !l.any longD && decide ((l.length : Int) ≤ 20)
theorem c_short (l : List Dc) (hl : l.length ≤ maxLen) : PureC PR n_L44_short [.sl (l.map eDc) 0] (.bool (shortS l)) := by
  refine pure_of_wp m_L44_short rfl (by simp [argOk_sl]) ?_
  unfold FnW v_L44_short
  simp only [go_sem]
  refine v_for (α := Nat) (base := 0) (marks := []) (pu := true) (good := fun i => i ≤ l.length ∧ (l.take i).any longD = false) (m := fun i => l.length - i)
    (E := fun i => [(0, .sl (l.map eDc) 0), (3, .int .i64 i)]) (O := fun _ => [])
    (by intro i _; simp [go_sem, Obj.idsB]) rfl ?_ 0 _ ⟨by omega, rfl⟩ rfl rfl rfl rfl rfl
  rintro i ⟨hi, hp⟩
  simp only [go_sem]
  refine if_s (fun ht => ?_) (fun hf => ?_)
  · have hlt := len_lt ht
    have gi := get_map eDc hlt
    simp only [go_sem, gi]
    refine if_s (fun h4 => ?_) (fun h4 => ?_) <;> simp only [go_sem]
    · rw [shortS, any_stop hlt (by exact h4)]; rfl
    · exact ⟨i + 1, ⟨by omega, any_step hlt hp (by exact h4)⟩, by simp only; omega, by simp only [go_sem, wrap_len hlt hl], rfl, rfl, rfl, rfl⟩
  · simp only [go_sem]
    rw [shortS, any_end (len_ge hf) hp]; rfl

def okD (l : List Dc) : Prop := l.length ≤ 1000000 ∧ ∀ d ∈ l, d.path.length ≤ 1000000
def canD (p : Pol) (u : Int) (d : Dc) : Bool := canS p u d.repo d.path
def docsS (p : Pol) (u : Int) (l : List Dc) : List Dc := l.filter (canD p u)
def goneD (a b : Pol) (u : Int) (d : Dc) : Bool := canD a u d && !canD b u d
def revokedS (a b : Pol) (u : Int) (l : List Dc) : List Int := (l.filter (goneD a b u)).map Dc.id
theorem filter_take {α : Type} {p : α → Bool} {l : List α} {i : Nat} (h : i < l.length) : (l.take (i + 1)).filter p = (l.take i).filter p ++ (if p l[i] then [l[i]] else []) := by
  rw [take_succ h, List.filter_append]
  cases hp : p l[i] <;> simp [hp]
theorem filter_len {α : Type} {p : α → Bool} {l : List α} {i : Nat} : ((l.take i).filter p).length ≤ i := by
  have h1 := List.length_filter_le p (l.take i)
  rw [List.length_take] at h1
  omega

theorem c_access_Docs (p : Pol) (u : Int) (l : List Dc) (hp : okP p) (hl : okD l) : PureC PR n_access_Docs [ePol p, .int .i64 u, .sl (l.map eDc) 0] (.sl ((docsS p u l).map eDc) 0) := by
  refine pure_of_wp m_access_Docs rfl (by simp [ePol_argOk, argOk_sl, argOk_int]) ?_
  unfold FnW v_access_Docs
  have hlm : l.length ≤ maxLen := by rw [maxLen_eq]; have := hl.1; omega
  have hl1 := hl.1
  simp only [go_sem, ePol]
  refine v_for (α := Nat) (base := 0) (marks := []) (pu := true) (good := fun i => i ≤ l.length) (m := fun i => l.length - i)
    (E := fun i => [(1, .int .i64 u), (3, .ptr 0 0), (7, .sl ((docsS p u (l.take i)).map eDc) 3), (10, .sl (l.map eDc) 0), (11, .int .i64 l.length), (12, .int .i64 i)]) (O := fun i => [.cells (ePol p).cells, .tok (docsS p u (l.take i)).length 5])
    (by intro i _; simp [go_sem, Obj.idsB]) rfl ?_ 0 _ (by omega) rfl rfl rfl rfl rfl
  intro i hi
  simp only [go_sem]
  refine if_s (fun ht => ?_) (fun hf => ?_)
  · have hlt := len_lt ht
    have gi := get_map eDc hlt
    have hs : docsS p u (l.take (i + 1)) = docsS p u (l.take i) ++ (if canD p u l[i] then [l[i]] else []) := filter_take hlt
    have hn : (docsS p u (l.take i)).length ≤ i := filter_len
    generalize docsS p u (l.take i) = o at *
    simp only [go_sem, gi, ePol_fold, eDc_fold]
    refine callW_pure (c_access_Can p u l[i].repo l[i].path hp (hl.2 _ (List.getElem_mem hlt))) (by simp only [go_sem]) (by simp only [go_sem]) ?_
    have hcap : (o.length + 1) * 80 ≤ 35184372088832 := cap_le (by omega) (by decide)
    simp only [go_sem]
    cases hc : canS p u l[i].repo l[i].path with
    | true =>
      have hc' : canD p u l[i] = true := hc
      simp only [go_sem, eDc_fold, hcap]
      exact ⟨i + 1, by omega, by simp only; omega, by simp only [go_sem, wrap_len hlt hlm, hs, hc', List.map_append], by simp only [go_sem, hs, hc', List.length_append], rfl, rfl, rfl⟩
    | false =>
      have hc' : canD p u l[i] = false := hc
      simp only [go_sem]
      exact ⟨i + 1, by omega, by simp only; omega, by simp only [go_sem, wrap_len hlt hlm, hs, hc', List.append_nil], by simp only [go_sem, hs, hc', List.append_nil], rfl, rfl, rfl⟩
  have hie : i = l.length := by have := len_ge hf; omega
  subst hie
  simp only [go_sem, List.take_length]

theorem c_access_Revoked (a b : Pol) (u : Int) (l : List Dc) (ha : okP a) (hb : okP b) (hl : okD l) : PureC PR n_access_Revoked [ePol a, ePol b, .int .i64 u, .sl (l.map eDc) 0] (.sl ((revokedS a b u l).map (VV.int .i64)) 0) := by
  refine pure_of_wp m_access_Revoked rfl (by simp [ePol_argOk, argOk_sl, argOk_int]) ?_
  unfold FnW v_access_Revoked
  have hlm : l.length ≤ maxLen := by rw [maxLen_eq]; have := hl.1; omega
  have hl1 := hl.1
  simp only [go_sem, ePol]
  refine v_for (α := Nat) (base := 0) (marks := []) (pu := true) (good := fun i => i ≤ l.length) (m := fun i => l.length - i)
    (E := fun i => [(2, .int .i64 u), (4, .ptr 0 0), (5, .ptr 1 0), (9, .sl ((revokedS a b u (l.take i)).map (VV.int .i64)) 4), (12, .sl (l.map eDc) 0), (13, .int .i64 l.length), (14, .int .i64 i)]) (O := fun i => [.cells (ePol a).cells, .cells (ePol b).cells, .tok (revokedS a b u (l.take i)).length 1])
    (by intro i _; simp [go_sem, Obj.idsB]) rfl ?_ 0 _ (by omega) rfl rfl rfl rfl rfl
  intro i hi
  simp only [go_sem]
  refine if_s (fun ht => ?_) (fun hf => ?_)
  · have hlt := len_lt ht
    have gi := get_map eDc hlt
    have hs : revokedS a b u (l.take (i + 1)) = revokedS a b u (l.take i) ++ (if goneD a b u l[i] then [l[i].id] else []) := by
      rw [revokedS, filter_take hlt, List.map_append]
      cases goneD a b u l[i] <;> rfl
    have hn : (revokedS a b u (l.take i)).length ≤ i := by rw [revokedS, List.length_map]; exact filter_len
    have hpt := hl.2 _ (List.getElem_mem hlt)
    generalize revokedS a b u (l.take i) = o at *
    simp only [go_sem, gi, ePol_fold, eDc_fold]
    refine callW_pure (c_access_Can a u l[i].repo l[i].path ha hpt) (by simp only [go_sem]) (by simp only [go_sem]) ?_
    have hcap : (o.length + 1) * 8 ≤ 35184372088832 := cap_le (by omega) (by decide)
    simp only [go_sem]
    cases hc : canS a u l[i].repo l[i].path with
    | false =>
      have hc' : goneD a b u l[i] = false := by simp [goneD, canD, hc]
      simp only [go_sem]
      exact ⟨i + 1, by omega, by simp only; omega, by simp only [go_sem, wrap_len hlt hlm, hs, hc', List.append_nil], by simp only [go_sem, hs, hc', List.append_nil], rfl, rfl, rfl⟩
    | true =>
    simp only [go_sem, ePol_fold]
    refine callW_pure (c_access_Can b u l[i].repo l[i].path hb hpt) (by simp only [go_sem]) (by simp only [go_sem]) ?_
    simp only [go_sem]
    cases hd : canS b u l[i].repo l[i].path with
    | true =>
      have hc' : goneD a b u l[i] = false := by simp [goneD, canD, hc, hd]
      simp only [go_sem]
      exact ⟨i + 1, by omega, by simp only; omega, by simp only [go_sem, wrap_len hlt hlm, hs, hc', List.append_nil], by simp only [go_sem, hs, hc', List.append_nil], rfl, rfl, rfl⟩
    | false =>
      have hc' : goneD a b u l[i] = true := by simp [goneD, canD, hc, hd]
      simp only [go_sem, hcap]
      exact ⟨i + 1, by omega, by simp only; omega, by simp only [go_sem, wrap_len hlt hlm, hs, hc', List.map_append], by simp only [go_sem, hs, hc', List.length_append], rfl, rfl, rfl⟩
  have hie : i = l.length := by have := len_ge hf; omega
  subst hie
  simp only [go_sem, List.take_length]
end Go.Proofs
