/- V, proofs: saved.Changes. Conditions: the lists' lengths. -/
import Derived.Test.YtifahgjmdiandaaGreatDoorSA6
set_option linter.unusedVariables false
set_option linter.unusedSimpArgs false
namespace Go.Proofs
open Go.V Go.RowKit

structure Pl where
  repo : List UInt8
  path : List UInt8
instance : DecidableEq Pl := fun a b => decidable_of_iff (a.repo = b.repo ∧ a.path = b.path) (by cases a; cases b; simp)
structure Sd where
  old : Bool
  found : Bool
  differ : Bool
def sd0 : Sd := ⟨false, false, false⟩
def pl (k : Ky) : Pl := ⟨k.repo, k.path⟩
def ePl (p : Pl) : VV := .agg [.str p.repo, .str p.path]
def eSd (s : Sd) : VV := .agg [.bool s.old, .bool s.found, .bool s.differ]
theorem ePl_cells (p : Pl) : (ePl p).cells = [.str p.repo, .str p.path] := byRfl rfl
theorem eSd_cells (s : Sd) : (eSd s).cells = [.bool s.old, .bool s.found, .bool s.differ] := byRfl rfl
theorem ePl_strip (p : Pl) : (ePl p).strip = ePl p := byRfl rfl
theorem eSd_strip (p : Sd) : (eSd p).strip = eSd p := byRfl rfl
theorem ePl_noTup (p : Pl) : (ePl p).noTup = true := byRfl rfl
theorem eSd_noTup (p : Sd) : (eSd p).noTup = true := byRfl rfl
theorem ePl_ids (p : Pl) (n : Nat) : (ePl p).ids n = true := by simp [ePl, VV.ids, idsL]
theorem eSd_ids (p : Sd) (n : Nat) : (eSd p).ids n = true := by simp [eSd, VV.ids, idsL]
attribute [go_sem] ePl_cells eSd_cells ePl_strip eSd_strip ePl_noTup eSd_noTup ePl_ids eSd_ids

/-! ### the map -/
def Mp := List (Pl × Sd)
def eM (m : List (Pl × Sd)) : List (VV × VV) := m.map fun x => (ePl x.1, eSd x.2)
def pfind (p : Pl) : List (Pl × Sd) → Option Sd
  | [] => none
  | (q, s) :: r => if p = q then some s else pfind p r
def pput (p : Pl) (s : Sd) : List (Pl × Sd) → List (Pl × Sd)
  | [] => [(p, s)]
  | (q, t) :: r => if p = q then (p, s) :: r else (q, t) :: pput p s r
theorem eq_pl (p q : Pl) : eqV (ePl p) (ePl q) = some (decide (p = q)) := by
  have h : decide (p = q) = ((p.repo == q.repo) && (p.path == q.path)) := by
    cases p; cases q
    simp only [Pl.mk.injEq, Bool.decide_and, decb]
  rw [h]
  simp only [ePl, eqV, eqL, eq0]
  cases (p.repo == q.repo) <;> cases (p.path == q.path) <;> rfl
theorem mfind_M (p : Pl) : ∀ m : List (Pl × Sd), mfind (ePl p) (eM m) = some ((pfind p m).map eSd)
  | [] => rfl
  | (q, s) :: r => by
    have ih := mfind_M p r
    simp only [eM, List.map_cons, mfind, eq_pl] at ih ⊢
    by_cases h : p = q
    · simp only [h, decide_true, pfind, if_true]; rfl
    · simp only [decide_eq_false h, pfind, if_neg h]; exact ih
theorem mput_M (p : Pl) (s : Sd) : ∀ m : List (Pl × Sd), mput (ePl p) (eSd s) (eM m) = some (eM (pput p s m))
  | [] => rfl
  | (q, t) :: r => by
    have ih := mput_M p s r
    simp only [eM, List.map_cons, mput, eq_pl] at ih ⊢
    by_cases h : p = q
    · subst h; simp only [decide_true, pput, if_true]; rfl
    · simp only [decide_eq_false h, pput, if_neg h, ih, Option.map_some]; rfl
def getS (p : Pl) (m : List (Pl × Sd)) : Sd := (pfind p m).getD sd0
theorem getS_M (p : Pl) (m : List (Pl × Sd)) : ((pfind p m).map eSd).getD (.agg [.bool false, .bool false, .bool false]) = eSd (getS p m) := by
  unfold getS
  cases pfind p m <;> rfl
theorem find_M (a b : List UInt8) (m : List (Pl × Sd)) : mfind (.agg [.str a, .str b]) (eM m) = some ((pfind ⟨a, b⟩ m).map eSd) := mfind_M ⟨a, b⟩ m
theorem put_M (a b : List UInt8) (x y z : Bool) (m : List (Pl × Sd)) : mput (.agg [.str a, .str b]) (.agg [.bool x, .bool y, .bool z]) (eM m) = some (eM (pput ⟨a, b⟩ ⟨x, y, z⟩ m)) := mput_M ⟨a, b⟩ ⟨x, y, z⟩ m
def stepO (b : List Ky) (m : List (Pl × Sd)) (k : Ky) : List (Pl × Sd) := pput (pl k) ⟨true, (getS (pl k) m).found, (getS (pl k) m).differ || !decide (k ∈ b)⟩ m
def stepF (a : List Ky) (m : List (Pl × Sd)) (k : Ky) : List (Pl × Sd) := pput (pl k) ⟨(getS (pl k) m).old, true, (getS (pl k) m).differ || !decide (k ∈ a)⟩ m
def sidesM (a b : List Ky) : List (Pl × Sd) := b.foldl (stepF a) (a.foldl (stepO b) [])
theorem foldl_take {α β : Type} {f : β → α → β} {x : β} {l : List α} {i : Nat} (h : i < l.length) : (l.take (i + 1)).foldl f x = f ((l.take i).foldl f x) l[i] := by
  rw [take_succ h, List.foldl_append]; rfl
def kindS (s : Sd) : Int := if s.old = false then 1 else if s.found = false then 2 else 3
def alertS (id : Int) (x : Pl × Sd) : Option Al := if x.2.differ = true then some ⟨id, kindS x.2, x.1.repo, x.1.path⟩ else none
def changesS (id : Int) (old found : List Ky) : List Al := isort ltA ((sidesM (sortK old) (sortK found)).filterMap (alertS id))

/-! ### places each once -/
theorem pput_keys (p : Pl) (s : Sd) : ∀ m : List (Pl × Sd), (pput p s m).map (·.1) = if p ∈ m.map (·.1) then m.map (·.1) else m.map (·.1) ++ [p]
  | [] => by simp [pput]
  | (q, t) :: r => by
    have ih := pput_keys p s r
    rw [pput]
    by_cases h : p = q
    · subst h; simp
    · rw [if_neg h, List.map_cons, ih]
      by_cases h2 : p ∈ r.map (·.1)
      · rw [if_pos h2, if_pos (by simp only [List.map_cons, List.mem_cons]; exact .inr h2)]; rfl
      · rw [if_neg h2, if_neg (by simp only [List.map_cons, List.mem_cons, not_or]; exact ⟨h, h2⟩)]; rfl
def oneP (m : List (Pl × Sd)) : Prop := (m.map (·.1)).Nodup
theorem oneP_put {m : List (Pl × Sd)} (h : oneP m) (p : Pl) (s : Sd) : oneP (pput p s m) := by
  unfold oneP at *
  rw [pput_keys]
  split
  · exact h
  · rename_i hn
    rw [List.nodup_append]
    exact ⟨h, by simp, fun a ha b hb => by simp at hb; subst hb; rintro rfl; exact hn ha⟩
theorem oneP_fold {f : List (Pl × Sd) → Ky → List (Pl × Sd)} (hf : ∀ m k, oneP m → oneP (f m k)) : ∀ (l : List Ky) (m : List (Pl × Sd)), oneP m → oneP (l.foldl f m)
  | [], _, h => h
  | k :: r, m, h => oneP_fold hf r _ (hf m k h)
theorem oneP_sides (a b : List Ky) : oneP (sidesM a b) :=
  oneP_fold (fun m k h => oneP_put h _ _) b _ (oneP_fold (fun m k h => oneP_put h _ _) a _ (by simp [oneP]))
theorem pput_len (p : Pl) (s : Sd) : ∀ m : List (Pl × Sd), (pput p s m).length ≤ m.length + 1
  | [] => by simp [pput]
  | (q, t) :: r => by
    have := pput_len p s r
    rw [pput]
    split
    · simp
    · simp; omega
theorem fold_len {f : List (Pl × Sd) → Ky → List (Pl × Sd)} (hf : ∀ m k, (f m k).length ≤ m.length + 1) : ∀ (l : List Ky) (m : List (Pl × Sd)), (l.foldl f m).length ≤ m.length + l.length
  | [], m => by simp
  | k :: r, m => by
    have h1 := fold_len hf r (f m k)
    have h2 := hf m k
    simp only [List.foldl_cons, List.length_cons]; omega
theorem sides_len (a b : List Ky) : (sidesM a b).length ≤ a.length + b.length := by
  have h1 := fold_len (f := stepO b) (fun m k => pput_len _ _ m) a []
  have h2 := fold_len (f := stepF a) (fun m k => pput_len _ _ m) b (a.foldl (stepO b) [])
  unfold sidesM
  simp at h1
  omega
/-- two alerts of one place are one -/
theorem alerts_one {id : Int} {m : List (Pl × Sd)} (h : oneP m) {x y : Al} (hx : x ∈ m.filterMap (alertS id)) (hy : y ∈ m.filterMap (alertS id)) (hr : x.repo = y.repo) (hp : x.path = y.path) : x = y := by
  rw [List.mem_filterMap] at hx hy
  obtain ⟨⟨p, s⟩, h1, h2⟩ := hx
  obtain ⟨⟨q, t⟩, h3, h4⟩ := hy
  unfold alertS at h2 h4
  split at h2 <;> simp only [Option.some.injEq, reduceCtorEq] at h2
  split at h4 <;> simp only [Option.some.injEq, reduceCtorEq] at h4
  subst h2 h4
  have e : p = q := by cases p; cases q; simp only at hr hp; subst hr hp; rfl
  subst e
  have : s = t := by
    clear hr hp
    induction m with
    | nil => cases h1
    | cons z r ih =>
      have hz := List.nodup_cons.1 (show (z.1 :: r.map (·.1)).Nodup from h)
      rcases List.mem_cons.1 h1 with e1 | e1 <;> rcases List.mem_cons.1 h3 with e3 | e3
      · rw [← e1] at e3; injection e3 with _ h5; exact h5.symm
      · rw [← e1] at hz; exact (hz.1 (List.mem_map.2 ⟨(p, t), e3, rfl⟩)).elim
      · rw [← e3] at hz; exact (hz.1 (List.mem_map.2 ⟨(p, s), e1, rfl⟩)).elim
      · exact ih hz.2 e1 e3
  subst this; rfl
theorem swoA' : Go.Sort.SWO ltA := swo_of (f := fA) (n := 2) fun _ => rfl
theorem ltA_same {x y : Al} (h : ltA x y = false) (k : ltA y x = false) : x.repo = y.repo ∧ x.path = y.path := by
  have : fA x = fA y := by
    apply Classical.byContradiction
    intro hn
    have := ltL_tri (a := fA x) (b := fA y) rfl h hn
    rw [ltA] at k
    rw [this] at k; cases k
  simp only [fA, List.cons.injEq, and_true] at this
  exact this
theorem sorted_al {id : Int} {m : List (Pl × Sd)} (ho : oneP m) {l' : List Al} (h : l'.Perm (m.filterMap (alertS id))) (hs : l'.Pairwise (fun x y => ltA y x = false)) : l' = isort ltA (m.filterMap (alertS id)) := by
  refine sorted_one (h.trans (isort_perm ltA _).symm) hs (isort_sorted swoA' _) fun x hx y hy a b => ?_
  obtain ⟨h1, h2⟩ := ltA_same a b
  exact alerts_one ho (h.subset hx) (h.subset hy) h1 h2
end Go.Proofs
