/- Plain laws: what the map of places holds; the changes the other way. -/
import Derived.Test.YtifahgjmdiandaaGreatDoorSA7
set_option linter.unusedVariables false
set_option linter.unusedSimpArgs false
namespace Go.Proofs
open Go.V Go.RowKit

theorem pfind_pput (p q : Pl) (s : Sd) : ∀ m : List (Pl × Sd), pfind p (pput q s m) = if p = q then some s else pfind p m
  | [] => by simp [pput, pfind]
  | (r, t) :: m => by
    have ih := pfind_pput p q s m
    rw [pput]
    by_cases h : q = r
    · subst h
      rw [if_pos rfl, pfind, pfind]
      by_cases h2 : p = q
      · rw [if_pos h2, if_pos h2]
      · rw [if_neg h2, if_neg h2, if_neg h2]
    · rw [if_neg h, pfind, pfind, ih]
      by_cases h2 : p = r
      · subst h2
        rw [if_pos rfl, if_neg (fun e => h e.symm), if_pos rfl]
      · rw [if_neg h2, if_neg h2]
def onP (p : Pl) (l : List Ky) : Bool := l.any fun k => decide (pl k = p)
def offP (p : Pl) (l b : List Ky) : Bool := l.any fun k => decide (pl k = p) && !decide (k ∈ b)
theorem fold_O (b : List Ky) (p : Pl) : ∀ (l : List Ky) (m : List (Pl × Sd)), pfind p (l.foldl (stepO b) m) = if onP p l = true then some ⟨true, (getS p m).found, (getS p m).differ || offP p l b⟩ else pfind p m
  | [], m => by simp [onP]
  | k :: r, m => by
    rw [List.foldl_cons, fold_O b p r]
    have hg : getS p (stepO b m k) = if p = pl k then ⟨true, (getS p m).found, (getS p m).differ || !decide (k ∈ b)⟩ else getS p m := by
      unfold getS stepO
      rw [pfind_pput]
      by_cases h : p = pl k
      · subst h; simp [getS]
      · rw [if_neg h, if_neg h]
    rw [hg]
    by_cases h : p = pl k
    · subst h
      simp only [onP, offP, List.any_cons, decide_true, Bool.true_or, Bool.true_and, if_true]
      by_cases h2 : (r.any fun q => decide (pl q = pl k)) = true
      · rw [if_pos h2]; simp [Bool.or_assoc]
      · rw [if_neg h2, stepO, pfind_pput, if_pos rfl]
        have h3 : (r.any fun q => decide (pl q = pl k) && !decide (q ∈ b)) = false := by
          rw [List.any_eq_false]
          intro x hx hc
          simp only [Bool.and_eq_true] at hc
          exact h2 (List.any_eq_true.2 ⟨x, hx, hc.1⟩)
        rw [h3]; simp
    · have h' : decide (pl k = p) = false := decide_eq_false fun e => h e.symm
      simp only [onP, offP, List.any_cons, h', Bool.false_or, Bool.false_and, if_neg h]
      rw [stepO, pfind_pput, if_neg h]
theorem fold_F (a : List Ky) (p : Pl) : ∀ (l : List Ky) (m : List (Pl × Sd)), pfind p (l.foldl (stepF a) m) = if onP p l = true then some ⟨(getS p m).old, true, (getS p m).differ || offP p l a⟩ else pfind p m
  | [], m => by simp [onP]
  | k :: r, m => by
    rw [List.foldl_cons, fold_F a p r]
    have hg : getS p (stepF a m k) = if p = pl k then ⟨(getS p m).old, true, (getS p m).differ || !decide (k ∈ a)⟩ else getS p m := by
      unfold getS stepF
      rw [pfind_pput]
      by_cases h : p = pl k
      · subst h; simp [getS]
      · rw [if_neg h, if_neg h]
    rw [hg]
    by_cases h : p = pl k
    · subst h
      simp only [onP, offP, List.any_cons, decide_true, Bool.true_or, Bool.true_and, if_true]
      by_cases h2 : (r.any fun q => decide (pl q = pl k)) = true
      · rw [if_pos h2]; simp [Bool.or_assoc]
      · rw [if_neg h2, stepF, pfind_pput, if_pos rfl]
        have h3 : (r.any fun q => decide (pl q = pl k) && !decide (q ∈ a)) = false := by
          rw [List.any_eq_false]
          intro x hx hc
          simp only [Bool.and_eq_true] at hc
          exact h2 (List.any_eq_true.2 ⟨x, hx, hc.1⟩)
        rw [h3]; simp
    · have h' : decide (pl k = p) = false := decide_eq_false fun e => h e.symm
      simp only [onP, offP, List.any_cons, h', Bool.false_or, Bool.false_and, if_neg h]
      rw [stepF, pfind_pput, if_neg h]
theorem offP_on {p : Pl} {l b : List Ky} (h : onP p l = false) : offP p l b = false := by
  unfold onP at h
  unfold offP
  rw [List.any_eq_false] at h ⊢
  intro x hx hc
  simp only [Bool.and_eq_true] at hc
  exact h x hx hc.1
/-- what the map says of a place -/
theorem sides_at (a b : List Ky) (p : Pl) : pfind p (sidesM a b) = if (onP p a || onP p b) = true then some ⟨onP p a, onP p b, offP p a b || offP p b a⟩ else none := by
  unfold sidesM
  rw [fold_F]
  have h1 := fold_O b p a []
  have h0 : pfind p [] = none := rfl
  have g0 : getS p [] = sd0 := rfl
  rw [h0, g0] at h1
  have hg : getS p (a.foldl (stepO b) []) = if onP p a = true then ⟨true, false, offP p a b⟩ else sd0 := by
    unfold getS
    rw [h1]
    by_cases h : onP p a = true
    · rw [if_pos h, if_pos h]; simp [sd0]
    · rw [if_neg h, if_neg h]; rfl
  rw [hg, h1]
  have qa : onP p a = false → offP p a b = false := offP_on
  have qb : onP p b = false → offP p b a = false := offP_on
  cases ha : onP p a <;> cases hb : onP p b <;> simp_all [sd0]
theorem mem_find {m : List (Pl × Sd)} (h : oneP m) (p : Pl) (s : Sd) : (p, s) ∈ m ↔ pfind p m = some s := by
  induction m with
  | nil => simp [pfind]
  | cons x r ih =>
    obtain ⟨q, t⟩ := x
    have hz := List.nodup_cons.1 (show (q :: r.map (·.1)).Nodup from h)
    rw [pfind]
    by_cases e : p = q
    · subst e
      rw [if_pos rfl]
      constructor
      · intro hm
        rcases List.mem_cons.1 hm with hm | hm
        · injection hm with _ h2; rw [h2]
        · exact absurd (List.mem_map.2 ⟨_, hm, rfl⟩) hz.1
      · intro hs; injection hs with hs; subst hs; simp
    · rw [if_neg e, ← ih hz.2]
      constructor
      · intro hm
        rcases List.mem_cons.1 hm with hm | hm
        · injection hm with h1 _; exact absurd h1 e
        · exact hm
      · exact fun hm => List.mem_cons_of_mem _ hm
/-- an alert: its place, what differs -/
theorem alert_mem {id : Int} (a b : List Ky) (x : Al) : x ∈ (sidesM a b).filterMap (alertS id) ↔
    (onP ⟨x.repo, x.path⟩ a || onP ⟨x.repo, x.path⟩ b) = true ∧ (offP ⟨x.repo, x.path⟩ a b || offP ⟨x.repo, x.path⟩ b a) = true ∧ x.id = id ∧ x.kind = kindS ⟨onP ⟨x.repo, x.path⟩ a, onP ⟨x.repo, x.path⟩ b, true⟩ := by
  rw [List.mem_filterMap]
  constructor
  · rintro ⟨⟨p, s⟩, hm, hx⟩
    rw [mem_find (oneP_sides a b), sides_at] at hm
    unfold alertS at hx
    split at hx
    · rename_i hd
      simp only [Option.some.injEq] at hx
      subst hx
      split at hm
      · rename_i ho
        simp only [Option.some.injEq] at hm
        subst hm
        exact ⟨ho, hd, rfl, rfl⟩
      · cases hm
    · cases hx
  · rintro ⟨h1, h2, h3, h4⟩
    refine ⟨(⟨x.repo, x.path⟩, ⟨onP ⟨x.repo, x.path⟩ a, onP ⟨x.repo, x.path⟩ b, offP ⟨x.repo, x.path⟩ a b || offP ⟨x.repo, x.path⟩ b a⟩), ?_, ?_⟩
    · rw [mem_find (oneP_sides a b), sides_at, if_pos h1]
    · unfold alertS
      rw [if_pos h2]
      cases x
      simp only at h3 h4 ⊢
      subst h3 h4
      simp only [kindS]
theorem changes_mem {id : Int} {old found : List Ky} {x : Al} : x ∈ changesS id old found ↔ x ∈ (sidesM (sortK old) (sortK found)).filterMap (alertS id) :=
  (isort_perm ltA _).mem_iff
theorem changes_sorted (id : Int) (old found : List Ky) : (changesS id old found).Pairwise (fun x y => ltA y x = false) := isort_sorted swoA' _
theorem changes_one {id : Int} {old found : List Ky} {x y : Al} (hx : x ∈ changesS id old found) (hy : y ∈ changesS id old found) (hr : x.repo = y.repo) (hp : x.path = y.path) : x = y :=
  alerts_one (oneP_sides _ _) (changes_mem.1 hx) (changes_mem.1 hy) hr hp
theorem filterMap_nodup {m : List (Pl × Sd)} (id : Int) (h : oneP m) : (m.filterMap (alertS id)).Nodup := by
  induction m with
  | nil => exact .nil
  | cons x r ih =>
    have hz := List.nodup_cons.1 (show (x.1 :: r.map (·.1)).Nodup from h)
    rw [List.filterMap_cons]
    split
    · exact ih hz.2
    · rename_i y hy
      refine List.nodup_cons.2 ⟨fun hm => ?_, ih hz.2⟩
      have h1 : y ∈ (x :: r).filterMap (alertS id) := by rw [List.filterMap_cons, hy]; simp
      rw [List.mem_filterMap] at hm
      obtain ⟨z, hz1, hz2⟩ := hm
      unfold alertS at hy hz2
      split at hy <;> simp only [Option.some.injEq, reduceCtorEq] at hy
      split at hz2 <;> simp only [Option.some.injEq, reduceCtorEq] at hz2
      rw [← hy] at hz2
      simp only [Al.mk.injEq] at hz2
      have : z.1 = x.1 := by
        obtain ⟨⟨r1, p1⟩, s1⟩ := z
        obtain ⟨⟨r2, p2⟩, s2⟩ := x
        simp only at hz2 ⊢
        rw [hz2.2.2.1, hz2.2.2.2]
      exact hz.1 (List.mem_map.2 ⟨z, hz1, this⟩)
theorem changes_nodup (id : Int) (old found : List Ky) : (changesS id old found).Nodup :=
  (isort_perm ltA _).nodup_iff.2 (filterMap_nodup id (oneP_sides _ _))
/-- the other way round -/
def swapA (x : Al) : Al := ⟨x.id, if x.kind = 3 then 3 else 3 - x.kind, x.repo, x.path⟩
theorem swap_mem {id : Int} {a b : List Ky} {x : Al} (h : x ∈ (sidesM a b).filterMap (alertS id)) : swapA x ∈ (sidesM b a).filterMap (alertS id) := by
  rw [alert_mem] at h ⊢
  obtain ⟨h1, h2, h3, h4⟩ := h
  simp only [swapA]
  refine ⟨by rw [Bool.or_comm]; exact h1, by rw [Bool.or_comm]; exact h2, h3, ?_⟩
  rw [h4]
  cases ha : onP ⟨x.repo, x.path⟩ a <;> cases hb : onP ⟨x.repo, x.path⟩ b <;> simp [kindS] <;> simp [ha, hb] at h1
theorem swap_swap {id : Int} {a b : List Ky} {x : Al} (h : x ∈ (sidesM a b).filterMap (alertS id)) : swapA (swapA x) = x := by
  rw [alert_mem] at h
  obtain ⟨h1, h2, h3, h4⟩ := h
  cases x
  simp only [swapA, Al.mk.injEq, true_and, and_true] at *
  rw [h4]
  rename_i r p
  cases ha : onP ⟨r, p⟩ a <;> cases hb : onP ⟨r, p⟩ b <;> simp [kindS]
theorem changes_swap (id : Int) (old found : List Ky) : changesS id found old = (changesS id old found).map swapA := by
  have hinj : ∀ x ∈ changesS id old found, ∀ y ∈ changesS id old found, swapA x = swapA y → x = y := fun x hx y hy e => by
    have h1 : (swapA x).repo = (swapA y).repo := congrArg Al.repo e
    have h2 : (swapA x).path = (swapA y).path := congrArg Al.path e
    exact changes_one hx hy h1 h2
  have hnd : ((changesS id old found).map swapA).Nodup := by
    have := changes_nodup id old found
    generalize changesS id old found = l at *
    induction l with
    | nil => exact .nil
    | cons x r ih =>
      rw [List.nodup_cons] at this
      obtain ⟨hn1, hn2⟩ := this
      rw [List.map_cons, List.nodup_cons]
      refine ⟨fun hm => ?_, ih (fun a ha b hb => hinj a (by simp [ha]) b (by simp [hb])) hn2⟩
      obtain ⟨y, hy, e⟩ := List.mem_map.1 hm
      have hyx := hinj y (by simp [hy]) x (by simp) e
      rw [hyx] at hy
      exact hn1 hy
  refine sorted_one ?_ (changes_sorted id found old) ?_ fun x hx y hy h k => ?_
  · refine (List.perm_ext_iff_of_nodup (changes_nodup id found old) hnd).2 fun x => ?_
    rw [List.mem_map]
    constructor
    · intro hx
      exact ⟨swapA x, changes_mem.2 (swap_mem (changes_mem.1 hx)), swap_swap (changes_mem.1 hx)⟩
    · rintro ⟨y, hy, rfl⟩
      exact changes_mem.2 (swap_mem (changes_mem.1 hy))
  · rw [List.pairwise_map]
    exact (changes_sorted id old found).imp fun {a b} h => h
  · obtain ⟨h1, h2⟩ := ltA_same h k
    exact changes_one hx hy h1 h2
end Go.Proofs
