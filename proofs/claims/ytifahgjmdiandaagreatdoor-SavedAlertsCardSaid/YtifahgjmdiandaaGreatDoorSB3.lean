/- V, proofs: the document's Changes is the program's. Conditions: the lists' lengths. -/
import Derived.Test.YtifahgjmdiandaaGreatDoorSB2
set_option linter.unusedVariables false
set_option linter.unusedSimpArgs false
namespace Go.Proofs
open Go.V Go.RowKit

def kp (k : Ky) : Ky := ⟨k.repo, k.path, []⟩
def bothS (old found : List Ky) : List Ky := old.map kp ++ found.map kp
def kindR (old found : List Ky) (k : Ky) : Int := if onP (pl k) old = true then (if onP (pl k) found = true then 3 else 2) else 1
def alR (id : Int) (old found : List Ky) (k : Ky) : Option Al := if (offP (pl k) old found || offP (pl k) found old) = true then some ⟨id, kindR old found k, k.repo, k.path⟩ else none
def changesR (id : Int) (old found : List Ky) : List Al := (sortK (bothS old found)).filterMap (alR id old found)

/-! ### the same list -/
theorem onP_sort (p : Pl) (l : List Ky) : onP p (sortK l) = onP p l := by
  unfold onP
  rw [Bool.eq_iff_iff, List.any_eq_true, List.any_eq_true]
  constructor
  · rintro ⟨x, h1, h2⟩; exact ⟨x, (sortK_mem l).1 h1, h2⟩
  · rintro ⟨x, h1, h2⟩; exact ⟨x, (sortK_mem l).2 h1, h2⟩
theorem offP_sort (p : Pl) (l b : List Ky) : offP p (sortK l) (sortK b) = offP p l b := by
  unfold offP
  have e : ∀ x : Ky, decide (x ∈ sortK b) = decide (x ∈ b) := fun x => by rw [decide_eq_decide]; exact sortK_mem b
  rw [Bool.eq_iff_iff, List.any_eq_true, List.any_eq_true]
  constructor
  · rintro ⟨x, h1, h2⟩; exact ⟨x, (sortK_mem l).1 h1, by rw [← e]; exact h2⟩
  · rintro ⟨x, h1, h2⟩; exact ⟨x, (sortK_mem l).2 h1, by rw [e]; exact h2⟩
theorem both_text {old found : List Ky} {k : Ky} (h : k ∈ bothS old found) : k.text = [] := by
  rcases List.mem_append.1 h with h | h
  all_goals
    obtain ⟨z, _, rfl⟩ := List.mem_map.1 h
    rfl
theorem both_on {old found : List Ky} {r p : List UInt8} : (⟨r, p, []⟩ : Ky) ∈ bothS old found ↔ (onP ⟨r, p⟩ old || onP ⟨r, p⟩ found) = true := by
  have one : ∀ l : List Ky, (⟨r, p, []⟩ : Ky) ∈ l.map kp ↔ onP ⟨r, p⟩ l = true := fun l => by
    rw [List.mem_map, onP, List.any_eq_true]
    constructor
    · rintro ⟨z, hz, e⟩
      refine ⟨z, hz, decide_eq_true ?_⟩
      simp only [kp, Ky.mk.injEq] at e
      simp [pl, e]
    · rintro ⟨z, hz, e⟩
      have e := of_decide_eq_true e
      simp only [pl, Pl.mk.injEq] at e
      exact ⟨z, hz, by simp [kp, e]⟩
  rw [bothS, List.mem_append, one, one, Bool.or_eq_true]
theorem kindR_eq (old found : List Ky) (k : Ky) : kindR old found k = kindS ⟨onP (pl k) old, onP (pl k) found, true⟩ := by
  unfold kindR kindS
  cases onP (pl k) old <;> cases onP (pl k) found <;> rfl
theorem ltK_pl {a b : Ky} (ha : a.text = []) (hb : b.text = []) {x y : Al} (h1 : x.repo = a.repo) (h2 : x.path = a.path) (h3 : y.repo = b.repo) (h4 : y.path = b.path) : ltA x y = ltK a b := by
  simp [ltA, ltK, fA, fK, ltL, ha, hb, h1, h2, h3, h4, strLess]
theorem changesR_strict (id : Int) (old found : List Ky) : (changesR id old found).Pairwise (fun x y => ltA x y = true) := by
  unfold changesR
  rw [List.pairwise_filterMap]
  have hs : (sortK (bothS old found)).Pairwise (fun a b => ltK a b = true ∧ a.text = [] ∧ b.text = []) := by
    have ht : ∀ k ∈ sortK (bothS old found), k.text = [] := fun k hk => both_text ((sortK_mem _).1 hk)
    have := sortK_strict (bothS old found)
    generalize sortK (bothS old found) = l at *
    induction l with
    | nil => exact .nil
    | cons a r ih =>
      obtain ⟨p1, p2⟩ := List.pairwise_cons.1 this
      exact List.pairwise_cons.2 ⟨fun b hb => ⟨p1 b hb, ht a (by simp), ht b (by simp [hb])⟩, ih (fun k hk => ht k (by simp [hk])) p2⟩
  refine hs.imp ?_
  rintro a b ⟨h, ta, tb⟩ x hx y hy
  unfold alR at hx hy
  split at hx <;> simp only [Option.some.injEq, reduceCtorEq] at hx
  split at hy <;> simp only [Option.some.injEq, reduceCtorEq] at hy
  subst hx hy
  rw [ltK_pl (a := a) (b := b) ta tb rfl rfl rfl rfl]
  exact h
theorem ltA_irrefl (x : Al) : ltA x x = false := ltL_irrefl _
theorem changesR_mem {id : Int} {old found : List Ky} {x : Al} : x ∈ changesR id old found ↔ x ∈ changesS id old found := by
  rw [changes_mem, alert_mem, onP_sort, onP_sort, offP_sort, offP_sort, changesR, List.mem_filterMap]
  constructor
  · rintro ⟨k, hk, hx⟩
    rw [sortK_mem] at hk
    have ht := both_text hk
    obtain ⟨kr, kpp, kt⟩ := k
    simp only at ht
    subst ht
    rw [both_on] at hk
    unfold alR at hx
    split at hx <;> simp only [Option.some.injEq, reduceCtorEq] at hx
    rename_i hd
    subst hx
    exact ⟨hk, hd, rfl, kindR_eq _ _ _⟩
  · rintro ⟨h1, h2, h3, h4⟩
    refine ⟨⟨x.repo, x.path, []⟩, (sortK_mem _).2 (both_on.2 h1), ?_⟩
    unfold alR
    rw [if_pos (show (offP (pl ⟨x.repo, x.path, []⟩) old found || offP (pl ⟨x.repo, x.path, []⟩) found old) = true from h2), kindR_eq]
    obtain ⟨xi, xk, xr, xp⟩ := x
    simp only at h3 h4
    subst h3 h4
    rfl
theorem changesR_eq (id : Int) (old found : List Ky) : changesR id old found = changesS id old found := by
  have hR := changesR_strict id old found
  have hn : (changesR id old found).Nodup := by
    refine List.Pairwise.imp (fun {a b} h => ?_) hR
    rintro rfl
    rw [ltA_irrefl] at h
    cases h
  refine sorted_one ((List.perm_ext_iff_of_nodup hn (changes_nodup id old found)).2 fun x => changesR_mem) ?_ (changes_sorted id old found) fun x hx y hy h k => ?_
  · refine List.Pairwise.imp (fun {a b} h => ?_) hR
    exact ltL_asym h
  · obtain ⟨h1, h2⟩ := ltA_same h k
    exact changes_one (changesR_mem.1 hx) (changesR_mem.1 hy) h1 h2
theorem bothS_len (old found : List Ky) : (bothS old found).length = old.length + found.length := by simp [bothS]
theorem fm_succ {α β : Type} {f : α → Option β} {l : List α} {i : Nat} (h : i < l.length) : (l.take (i + 1)).filterMap f = (l.take i).filterMap f ++ (f l[i]).toList := by
  rw [take_succ h, List.filterMap_append]
  simp only [List.filterMap_cons, List.filterMap_nil]
  cases f l[i] <;> rfl

def kpl (l : List Ky) : List Ky := l.map kp
theorem kpl_len (l : List Ky) : (kpl l).length = l.length := List.length_map _
theorem kpl_both (old found : List Ky) : bothS old found = kpl old ++ kpl found := rfl
set_option maxRecDepth 100000 in
theorem c_RChanges (id : Int) (old found : List Ky) (ho : old.length ≤ 10000) (hf : found.length ≤ 10000) :
    PureC PR n_R48_Changes [.int .i64 id, .sl (old.map eKy) 0, .sl (found.map eKy) 0] (.sl ((changesS id old found).map eAl) 0) := by
  rw [← changesR_eq]
  refine pure_of_wp m_R48_Changes rfl (by simp [argOk_sl, argOk_int]) ?_
  unfold FnW v_R48_Changes
  have hom : old.length ≤ maxLen := by rw [maxLen_eq]; omega
  have hfm : found.length ≤ maxLen := by rw [maxLen_eq]; omega
  simp only [go_sem]
  refine v_for (α := Nat) (base := 0) (marks := []) (pu := true) (good := fun i => i ≤ old.length) (m := fun i => old.length - i)
    (E := fun i => [(0, .int .i64 id), (1, .sl (old.map eKy) 0), (2, .sl (found.map eKy) 0), (7, .sl ((kpl (old.take i)).map eKy) 2), (8, .int .i64 i)]) (O := fun i => [.tok (kpl (old.take i)).length 3])
    (by intro i _; simp [go_sem, Obj.idsB]) rfl ?_ 0 _ (by omega) rfl rfl rfl rfl rfl
  intro i hi
  simp only [go_sem]
  refine if_s (fun ht => ?_) (fun hff => ?_)
  · have hlt := len_lt ht
    have gi := get_map eKy hlt
    have hst : kpl (old.take (i + 1)) = kpl (old.take i) ++ [kp old[i]] := by rw [take_succ hlt, kpl, List.map_append]; rfl
    have hln : (kpl (old.take i)).length ≤ i := by rw [kpl_len, List.length_take]; omega
    generalize kpl (old.take i) = o at *
    have c1 : (o.length + 1) * 48 ≤ 35184372088832 := cap_le (by omega) (by decide)
    simp only [go_sem, gi, c1, VV.canon, VV.canon0]
    exact ⟨i + 1, by omega, by simp only; omega, by simp only [go_sem, wrap_len hlt hom, hst, List.map_append]; rfl, by simp only [go_sem, hst, List.length_append], rfl, rfl, rfl⟩
  have hil : i = old.length := by have := len_ge hff; omega
  subst hil
  simp only [go_sem, List.take_length]
  refine v_for (α := Nat) (base := 0) (marks := []) (pu := true) (good := fun i => i ≤ found.length) (m := fun i => found.length - i)
    (E := fun i => [(0, .int .i64 id), (1, .sl (old.map eKy) 0), (2, .sl (found.map eKy) 0), (7, .sl ((bothS old (found.take i)).map eKy) 2), (9, .int .i64 i)]) (O := fun i => [.tok (bothS old (found.take i)).length 3])
    (by intro i _; simp [go_sem, Obj.idsB]) rfl ?_ 0 _ (by omega) (by simp only [go_sem, bothS, kpl, List.take_zero, List.map_nil, List.append_nil]) (by simp only [go_sem, bothS, kpl, List.take_zero, List.map_nil, List.append_nil]) rfl rfl rfl
  intro i hi2
  simp only [go_sem]
  refine if_s (fun ht => ?_) (fun hff => ?_)
  · have hlt := len_lt ht
    have gi := get_map eKy hlt
    have hst : bothS old (found.take (i + 1)) = bothS old (found.take i) ++ [kp found[i]] := by rw [take_succ hlt, bothS, List.map_append, ← List.append_assoc]; rfl
    have hln : (bothS old (found.take i)).length ≤ old.length + found.length := by rw [bothS_len, List.length_take]; omega
    generalize bothS old (found.take i) = o at *
    have c1 : (o.length + 1) * 48 ≤ 35184372088832 := cap_le (by omega) (by decide)
    simp only [go_sem, gi, c1, VV.canon, VV.canon0]
    exact ⟨i + 1, by omega, by simp only; omega, by simp only [go_sem, wrap_len hlt hfm, hst, List.map_append]; rfl, by simp only [go_sem, hst, List.length_append], rfl, rfl, rfl⟩
  have hil : i = found.length := by have := len_ge hff; omega
  subst hil
  simp only [go_sem, List.take_length]
  have hbl := bothS_len old found
  refine callW_pure (c_RSort (bothS old found) (by omega)) (by simp only [go_sem]) (by simp only [go_sem]) ?_
  have hsl := sortK_len (bothS old found)
  unfold changesR
  generalize sortK (bothS old found) = ps at *
  have hpm : ps.length ≤ maxLen := by rw [maxLen_eq]; omega
  simp only [go_sem]
  refine v_for (α := Nat) (base := 0) (marks := []) (pu := true) (good := fun i => i ≤ ps.length) (m := fun i => ps.length - i)
    (E := fun i => [(0, .int .i64 id), (1, .sl (old.map eKy) 0), (2, .sl (found.map eKy) 0), (10, .sl (ps.map eKy) 0), (11, .sl (((ps.take i).filterMap (alR id old found)).map eAl) 3), (12, .int .i64 i)])
    (O := fun i => [.tok (bothS old found).length 3, .tok ((ps.take i).filterMap (alR id old found)).length 4])
    (by intro i _; simp [go_sem, Obj.idsB]) rfl ?_ 0 _ (by omega) rfl rfl rfl rfl rfl
  intro i hi3
  simp only [go_sem]
  refine if_s (fun ht => ?_) (fun hff => ?_)
  · have hlt := len_lt ht
    have gi := get_map eKy hlt
    have hst := fm_succ (f := alR id old found) hlt
    have hln : ((ps.take i).filterMap (alR id old found)).length ≤ i := by
      have := List.length_filterMap_le (alR id old found) (ps.take i)
      rw [List.length_take] at this
      omega
    generalize (ps.take i).filterMap (alR id old found) = o at *
    generalize ps[i] = k at *
    have c1 : (o.length + 1) * 48 ≤ 35184372088832 := cap_le (by omega) (by decide)
    simp only [go_sem, gi, eKy_fold]
    refine callW_pure (c_Rdiffers old found k hom hfm) (by simp only [go_sem]) (by simp only [go_sem]) ?_
    have skip : (offP (pl k) old found || offP (pl k) found old) = false → (ps.take (i + 1)).filterMap (alR id old found) = o := fun h => by
      rw [hst, alR, if_neg (by rw [h]; decide)]; simp
    have take : (offP (pl k) old found || offP (pl k) found old) = true → (ps.take (i + 1)).filterMap (alR id old found) = o ++ [⟨id, kindR old found k, k.repo, k.path⟩] := fun h => by
      rw [hst, alR, if_pos h]; rfl
    have rest : (offP (pl k) old found || offP (pl k) found old) = true → True := fun _ => trivial
    cases h1 : offP (pl k) old found with
    | true =>
      have take := take (by rw [h1]; rfl)
      simp only [go_sem, gi, Bool.not_true, VV.canon, VV.canon0, eKy_fold]
      refine callW_pure (c_Rpath old k hom) (by simp only [go_sem]) (by simp only [go_sem]) ?_
      cases h3 : onP (pl k) old with
      | false =>
        have hk : kindR old found k = 1 := by simp [kindR, h3]
        rw [hk] at take
        simp only [go_sem, Bool.not_false, c1, VV.canon, VV.canon0]
        exact ⟨i + 1, by omega, by simp only; omega, by simp only [go_sem, wrap_len hlt hpm, take, List.map_append]; rfl, by simp only [go_sem, take, List.length_append], rfl, rfl, rfl⟩
      | true =>
        simp only [go_sem, gi, Bool.not_true, eKy_fold]
        refine callW_pure (c_Rpath found k hfm) (by simp only [go_sem]) (by simp only [go_sem]) ?_
        cases h4 : onP (pl k) found with
        | false =>
          have hk : kindR old found k = 2 := by simp [kindR, h3, h4]
          rw [hk] at take
          simp only [go_sem, Bool.not_false, c1, VV.canon, VV.canon0]
          exact ⟨i + 1, by omega, by simp only; omega, by simp only [go_sem, wrap_len hlt hpm, take, List.map_append]; rfl, by simp only [go_sem, take, List.length_append], rfl, rfl, rfl⟩
        | true =>
          have hk : kindR old found k = 3 := by simp [kindR, h3, h4]
          rw [hk] at take
          simp only [go_sem, Bool.not_true, c1, VV.canon, VV.canon0]
          exact ⟨i + 1, by omega, by simp only; omega, by simp only [go_sem, wrap_len hlt hpm, take, List.map_append]; rfl, by simp only [go_sem, take, List.length_append], rfl, rfl, rfl⟩
    | false =>
      simp only [go_sem, gi, Bool.not_false, eKy_fold]
      refine callW_pure (c_Rdiffers found old k hfm hom) (by simp only [go_sem]) (by simp only [go_sem]) ?_
      cases h2 : offP (pl k) found old with
      | false =>
        have skip := skip (by rw [h1, h2]; rfl)
        simp only [go_sem, Bool.not_false]
        exact ⟨i + 1, by omega, by simp only; omega, by simp only [go_sem, wrap_len hlt hpm, skip], by simp only [go_sem, skip], rfl, rfl, rfl⟩
      | true =>
      have take := take (by rw [h1, h2]; rfl)
      simp only [go_sem, gi, Bool.not_true, VV.canon, VV.canon0, eKy_fold]
      refine callW_pure (c_Rpath old k hom) (by simp only [go_sem]) (by simp only [go_sem]) ?_
      cases h3 : onP (pl k) old with
      | false =>
        have hk : kindR old found k = 1 := by simp [kindR, h3]
        rw [hk] at take
        simp only [go_sem, Bool.not_false, c1, VV.canon, VV.canon0]
        exact ⟨i + 1, by omega, by simp only; omega, by simp only [go_sem, wrap_len hlt hpm, take, List.map_append]; rfl, by simp only [go_sem, take, List.length_append], rfl, rfl, rfl⟩
      | true =>
        simp only [go_sem, gi, Bool.not_true, eKy_fold]
        refine callW_pure (c_Rpath found k hfm) (by simp only [go_sem]) (by simp only [go_sem]) ?_
        cases h4 : onP (pl k) found with
        | false =>
          have hk : kindR old found k = 2 := by simp [kindR, h3, h4]
          rw [hk] at take
          simp only [go_sem, Bool.not_false, c1, VV.canon, VV.canon0]
          exact ⟨i + 1, by omega, by simp only; omega, by simp only [go_sem, wrap_len hlt hpm, take, List.map_append]; rfl, by simp only [go_sem, take, List.length_append], rfl, rfl, rfl⟩
        | true =>
          have hk : kindR old found k = 3 := by simp [kindR, h3, h4]
          rw [hk] at take
          simp only [go_sem, Bool.not_true, c1, VV.canon, VV.canon0]
          exact ⟨i + 1, by omega, by simp only; omega, by simp only [go_sem, wrap_len hlt hpm, take, List.map_append]; rfl, by simp only [go_sem, take, List.length_append], rfl, rfl, rfl⟩
  have hil : i = ps.length := by have := len_ge hff; omega
  subst hil
  simp only [go_sem, List.take_length]
end Go.Proofs
