/- V, proofs: the law SavedPaths on data. Conditions: the lists' lengths. -/
import Derived.Test.YtifahgjmdiandaaGreatDoorSN1
set_option linter.unusedVariables false
set_option linter.unusedSimpArgs false
namespace Go.Proofs
open Go.V Go.RowKit

theorem pl_dec (a b : Ky) : decide (pl a = pl b) = ((a.repo == b.repo) && (a.path == b.path)) := by
  simp only [pl, Pl.mk.injEq, Bool.decide_and, decb]
def alOn (k : Ky) (x : Al) : Bool := (x.repo == k.repo) && (x.path == k.path)
def kf (k : Ky) (a : Int × Nat) (x : Al) : Int × Nat := if alOn k x = true then (x.kind, a.2 + 1) else a
def kindF (l : List Al) (k : Ky) : Int × Nat := l.foldl (kf k) (0, 0)
theorem kf_le (k : Ky) : ∀ (l : List Al) (a : Int × Nat), (l.foldl (kf k) a).2 ≤ a.2 + l.length
  | [], a => by simp
  | x :: r, a => by
    have := kf_le k r (kf k a x)
    have h2 : (kf k a x).2 ≤ a.2 + 1 := by unfold kf; split <;> simp
    simp only [List.foldl_cons, List.length_cons]; omega
theorem c_on (l : List Ky) (k : Ky) (hl : l.length ≤ maxLen) : PureC PR n_L48_on [.sl (l.map eKy) 0, eKy k] (.bool (onP (pl k) l)) := by
  refine pure_of_wp m_L48_on rfl (by simp [argOk_sl, eKy_argOk]) ?_
  unfold FnW v_L48_on
  simp only [go_sem, eKy]
  refine v_for (α := Nat) (base := 0) (marks := []) (pu := true) (good := fun i => i ≤ l.length ∧ (l.take i).any (fun x => decide (pl x = pl k)) = false) (m := fun i => l.length - i)
    (E := fun i => [(0, .sl (l.map eKy) 0), (3, .ptr 0 0), (5, .int .i64 i)]) (O := fun _ => [.cells (eKy k).cells])
    (by intro i _; simp [go_sem, Obj.idsB]) rfl ?_ 0 _ ⟨by omega, rfl⟩ rfl rfl rfl rfl rfl
  rintro i ⟨hi, hp⟩
  simp only [go_sem]
  refine if_s (fun ht => ?_) (fun hf => ?_)
  · have hlt := len_lt ht
    have gi := get_map eKy hlt
    have yes : decide (pl l[i] = pl k) = true → onP (pl k) l = true := fun h => any_stop (p := fun x => decide (pl x = pl k)) hlt h
    have no : decide (pl l[i] = pl k) = false → (l.take (i + 1)).any (fun x => decide (pl x = pl k)) = false := fun h => any_step (p := fun x => decide (pl x = pl k)) hlt hp h
    rw [pl_dec] at yes no
    generalize l[i] = x at *
    simp only [go_sem, gi]
    cases h1 : (x.repo == k.repo) with
    | false =>
      rw [h1] at no
      simp only [go_sem]
      exact ⟨i + 1, ⟨by omega, no rfl⟩, by simp only; omega, by simp only [go_sem, wrap_len hlt hl], rfl, rfl, rfl, rfl⟩
    | true =>
    rw [h1] at yes no
    simp only [go_sem, gi]
    refine if_s (fun h2 => ?_) (fun h2 => ?_) <;> simp only [go_sem]
    · rw [yes (by rw [h2]; rfl)]
    · exact ⟨i + 1, ⟨by omega, no (by rw [h2]; rfl)⟩, by simp only; omega, by simp only [go_sem, wrap_len hlt hl], rfl, rfl, rfl, rfl⟩
  · simp only [go_sem]
    have : onP (pl k) l = false := any_end (p := fun x => decide (pl x = pl k)) (len_ge hf) hp
    rw [this]
theorem c_kindOf (l : List Al) (k : Ky) (hl : l.length ≤ 1000000) : PureC PR n_L48_kindOf [.sl (l.map eAl) 0, eKy k] (.tup [.int .i64 (kindF l k).1, .int .i64 ((kindF l k).2 : Nat)]) := by
  refine pure_of_wp m_L48_kindOf rfl (by simp [argOk_sl, eKy_argOk]) ?_
  unfold FnW v_L48_kindOf
  have hlm : l.length ≤ maxLen := by rw [maxLen_eq]; omega
  simp only [go_sem, eKy]
  refine v_for (α := Nat) (base := 0) (marks := []) (pu := true) (good := fun i => i ≤ l.length) (m := fun i => l.length - i)
    (E := fun i => [(0, .sl (l.map eAl) 0), (3, .ptr 0 0), (6, .int .i64 ((l.take i).foldl (kf k) (0, 0)).1), (7, .int .i64 (((l.take i).foldl (kf k) (0, 0)).2 : Nat)), (8, .int .i64 i)]) (O := fun _ => [.cells (eKy k).cells])
    (by intro i _; simp [go_sem, Obj.idsB]) rfl ?_ 0 _ (by omega) rfl rfl rfl rfl rfl
  intro i hi
  simp only [go_sem]
  refine if_s (fun ht => ?_) (fun hf => ?_)
  · have hlt := len_lt ht
    have gi := get_map eAl hlt
    have hst : (l.take (i + 1)).foldl (kf k) (0, 0) = kf k ((l.take i).foldl (kf k) (0, 0)) l[i] := by
      rw [take_succ hlt, List.foldl_append]; rfl
    have hle := kf_le k (l.take i) (0, 0)
    rw [List.length_take] at hle
    generalize (l.take i).foldl (kf k) (0, 0) = a at *
    obtain ⟨a1, a2⟩ := a
    simp only at hle
    have hw : IntKind.i64.wrap ((a2 : Int) + 1) = ((a2 + 1 : Nat) : Int) := by rw [wrap_int (by omega) (by omega)]; omega
    generalize l[i] = x at *
    simp only [go_sem, gi]
    cases h1 : (x.repo == k.repo) with
    | false =>
      have ha : alOn k x = false := by rw [alOn, h1]; rfl
      simp only [go_sem]
      exact ⟨i + 1, by omega, by simp only; omega, by simp only [go_sem, wrap_len hlt hlm, hst, kf, ha], rfl, rfl, rfl, rfl⟩
    | true =>
    simp only [go_sem, gi]
    refine if_s (fun h2 => ?_) (fun h2 => ?_) <;> simp only [go_sem]
    · have ha : alOn k x = true := by rw [alOn, h1, h2]; rfl
      simp only [go_sem, gi]
      exact ⟨i + 1, by omega, by simp only; omega, by simp only [go_sem, wrap_len hlt hlm, hst, kf, ha, hw], rfl, rfl, rfl, rfl⟩
    · have ha : alOn k x = false := by rw [alOn, h1, h2]; rfl
      exact ⟨i + 1, by omega, by simp only; omega, by simp only [go_sem, wrap_len hlt hlm, hst, kf, ha], rfl, rfl, rfl, rfl⟩
  · have hil : i = l.length := by have := len_ge hf; omega
    subst hil
    simp only [go_sem, List.take_length, kindF]

/-! ### the plain law -/
theorem kindF_filter (k : Ky) : ∀ (l : List Al) (a : Int × Nat), l.foldl (kf k) a = (l.filter (alOn k)).foldl (fun a x => (x.kind, a.2 + 1)) a
  | [], a => rfl
  | x :: r, a => by
    rw [List.foldl_cons, kindF_filter k r, List.filter_cons]
    cases h : alOn k x with
    | true => simp [kf, h]
    | false => simp [kf, h]
theorem alOn_eq {k : Ky} {x : Al} (h : alOn k x = true) : x.repo = k.repo ∧ x.path = k.path := by
  simpa [alOn] using h
theorem kind_cases (id : Int) (old found : List Ky) (k : Ky) : (kindF (changesS id old found) k = (0, 0) ∧ ∀ x ∈ changesS id old found, alOn k x = false) ∨
    ∃ x ∈ changesS id old found, alOn k x = true ∧ kindF (changesS id old found) k = (x.kind, 1) := by
  have hn := changes_nodup id old found
  have hone : ∀ x ∈ changesS id old found, ∀ y ∈ changesS id old found, alOn k x = true → alOn k y = true → x = y := fun x hx y hy h1 h2 => by
    obtain ⟨a1, a2⟩ := alOn_eq h1
    obtain ⟨b1, b2⟩ := alOn_eq h2
    exact changes_one hx hy (a1.trans b1.symm) (a2.trans b2.symm)
  unfold kindF
  rw [kindF_filter]
  generalize changesS id old found = l at *
  have hnf : (l.filter (alOn k)).Nodup := hn.sublist List.filter_sublist
  cases hf : l.filter (alOn k) with
  | nil =>
    refine .inl ⟨rfl, fun x hx => ?_⟩
    have := List.filter_eq_nil_iff.1 hf x hx
    simpa using this
  | cons x r =>
    have hx : x ∈ l.filter (alOn k) := by rw [hf]; simp
    rw [List.mem_filter] at hx
    cases r with
    | nil => exact .inr ⟨x, hx.1, hx.2, rfl⟩
    | cons y s =>
      have hy : y ∈ l.filter (alOn k) := by rw [hf]; simp
      rw [List.mem_filter] at hy
      have := hone x hx.1 y hy.1 hx.2 hy.2
      subst this
      rw [hf] at hnf
      simp at hnf
theorem onP_sort (p : Pl) (l : List Ky) : onP p (sortK l) = onP p l := by
  unfold onP
  rw [Bool.eq_iff_iff, List.any_eq_true, List.any_eq_true]
  constructor
  · rintro ⟨x, h1, h2⟩; exact ⟨x, (sortK_mem l).1 h1, h2⟩
  · rintro ⟨x, h1, h2⟩; exact ⟨x, (sortK_mem l).2 h1, h2⟩
theorem onP_mem {k : Ky} {l : List Ky} (h : k ∈ l) : onP (pl k) l = true := List.any_eq_true.2 ⟨k, h, by simp⟩
/-- a key that is new or gone differs -/
theorem off_new {k : Ky} {a b : List Ky} (h : k ∈ a) (hb : onP (pl k) b = false) : offP (pl k) a b = true := by
  refine List.any_eq_true.2 ⟨k, h, ?_⟩
  have : ¬ k ∈ b := fun hm => by rw [onP_mem hm] at hb; cases hb
  simp [this]
theorem kind_new (id : Int) (old found : List Ky) {k : Ky} (hk : k ∈ found) : ((kindF (changesS id old found) k).1 == 1) = !onP (pl k) old ∧ (kindF (changesS id old found) k).2 ≤ 1 := by
  rcases kind_cases id old found k with ⟨h, hno⟩ | ⟨x, hx, hon, h⟩
  · rw [h]
    refine ⟨?_, by simp⟩
    cases ho : onP (pl k) old with
    | true => rfl
    | false =>
      exfalso
      have hmem : (⟨id, kindS ⟨onP (pl k) (sortK old), onP (pl k) (sortK found), true⟩, k.repo, k.path⟩ : Al) ∈ changesS id old found := by
        rw [changes_mem, alert_mem]
        refine ⟨?_, ?_, rfl, rfl⟩
        · show (onP (pl k) (sortK old) || onP (pl k) (sortK found)) = true
          rw [onP_sort, onP_sort, onP_mem hk, Bool.or_true]
        · show (offP (pl k) (sortK old) (sortK found) || offP (pl k) (sortK found) (sortK old)) = true
          rw [off_new ((sortK_mem found).2 hk) (by rw [onP_sort]; exact ho), Bool.or_true]
      have := hno _ hmem
      simp [alOn] at this
  · rw [h]
    refine ⟨?_, Nat.le_refl _⟩
    obtain ⟨e1, e2⟩ := alOn_eq hon
    rw [changes_mem, alert_mem, e1, e2] at hx
    have hkd : x.kind = kindS ⟨onP (pl k) (sortK old), onP (pl k) (sortK found), true⟩ := hx.2.2.2
    rw [onP_sort, onP_sort, onP_mem hk] at hkd
    show (x.kind == 1) = _
    rw [hkd]
    cases onP (pl k) old <;> rfl
theorem kind_gone (id : Int) (old found : List Ky) {k : Ky} (hk : k ∈ old) : ((kindF (changesS id old found) k).1 == 2) = !onP (pl k) found ∧ (kindF (changesS id old found) k).2 ≤ 1 := by
  rcases kind_cases id old found k with ⟨h, hno⟩ | ⟨x, hx, hon, h⟩
  · rw [h]
    refine ⟨?_, by simp⟩
    cases ho : onP (pl k) found with
    | true => rfl
    | false =>
      exfalso
      have hmem : (⟨id, kindS ⟨onP (pl k) (sortK old), onP (pl k) (sortK found), true⟩, k.repo, k.path⟩ : Al) ∈ changesS id old found := by
        rw [changes_mem, alert_mem]
        refine ⟨?_, ?_, rfl, rfl⟩
        · show (onP (pl k) (sortK old) || onP (pl k) (sortK found)) = true
          rw [onP_sort, onP_mem hk, Bool.true_or]
        · show (offP (pl k) (sortK old) (sortK found) || offP (pl k) (sortK found) (sortK old)) = true
          rw [off_new ((sortK_mem old).2 hk) (by rw [onP_sort]; exact ho), Bool.true_or]
      have := hno _ hmem
      simp [alOn] at this
  · rw [h]
    refine ⟨?_, Nat.le_refl _⟩
    obtain ⟨e1, e2⟩ := alOn_eq hon
    rw [changes_mem, alert_mem, e1, e2] at hx
    have hkd : x.kind = kindS ⟨onP (pl k) (sortK old), onP (pl k) (sortK found), true⟩ := hx.2.2.2
    rw [onP_sort, onP_sort, onP_mem hk] at hkd
    show (x.kind == 2) = _
    rw [hkd]
    cases onP (pl k) found <;> rfl

set_option maxRecDepth 100000 in
theorem law_Paths (halive : PureC PR n_L48_alive [] (.bool true)) (old found : List Ky) (ho : old.length ≤ maxLen) (hf : found.length ≤ maxLen) :
    PureC PR n_L48_SavedPaths [.sl (old.map eKy) 0, .sl (found.map eKy) 0] (.bool true) := by
  refine pure_of_wp m_L48_SavedPaths rfl (by simp [argOk_sl]) ?_
  unfold FnW v_L48_SavedPaths
  simp only [go_sem]
  refine callW_pure halive rfl rfl ?_
  simp only [go_sem]
  cases h1 : decide ((old.length : Int) > 60) with
  | true => simp only [go_sem]
  | false =>
  simp only [go_sem]
  refine if_s (fun h2 => ?_) (fun h2 => ?_) <;> simp only [go_sem]
  have hol : old.length ≤ 60 := by simp at h1; omega
  have hfl : found.length ≤ 60 := by simp at h2; omega
  refine callW_pure (c_Changes 1 old found (by omega) (by omega)) (by simp only [go_sem]) (by simp only [go_sem]) ?_
  have hcl := changes_len 1 old found
  have hnew := fun k (hk : k ∈ found) => kind_new 1 old found hk
  have hgone := fun k (hk : k ∈ old) => kind_gone 1 old found hk
  generalize changesS 1 old found = l at *
  simp only [go_sem]
  refine v_for (α := Nat) (base := 0) (marks := []) (pu := true) (good := fun i => i ≤ found.length) (m := fun i => found.length - i)
    (E := fun i => [(0, .sl (old.map eKy) 0), (1, .sl (found.map eKy) 0), (5, .sl (l.map eAl) 0), (6, .int .i64 i)]) (O := fun _ => [])
    (by intro i _; simp [go_sem, Obj.idsB]) rfl ?_ 0 _ (by omega) rfl rfl rfl rfl rfl
  intro i hi
  simp only [go_sem]
  refine if_s (fun ht => ?_) (fun hff => ?_)
  · have hlt := len_lt ht
    have gi := get_map eKy hlt
    obtain ⟨hk1, hk2⟩ := hnew _ (List.getElem_mem hlt)
    generalize found[i] = k at *
    simp only [go_sem, gi, eKy_fold]
    refine callW_pure (c_kindOf l k (by omega)) (by simp only [go_sem]) (by simp only [go_sem]) ?_
    generalize kindF l k = a at *
    have hd : decide ((a.2 : Int) > 1) = false := by simp; omega
    simp only [go_sem, hd, gi, eKy_fold]
    refine callW_pure (c_on old k ho) (by simp only [go_sem]) (by simp only [go_sem]) ?_
    have hb : ((!onP (pl k) old) == onP (pl k) old) = false := by cases onP (pl k) old <;> rfl
    simp only [go_sem, hk1, hb]
    exact ⟨i + 1, by omega, by simp only; omega, by simp only [go_sem, wrap_len hlt hf], rfl, rfl, rfl, rfl⟩
  simp only [go_sem]
  refine v_for (α := Nat) (base := 0) (marks := []) (pu := true) (good := fun i => i ≤ old.length) (m := fun i => old.length - i)
    (E := fun i => [(0, .sl (old.map eKy) 0), (1, .sl (found.map eKy) 0), (5, .sl (l.map eAl) 0), (9, .int .i64 i)]) (O := fun _ => [])
    (by intro i _; simp [go_sem, Obj.idsB]) rfl ?_ 0 _ (by omega) rfl rfl rfl rfl rfl
  intro i hi
  simp only [go_sem]
  refine if_s (fun ht => ?_) (fun hff => ?_)
  · have hlt := len_lt ht
    have gi := get_map eKy hlt
    obtain ⟨hk1, hk2⟩ := hgone _ (List.getElem_mem hlt)
    generalize old[i] = k at *
    simp only [go_sem, gi, eKy_fold]
    refine callW_pure (c_kindOf l k (by omega)) (by simp only [go_sem]) (by simp only [go_sem]) ?_
    generalize kindF l k = a at *
    have hd : decide ((a.2 : Int) > 1) = false := by simp; omega
    simp only [go_sem, hd, gi, eKy_fold]
    refine callW_pure (c_on found k hf) (by simp only [go_sem]) (by simp only [go_sem]) ?_
    have hb : ((!onP (pl k) found) == onP (pl k) found) = false := by cases onP (pl k) found <;> rfl
    simp only [go_sem, hk1, hb]
    exact ⟨i + 1, by omega, by simp only; omega, by simp only [go_sem, wrap_len hlt ho], rfl, rfl, rfl, rfl⟩
  · simp only [go_sem]
end Go.Proofs
