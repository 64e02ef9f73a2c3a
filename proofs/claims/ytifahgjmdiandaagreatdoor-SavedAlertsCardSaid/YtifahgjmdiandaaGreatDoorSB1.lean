/- V, proofs: the document's own of saved searches: less, has, path, differs, SameKeys, SameAlerts, Sort. Conditions: the lists' lengths. -/
import Derived.Test.YtifahgjmdiandaaGreatDoorSA9
set_option linter.unusedVariables false
set_option linter.unusedSimpArgs false
namespace Go.Proofs
open Go.V Go.RowKit

theorem pl_dec (a b : Ky) : decide (pl a = pl b) = ((a.repo == b.repo) && (a.path == b.path)) := by
  simp only [pl, Pl.mk.injEq, Bool.decide_and, decb]
theorem ltK_ne1 {a b : Ky} (h : (a.repo == b.repo) = false) : ltK a b = strLess a.repo b.repo := by
  simp [ltK, fK, ltL, h]
theorem ltK_ne2 {a b : Ky} (h : (a.repo == b.repo) = true) (h2 : (a.path == b.path) = false) : ltK a b = strLess a.path b.path := by
  have e : a.repo = b.repo := by simpa using h
  simp [ltK, fK, ltL, e, h2, sl_irrefl]
theorem ltK_ne3 {a b : Ky} (h : (a.repo == b.repo) = true) (h2 : (a.path == b.path) = true) : ltK a b = strLess a.text b.text := by
  have e : a.repo = b.repo := by simpa using h
  have e2 : a.path = b.path := by simpa using h2
  simp [ltK, fK, ltL, e, e2, sl_irrefl]
theorem c_Rless (a b : Ky) : PureC PR n_R48_less [eKy a, eKy b] (.bool (ltK a b)) := by
  refine pure_of_wp m_R48_less rfl (by simp [eKy_argOk]) ?_
  unfold FnW v_R48_less
  simp only [go_sem, eKy]
  cases h1 : (a.repo == b.repo) with
  | false => simp only [go_sem, Bool.not_false, ltK_ne1 h1]
  | true =>
    simp only [go_sem, Bool.not_true]
    cases h2 : (a.path == b.path) with
    | false => simp only [go_sem, Bool.not_false, ltK_ne2 h1 h2]
    | true => simp only [go_sem, Bool.not_true, ltK_ne3 h1 h2]
theorem any_dec (l : List Ky) (k : Ky) : (l.any fun x => decide (x = k)) = decide (k ∈ l) := by
  rw [Bool.eq_iff_iff, List.any_eq_true, decide_eq_true_eq]
  constructor
  · rintro ⟨x, h, e⟩; have := of_decide_eq_true e; subst this; exact h
  · intro h; exact ⟨k, h, by simp⟩
theorem c_Rhas (l : List Ky) (k : Ky) (hl : l.length ≤ maxLen) : PureC PR n_R48_has [.sl (l.map eKy) 0, eKy k] (.bool (decide (k ∈ l))) := by
  rw [← any_dec]
  refine pure_of_wp m_R48_has rfl (by simp [argOk_sl, eKy_argOk]) ?_
  unfold FnW v_R48_has
  simp only [go_sem, eKy]
  refine v_for (α := Nat) (base := 0) (marks := []) (pu := true) (good := fun i => i ≤ l.length ∧ (l.take i).any (fun x => decide (x = k)) = false) (m := fun i => l.length - i)
    (E := fun i => [(0, .sl (l.map eKy) 0), (3, .ptr 0 0), (5, .int .i64 i)]) (O := fun _ => [.cells (eKy k).cells])
    (by intro i _; simp [go_sem, Obj.idsB]) rfl ?_ 0 _ ⟨by omega, rfl⟩ rfl rfl rfl rfl rfl
  rintro i ⟨hi, hp⟩
  simp only [go_sem]
  refine if_s (fun ht => ?_) (fun hf => ?_)
  · have hlt := len_lt ht
    have gi := get_map eKy hlt
    simp only [go_sem, gi, fitsL, eq_ky]
    refine if_s (fun h4 => ?_) (fun h4 => ?_) <;> simp only [go_sem]
    · rw [any_stop (p := fun x => decide (x = k)) hlt h4]
    · exact ⟨i + 1, ⟨by omega, any_step (p := fun x => decide (x = k)) hlt hp h4⟩, by simp only; omega, by simp only [go_sem, wrap_len hlt hl], rfl, rfl, rfl, rfl⟩
  · simp only [go_sem]
    rw [any_end (p := fun x => decide (x = k)) (len_ge hf) hp]
theorem c_Rpath (l : List Ky) (k : Ky) (hl : l.length ≤ maxLen) : PureC PR n_R48_path [.sl (l.map eKy) 0, eKy k] (.bool (onP (pl k) l)) := by
  refine pure_of_wp m_R48_path rfl (by simp [argOk_sl, eKy_argOk]) ?_
  unfold FnW v_R48_path
  simp only [go_sem, eKy]
  refine v_for (α := Nat) (base := 0) (marks := []) (pu := true) (good := fun i => i ≤ l.length ∧ (l.take i).any (fun x => decide (pl x = pl k)) = false) (m := fun i => l.length - i)
    (E := fun i => [(0, .sl (l.map eKy) 0), (3, .ptr 0 0), (5, .int .i64 i)]) (O := fun _ => [.cells (eKy k).cells])
    (by intro i _; simp [go_sem, Obj.idsB]) rfl ?_ 0 _ ⟨by omega, rfl⟩ rfl rfl rfl rfl rfl
  rintro i ⟨hi, hp⟩
  simp only [go_sem]
  refine if_s (fun ht => ?_) (fun hf => ?_)
  · have hlt := len_lt ht
    have gi := get_map eKy hlt
    have yes : decide (pl l[i] = pl k) = true → onP (pl k) l = true := fun h => any_stop (p := fun x => decide (pl x = pl k)) hlt h
    have no : decide (pl l[i] = pl k) = false → (l.take (i + 1)).any (fun x => decide (pl x = pl k)) = false := fun h => any_step (p := fun x => decide (pl x = pl k)) hlt hp h
    rw [pl_dec] at yes no
    generalize l[i] = x at *
    simp only [go_sem, gi]
    cases h1 : (x.repo == k.repo) with
    | false =>
      rw [h1] at no
      simp only [go_sem]
      exact ⟨i + 1, ⟨by omega, no rfl⟩, by simp only; omega, by simp only [go_sem, wrap_len hlt hl], rfl, rfl, rfl, rfl⟩
    | true =>
    rw [h1] at yes no
    simp only [go_sem, gi]
    refine if_s (fun h2 => ?_) (fun h2 => ?_) <;> simp only [go_sem]
    · rw [yes (by rw [h2]; rfl)]
    · exact ⟨i + 1, ⟨by omega, no (by rw [h2]; rfl)⟩, by simp only; omega, by simp only [go_sem, wrap_len hlt hl], rfl, rfl, rfl, rfl⟩
  · simp only [go_sem]
    have : onP (pl k) l = false := any_end (p := fun x => decide (pl x = pl k)) (len_ge hf) hp
    rw [this]
theorem c_Rdiffers (l b : List Ky) (k : Ky) (hl : l.length ≤ maxLen) (hb : b.length ≤ maxLen) : PureC PR n_R48_differs [.sl (l.map eKy) 0, .sl (b.map eKy) 0, eKy k] (.bool (offP (pl k) l b)) := by
  refine pure_of_wp m_R48_differs rfl (by simp [argOk_sl, eKy_argOk]) ?_
  unfold FnW v_R48_differs
  simp only [go_sem, eKy]
  refine v_for (α := Nat) (base := 0) (marks := []) (pu := true) (good := fun i => i ≤ l.length ∧ (l.take i).any (fun x => decide (pl x = pl k) && !decide (x ∈ b)) = false) (m := fun i => l.length - i)
    (E := fun i => [(0, .sl (l.map eKy) 0), (1, .sl (b.map eKy) 0), (5, .ptr 0 0), (7, .int .i64 i)]) (O := fun _ => [.cells (eKy k).cells])
    (by intro i _; simp [go_sem, Obj.idsB]) rfl ?_ 0 _ ⟨by omega, rfl⟩ rfl rfl rfl rfl rfl
  rintro i ⟨hi, hp⟩
  simp only [go_sem]
  refine if_s (fun ht => ?_) (fun hf => ?_)
  · have hlt := len_lt ht
    have gi := get_map eKy hlt
    have yes : (decide (pl l[i] = pl k) && !decide (l[i] ∈ b)) = true → offP (pl k) l b = true := fun h => any_stop (p := fun x => decide (pl x = pl k) && !decide (x ∈ b)) hlt h
    have no : (decide (pl l[i] = pl k) && !decide (l[i] ∈ b)) = false → (l.take (i + 1)).any (fun x => decide (pl x = pl k) && !decide (x ∈ b)) = false := fun h => any_step (p := fun x => decide (pl x = pl k) && !decide (x ∈ b)) hlt hp h
    rw [pl_dec] at yes no
    generalize l[i] = x at *
    simp only [go_sem, gi]
    cases h1 : (x.repo == k.repo) with
    | false =>
      rw [h1] at no
      simp only [go_sem]
      exact ⟨i + 1, ⟨by omega, no rfl⟩, by simp only; omega, by simp only [go_sem, wrap_len hlt hl], rfl, rfl, rfl, rfl⟩
    | true =>
    rw [h1] at yes no
    simp only [go_sem, gi]
    cases h2 : (x.path == k.path) with
    | false =>
      rw [h2] at no
      simp only [go_sem]
      exact ⟨i + 1, ⟨by omega, no rfl⟩, by simp only; omega, by simp only [go_sem, wrap_len hlt hl], rfl, rfl, rfl, rfl⟩
    | true =>
    rw [h2] at yes no
    simp only [go_sem, gi, eKy_fold]
    refine callD_pure (c_Rhas b x hb) (by simp only [go_sem]) (by simp only [go_sem]) ?_
    simp only [go_sem]
    refine if_s (fun h3 => ?_) (fun h3 => ?_) <;> simp only [go_sem]
    · rw [yes (by rw [h3]; rfl)]
    · exact ⟨i + 1, ⟨by omega, no (by rw [h3]; rfl)⟩, by simp only; omega, by simp only [go_sem, wrap_len hlt hl], rfl, rfl, rfl, rfl⟩
  · simp only [go_sem]
    have : offP (pl k) l b = false := any_end (p := fun x => decide (pl x = pl k) && !decide (x ∈ b)) (len_ge hf) hp
    rw [this]
theorem eq_al (a : Al) : eqL [.int .i64 a.id, .int .i64 a.kind, .str a.repo, .str a.path] [.int .i64 a.id, .int .i64 a.kind, .str a.repo, .str a.path] = some true := by
  simp only [eqL, eq0, beq_self_eq_true]
  rfl
theorem c_RSameKeys (l : List Ky) (hl : l.length ≤ maxLen) : PureC PR n_R48_SameKeys [.sl (l.map eKy) 0, .sl (l.map eKy) 0] (.bool true) := by
  refine pure_of_wp m_R48_SameKeys rfl (by simp [argOk_sl]) ?_
  unfold FnW v_R48_SameKeys
  have h0 : ((l.length : Int) != (l.length : Int)) = false := by simp
  simp only [go_sem, h0]
  refine v_for (α := Nat) (base := 0) (marks := []) (pu := true) (good := fun i => i ≤ l.length) (m := fun i => l.length - i)
    (E := fun i => [(0, .sl (l.map eKy) 0), (1, .sl (l.map eKy) 0), (5, .int .i64 i)]) (O := fun _ => [])
    (by intro i _; simp [go_sem, Obj.idsB]) rfl ?_ 0 _ (by omega) rfl rfl rfl rfl rfl
  intro i hi
  simp only [go_sem]
  refine if_s (fun ht => ?_) (fun hf => ?_)
  · have hlt := len_lt ht
    have gi := get_map eKy hlt
    have hd : decide (l[i] = l[i]) = true := by simp
    simp only [go_sem, gi, fitsL, eq_ky, hd, Bool.not_true]
    exact ⟨i + 1, by omega, by simp only; omega, by simp only [go_sem, wrap_len hlt hl], rfl, rfl, rfl, rfl⟩
  · simp only [go_sem]
theorem c_RSameAlerts (l : List Al) (hl : l.length ≤ maxLen) : PureC PR n_R48_SameAlerts [.sl (l.map eAl) 0, .sl (l.map eAl) 0] (.bool true) := by
  refine pure_of_wp m_R48_SameAlerts rfl (by simp [argOk_sl]) ?_
  unfold FnW v_R48_SameAlerts
  have h0 : ((l.length : Int) != (l.length : Int)) = false := by simp
  simp only [go_sem, h0]
  refine v_for (α := Nat) (base := 0) (marks := []) (pu := true) (good := fun i => i ≤ l.length) (m := fun i => l.length - i)
    (E := fun i => [(0, .sl (l.map eAl) 0), (1, .sl (l.map eAl) 0), (5, .int .i64 i)]) (O := fun _ => [])
    (by intro i _; simp [go_sem, Obj.idsB]) rfl ?_ 0 _ (by omega) rfl rfl rfl rfl rfl
  intro i hi
  simp only [go_sem]
  refine if_s (fun ht => ?_) (fun hf => ?_)
  · have hlt := len_lt ht
    have gi := get_map eAl hlt
    simp only [go_sem, gi, fitsL, eq_al, Bool.not_true]
    exact ⟨i + 1, by omega, by simp only; omega, by simp only [go_sem, wrap_len hlt hl], rfl, rfl, rfl, rfl⟩
  · simp only [go_sem]
end Go.Proofs
