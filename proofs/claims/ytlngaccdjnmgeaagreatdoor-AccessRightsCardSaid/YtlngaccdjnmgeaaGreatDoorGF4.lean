/- V, proofs: the document's right patterns of paths and their matches. Conditions: the path's length. -/
import Derived.Test.YtlngaccdjnmgeaaGreatDoorGF3
set_option linter.unusedVariables false
set_option linter.unusedSimpArgs false
namespace Go.Proofs
open Go.V Go.RowKit

def outP (c : UInt8) : Bool := decide ((c.toNat : Int) < 33) || decide ((c.toNat : Int) > 126)
def rightR (g : List UInt8) : Int := if decide ((g.length : Int) > 60) = true then 4 else if g.any outP = true then 3 else if (elemsP g).isNone then 3 else 0
theorem c_R02_Right (g : List UInt8) : PureC PR n_R02_Right [.str g] (.int .i64 (rightR g)) := by
  refine pure_of_wp m_R02_Right rfl (by simp [argOk_str]) ?_
  unfold FnW v_R02_Right
  simp only [go_sem]
  refine if_s (fun h => ?_) (fun h => ?_) <;> simp only [go_sem]
  · rw [rightR, if_pos h]
  have hl : g.length ≤ 60 := by simp at h; omega
  have hlm : g.length ≤ maxLen := by rw [maxLen_eq]; omega
  have h' : ¬ decide ((g.length : Int) > 60) = true := by rw [h]; simp
  refine v_for (α := Nat) (base := 0) (marks := []) (pu := true) (good := fun i => i ≤ g.length ∧ (g.take i).any outP = false) (m := fun i => g.length - i)
    (E := fun i => [(0, .str g), (3, .int .i64 i)]) (O := fun _ => [])
    (by intro i _; simp [go_sem, Obj.idsB]) rfl ?_ 0 _ ⟨by omega, rfl⟩ rfl rfl rfl rfl rfl
  rintro i ⟨hi, hp⟩
  simp only [go_sem]
  refine if_s (fun ht => ?_) (fun hf => ?_)
  · have hlt := len_lt ht
    have gi := List.getElem?_eq_getElem hlt
    have hi0 : (0 : Int) ≤ (i : Int) := by omega
    simp only [go_sem, gi, hi0, byteInt]
    refine g_s (fun h5 => ?_) (fun h5 => ?_) <;> simp only [go_sem, h5, gi, hi0, byteInt]
    · refine if_s (fun h6 => ?_) (fun h6 => ?_) <;> simp only [go_sem]
      · have hx : outP g[i] = true := by simp only [outP, h6, Bool.or_true]
        rw [rightR, if_neg h', if_pos (any_stop hlt hx)]
      · have h5' : decide ((g[i].toNat : Int) < 33) = false := h5
        exact ⟨i + 1, ⟨by omega, any_step hlt hp (by simp only [outP, h5', h6, Bool.or_false])⟩, by simp only; omega, by simp only [go_sem, wrap_len hlt hlm], rfl, rfl, rfl, rfl⟩
    · have hx : outP g[i] = true := by
        have h5' : decide ((g[i].toNat : Int) < 33) = true := h5
        simp only [outP, h5', Bool.true_or]
      rw [rightR, if_neg h', if_pos (any_stop hlt hx)]
  have hany := any_end (len_ge hf) hp
  have hany' : ¬ g.any outP = true := by rw [hany]; simp
  simp only [go_sem]
  refine callW_pure (c_R02_elems g (by omega)) (by simp only [go_sem]) (by simp only [go_sem]) ?_
  cases he : elemsP g with
  | none =>
    simp only [go_sem, parseV]
    rw [rightR, if_neg h', if_neg hany', he]; rfl
  | some l =>
    simp only [go_sem, parseV]
    rw [rightR, if_neg h', if_neg hany', he]; rfl

theorem stepE_ok {g : List UInt8} {i j : Nat} {x : El} (hi : i < g.length) (h : stepE g i = some (x, j)) : i < j ∧ j ≤ g.length ∧ x.set.length ≤ g.length := by
  unfold stepE at h
  split at h
  · split at h
    · cases h
    · rename_i q
      have q' : decide ((setR g i).2 < 0) = false := by simpa using q
      obtain ⟨k, hk, h1, h2⟩ := setR_le q'
      simp only [Option.some.injEq, Prod.mk.injEq] at h
      obtain ⟨rfl, rfl⟩ := h
      rw [hk]
      refine ⟨by simpa using h1, by simpa using h2, ?_⟩
      unfold setR
      split
      · simp
      · simp only
        have h3 := ranges_len _ (negS (bodyR g i)).2 [] (Nat.le_refl _)
        have h4 : (negS (bodyR g i)).2.length ≤ (bodyR g i).length := by
          cases bodyR g i with
          | nil => simp [negS]
          | cons c r =>
            simp only [negS]
            cases ((c.toNat : Int) == 33) <;> simp
        have h5 : (bodyR g i).length ≤ (g.drop (i + 1)).length := (List.takeWhile_sublist _).length_le
        simp only [List.length_nil, List.length_drop] at h3 h5
        omega
  split at h
  · cases h
  split at h
  · split at h
    · cases h
    · simp only [Option.some.injEq, Prod.mk.injEq] at h
      obtain ⟨rfl, rfl⟩ := h
      have := run_le hi
      exact ⟨by unfold runR; omega, this, by simp⟩
  split at h <;>
  · simp only [Option.some.injEq, Prod.mk.injEq] at h
    obtain ⟨rfl, rfl⟩ := h
    exact ⟨by omega, hi, by simp⟩
theorem elemsA_ok {g : List UInt8} : ∀ (n i : Nat) (acc l : List El), i ≤ g.length → (∀ x ∈ acc, x.set.length ≤ g.length) → elemsA g n i acc = some l → l.length + i ≤ acc.length + g.length ∧ ∀ x ∈ l, x.set.length ≤ g.length
  | 0, _, _, _, _, _, h => by rw [elemsA] at h; cases h
  | n + 1, i, acc, l, hi, ha, h => by
    by_cases hq : g.length ≤ i
    · rw [elemsA_end hq] at h
      cases h
      exact ⟨by omega, ha⟩
    · cases hs : stepE g i with
      | none => rw [elemsA_none (by omega) hs] at h; cases h
      | some p =>
        obtain ⟨x, j⟩ := p
        rw [elemsA_some (by omega) hs] at h
        obtain ⟨h1, h2, h3⟩ := stepE_ok (by omega) hs
        have := elemsA_ok n j (acc ++ [x]) l h2 (fun y hy => by
          rcases List.mem_append.1 hy with hy | hy
          · exact ha y hy
          · simp only [List.mem_singleton] at hy; subst hy; exact h3) h
        simp only [List.length_append, List.length_cons, List.length_nil] at this
        exact ⟨by omega, this.2⟩
def mrowR (p : List UInt8) : List El → List Bool → List Bool
  | [], fr => fr
  | x :: r, fr => mrowR p r (rrow x p fr (p.length + 1))
def matchR (g p : List UInt8) : Bool := match (if rightR g = 0 then elemsP g else none) with
  | none => false
  | some l => (mrowR p l (true :: List.replicate p.length false)).getD p.length false

theorem c_R02_Match (g p : List UInt8) (hp : p.length ≤ 1000000) : PureC PR n_R02_Match [.str g, .str p] (.bool (matchR g p)) := by
  refine pure_of_wp m_R02_Match rfl (by simp [argOk_str]) ?_
  unfold FnW v_R02_Match
  simp only [go_sem]
  refine callW_pure (c_R02_Right g) rfl rfl ?_
  simp only [go_sem]
  refine if_s (fun h => ?_) (fun h => ?_) <;> simp only [go_sem]
  · have : ¬ rightR g = 0 := by simpa using h
    simp [matchR, this]
  have h0 : rightR g = 0 := by simpa using h
  have hgl : g.length ≤ 60 := by
    unfold rightR at h0
    split at h0
    · cases h0
    · rename_i q
      have : ¬ ((g.length : Int) > 60) := by simpa using q
      omega
  obtain ⟨l, hl⟩ : ∃ l, elemsP g = some l := by
    unfold rightR at h0
    split at h0
    · cases h0
    · split at h0
      · cases h0
      · split at h0
        · cases h0
        · rename_i q
          cases hq : elemsP g with
          | none => rw [hq] at q; simp at q
          | some l => exact ⟨l, rfl⟩
  have hr : matchR g p = (mrowR p l (true :: List.replicate p.length false)).getD p.length false := by simp only [matchR, h0, if_true, hl]
  obtain ⟨hll0, hset0⟩ := elemsA_ok _ 0 [] l (by omega) (by simp) hl
  simp only [List.length_nil] at hll0
  have hlm : l.length ≤ maxLen := by rw [maxLen_eq]; omega
  have hset : ∀ x ∈ l, x.set.length ≤ maxLen := fun x hx => by have := hset0 x hx; rw [maxLen_eq]; omega
  rw [hr]
  have hq : PureC PR n_R02_elems [.str g] (parseV (some l)) := by rw [← hl]; exact c_R02_elems g (by omega)
  refine callW_pure hq rfl rfl ?_
  have hw : IntKind.i64.wrap ((p.length : Int) + 1) = ((p.length + 1 : Nat) : Int) := wrap_succ (by omega)
  have hm1 : (0 : Int) ≤ ((p.length + 1 : Nat) : Int) := by omega
  have hm2 : ((p.length + 1 : Nat) : Int) * 1 ≤ 281474976710656 := by omega
  have hm3 : (0 : Int) < ((p.length + 1 : Nat) : Int) := by omega
  simp only [go_sem, parseV, hw, hm1, hm2, hm3, and_self]
  have hfr0 : (VV.bool true :: List.replicate p.length (VV.bool false)) = (true :: List.replicate p.length false).map VV.bool := by simp
  have hlen0 : (true :: List.replicate p.length false).length = p.length + 1 := by simp
  rw [hfr0]
  generalize (true :: List.replicate p.length false) = fr0 at *
  refine frz_all (cs := fr0.map VV.bool) rfl (by simp [hlen0]) (by simp [VV.canon, VV.canon0]) ?_
  simp only [go_sem]
  refine v_for (α := Nat × List Bool) (base := 0) (marks := []) (pu := true) (good := fun x => x.1 ≤ l.length ∧ x.2.length = p.length + 1 ∧ mrowR p (l.drop x.1) x.2 = mrowR p l fr0) (m := fun x => l.length - x.1)
    (E := fun x => [(1, .str p), (5, .sl (l.map eEl) 0), (7, .sl (x.2.map VV.bool) 0), (8, .int .i64 x.1)]) (O := fun _ => [.gone])
    (by intro i _; simp [go_sem, Obj.idsB]) rfl ?_ (0, fr0) _ ⟨by omega, hlen0, rfl⟩ rfl rfl rfl rfl rfl
  rintro ⟨i, fr⟩ ⟨hi, hfr, hmr⟩
  simp only at hi hfr hmr
  simp only [go_sem]
  refine if_s (fun ht => ?_) (fun hf => ?_)
  · have hlt := len_lt ht
    have gx := get_map eEl hlt
    have hx : l[i].set.length ≤ maxLen := hset _ (List.getElem_mem hlt)
    have hdrop := cons_of_get hlt
    simp only [go_sem, gx, eEl_fold']
    refine callW_pure (c_R02_step l[i] p fr hp hfr hx) (by simp only [go_sem]) (by simp only [go_sem]) ?_
    simp only [go_sem]
    exact ⟨(i + 1, rrow l[i] p fr (p.length + 1)), ⟨by simp only; omega, rrow_len _ p fr _, by rw [← hmr, hdrop]; rfl⟩, by simp only; omega, by simp only [go_sem, wrap_len hlt hlm], by simp [go_sem], rfl, rfl, rfl⟩
  · have hie : i = l.length := by have := len_ge hf; omega
    subst hie
    have gp : (fr.map VV.bool)[p.length]? = some (.bool (fr.getD p.length false)) := by simp [hfr, List.getD_eq_getElem?_getD]
    simp only [go_sem, gp]
    rw [← hmr]
    simp [mrowR]
end Go.Proofs
