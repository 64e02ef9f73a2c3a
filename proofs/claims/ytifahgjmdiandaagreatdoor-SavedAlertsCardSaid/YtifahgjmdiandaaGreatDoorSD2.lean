/- V, encodings: readable queries and saved searches, taken apart. -/
import Derived.Test.YtifahgjmdiandaaGreatDoorSB4
set_option linter.unusedVariables false
namespace Go.Proofs
open Go.V Go.RowKit

section
variable {P : Program} {n : Nat} {vs : List VV} {ti ts tb tq tql tk tkl tv : TypeId}
def isQ (P : Program) (ti ts tb tq tql : TypeId) : Bool := isSt P tq [ti, ts, tb, ti, ti, tql] && isI P ti && isS P ts && isB P tb && isSl P tql tq
theorem ty_Q (h : isQ P ti ts tb tq tql = true) : ∀ (n : Nat) (vs : List VV), tyOk P n tq vs = true → ∃ d, .agg vs = eQ d ∧ okQ d := by
  simp only [isQ, Bool.and_eq_true] at h
  obtain ⟨⟨⟨⟨h1, h2⟩, h3⟩, h4⟩, h5⟩ := h
  intro n
  induction n using Nat.strongRecOn with
  | _ n ih =>
    intro vs q
    obtain ⟨m, hm, q⟩ := ty_St h1 q
    obtain ⟨v1, r1, rfl, q1, q⟩ := split1 (isI_c h2) q
    obtain ⟨v2, r2, rfl, q2, q⟩ := split1 (isS_c h3) q
    obtain ⟨v3, r3, rfl, q3, q⟩ := split1 (isB_c h4) q
    obtain ⟨v4, r4, rfl, q4, q⟩ := split1 (isI_c h2) q
    obtain ⟨v5, r5, rfl, q5, q⟩ := split1 (isI_c h2) q
    obtain ⟨v6, r6, rfl, q6, q⟩ := split1 (isSl_c h5) q
    cases q
    obtain ⟨k, e1, b1⟩ := ty_I h2 q1
    obtain ⟨t, e2, b2⟩ := ty_S h3 q2
    obtain ⟨f, e3⟩ := ty_B h4 q3
    obtain ⟨a, e4, b4⟩ := ty_I h2 q4
    obtain ⟨b, e5, b5⟩ := ty_I h2 q5
    obtain ⟨es, e6, b6, m', hm', hes⟩ := ty_Sl h5 q6
    simp only [List.cons.injEq, and_true] at e1 e2 e3 e4 e5 e6
    subst e1 e2 e3 e4 e5 e6
    obtain ⟨ks, rfl, hks⟩ := map_of2 (f := eQ) (p := okQ) (es := es) fun v hv => by
      obtain ⟨w1, w2⟩ := hes v hv
      obtain ⟨cs, rfl⟩ := st_agg h1 w2
      exact ih m' (by omega) cs w1
    refine ⟨.mk k t f a b ks, by simp [eQ, eQs_map], ?_⟩
    simp only [okQ]
    exact ⟨by simpa using b6, okQs_iff.2 hks⟩
def isSv (P : Program) (ti ts tb tq tql tk tkl tv : TypeId) : Bool := isSt P tv [ti, ti, tq, tkl] && isQ P ti ts tb tq tql && isKL P ts tk tkl && (P.cellsOf tq == 6)
theorem ty_Sv (h : isSv P ti ts tb tq tql tk tkl tv = true) (q : tyOk P n tv vs = true) : ∃ s : Sv, .agg vs = eSv s ∧ okQ s.q ∧ s.seen.length ≤ maxLen := by
  simp only [isSv, Bool.and_eq_true] at h
  obtain ⟨⟨⟨h1, hq⟩, hk⟩, h6⟩ := h
  have hq' := hq
  have hk' := hk
  simp only [isQ, Bool.and_eq_true] at hq'
  simp only [isKL, Bool.and_eq_true] at hk'
  have hi := hq'.1.1.1.2
  obtain ⟨m, hm, q⟩ := ty_St h1 q
  obtain ⟨v1, r1, rfl, q1, q⟩ := split1 (isI_c hi) q
  obtain ⟨v2, r2, rfl, q2, q⟩ := split1 (isI_c hi) q
  obtain ⟨vq, r3, rfl, hl, q3, q⟩ := splitN q
  obtain ⟨v4, r4, rfl, q4, q⟩ := split1 (isSl_c hk'.1.2) q
  cases q
  obtain ⟨i, e1, b1⟩ := ty_I hi q1
  obtain ⟨u, e2, b2⟩ := ty_I hi q2
  obtain ⟨d, e3, b3⟩ := ty_Q hq _ _ q3
  obtain ⟨l, e4, b4⟩ := ty_KL hk q4
  simp only [List.cons.injEq, and_true] at e1 e2 e4
  subst e1 e2 e4
  rw [eQ_eq] at e3
  injection e3 with e3
  subst e3
  exact ⟨⟨i, u, d, l⟩, rfl, b3, b4⟩
variable {w : World} {vv : VV} {v : Value}
theorem arg_Sv (h : isSv P ti ts tb tq tql tk tkl tv = true) (a : Arg P w tv vv v) : ∃ s : Sv, vv = eSv s ∧ okQ s.q ∧ s.seen.length ≤ maxLen := by
  obtain ⟨n, hn⟩ := a.ty
  have h' := h
  simp only [isSv, Bool.and_eq_true] at h'
  obtain ⟨cs, rfl⟩ := st_agg h'.1.1.1 a.st
  exact ty_Sv h hn
end
end Go.Proofs
