/- V, encodings: readable lists of keys, taken apart. -/
import Derived.Test.YtifahgjmdiandaaGreatDoorSA1
import Derived.Test.YtifahgjmdiandaaGreatDoorA4
set_option linter.unusedVariables false
namespace Go.Proofs
open Go.V Go.RowKit

section
variable {P : Program} {n : Nat} {vs : List VV} {ts tk tl : TypeId}
def isKL (P : Program) (ts tk tl : TypeId) : Bool := isS P ts && isSt P tk [ts, ts, ts] && isSl P tl tk && !isStruct P tl
theorem ty_Ky (h : isKL P ts tk tl = true) (q : tyOk P n tk vs = true) : ∃ g : Ky, .agg vs = eKy g := by
  simp only [isKL, Bool.and_eq_true] at h
  obtain ⟨⟨⟨hs, hk⟩, hl⟩, _⟩ := h
  obtain ⟨m, hm, q⟩ := ty_St hk q
  obtain ⟨v1, r1, rfl, q1, q⟩ := split1 (isS_c hs) q
  obtain ⟨v2, r2, rfl, q2, q⟩ := split1 (isS_c hs) q
  obtain ⟨v3, r3, rfl, q3, q⟩ := split1 (isS_c hs) q
  cases q
  obtain ⟨s1, e1, _⟩ := ty_S hs q1
  obtain ⟨s2, e2, _⟩ := ty_S hs q2
  obtain ⟨s3, e3, _⟩ := ty_S hs q3
  simp only [List.cons.injEq, and_true] at e1 e2 e3
  subst e1 e2 e3
  exact ⟨⟨s1, s2, s3⟩, rfl⟩
theorem ty_KL (h : isKL P ts tk tl = true) (q : tyOk P n tl vs = true) : ∃ l : List Ky, vs = [.sl (l.map eKy) 0] ∧ l.length ≤ maxLen := by
  have h' := h
  simp only [isKL, Bool.and_eq_true] at h'
  obtain ⟨⟨⟨hs, hk⟩, hl⟩, _⟩ := h'
  obtain ⟨es, rfl, b5, m', hm', hes⟩ := ty_Sl hl q
  obtain ⟨ks, rfl⟩ := map_of (f := eKy) (es := es) fun v hv => by
    obtain ⟨w1, w2⟩ := hes v hv
    obtain ⟨cs, rfl⟩ := st_agg hk w2
    exact ty_Ky h w1
  exact ⟨ks, rfl, by simpa using b5⟩
variable {w : World} {vv : VV} {v : Value}
theorem arg_KL (h : isKL P ts tk tl = true) (a : Arg P w tl vv v) : ∃ l : List Ky, vv = .sl (l.map eKy) 0 ∧ l.length ≤ maxLen := by
  obtain ⟨n, hn⟩ := a.ty
  have h' := h
  simp only [isKL, Bool.and_eq_true, Bool.not_eq_true'] at h'
  rw [st_cell h'.2 a.st] at hn
  obtain ⟨l, e, hl⟩ := ty_KL h hn
  simp only [List.cons.injEq, and_true] at e
  exact ⟨l, e, hl⟩
end
end Go.Proofs
