/- V, encodings: readable answers, taken apart. -/
import Derived.Test.YteekodocdhapdaaGreatDoorSD3
import Derived.Test.YteekodocdhapdaaGreatDoorSQ1
set_option linter.unusedVariables false
namespace Go.Proofs
open Go.V Go.RowKit

section
variable {P : Program} {n : Nat} {vs : List VV} {ti tb tp tpl tr trl tg tgl ta : TypeId}
def isPg (P : Program) (ti tg tgl : TypeId) : Bool := isI P ti && isSt P tg [ti, ti, ti, ti] && isSl P tgl tg
def isAn (P : Program) (ti tb tp tpl tr trl tg tgl ta : TypeId) : Bool := isRs P ti tp tpl tr && isSl P trl tr && isPg P ti tg tgl && isB P tb && isSt P ta [trl, tgl, tb]
theorem ty_Pg (h : isPg P ti tg tgl = true) (q : tyOk P n tg vs = true) : ∃ g : Pg, .agg vs = ePg g := by
  simp only [isPg, Bool.and_eq_true] at h
  obtain ⟨⟨hi, hk⟩, _⟩ := h
  obtain ⟨m, hm, q⟩ := ty_St hk q
  obtain ⟨v1, r1, rfl, q1, q⟩ := split1 (isI_c hi) q
  obtain ⟨v2, r2, rfl, q2, q⟩ := split1 (isI_c hi) q
  obtain ⟨v3, r3, rfl, q3, q⟩ := split1 (isI_c hi) q
  obtain ⟨v4, r4, rfl, q4, q⟩ := split1 (isI_c hi) q
  cases q
  obtain ⟨s1, e1, b1⟩ := ty_I hi q1
  obtain ⟨s2, e2, b2⟩ := ty_I hi q2
  obtain ⟨s3, e3, b3⟩ := ty_I hi q3
  obtain ⟨s4, e4, b4⟩ := ty_I hi q4
  simp only [List.cons.injEq, and_true] at e1 e2 e3 e4
  subst e1 e2 e3 e4
  exact ⟨⟨s1, s2, s3, s4⟩, rfl⟩
theorem ty_PgL (h : isPg P ti tg tgl = true) (q : tyOk P n tgl vs = true) : ∃ l : List Pg, vs = [.sl (l.map ePg) 0] := by
  have h' := h
  simp only [isPg, Bool.and_eq_true] at h'
  obtain ⟨es, rfl, b5, m', hm', hes⟩ := ty_Sl h'.2 q
  obtain ⟨ks, rfl⟩ := map_of (f := ePg) (es := es) fun v hv => by
    obtain ⟨w1, w2⟩ := hes v hv
    obtain ⟨cs, rfl⟩ := st_agg h'.1.2 w2
    exact ty_Pg h w1
  exact ⟨ks, rfl⟩
theorem ty_An (h : isAn P ti tb tp tpl tr trl tg tgl ta = true) (q : tyOk P n ta vs = true) : ∃ a : An, .agg vs = eAn a ∧ ∀ d ∈ a.rs, okRs d := by
  simp only [isAn, Bool.and_eq_true] at h
  obtain ⟨⟨⟨⟨hr, hrl⟩, hg⟩, hb⟩, ha⟩ := h
  have hg' := hg
  simp only [isPg, Bool.and_eq_true] at hg'
  obtain ⟨m, hm, q⟩ := ty_St ha q
  obtain ⟨v1, r1, rfl, q1, q⟩ := split1 (isSl_c hrl) q
  obtain ⟨v2, r2, rfl, q2, q⟩ := split1 (isSl_c hg'.2) q
  obtain ⟨v3, r3, rfl, q3, q⟩ := split1 (isB_c hb) q
  cases q
  obtain ⟨l, e1, b1⟩ := ty_RL hr hrl q1
  obtain ⟨p, e2⟩ := ty_PgL hg q2
  obtain ⟨c, e3⟩ := ty_B hb q3
  simp only [List.cons.injEq, and_true] at e1 e2 e3
  subst e1 e2 e3
  exact ⟨⟨l, p, c⟩, rfl, b1.2⟩
theorem arg_An {w : World} {vv : VV} {v : Value} (h : isAn P ti tb tp tpl tr trl tg tgl ta = true) (a : Arg P w ta vv v) : ∃ r : An, vv = eAn r ∧ ∀ d ∈ r.rs, okRs d := by
  obtain ⟨n, hn⟩ := a.ty
  have h' := h
  simp only [isAn, Bool.and_eq_true] at h'
  obtain ⟨cs, rfl⟩ := st_agg h'.2 a.st
  exact ty_An h hn
end
end Go.Proofs
