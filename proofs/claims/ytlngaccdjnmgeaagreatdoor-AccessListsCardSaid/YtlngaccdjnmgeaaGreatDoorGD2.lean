/- V, encodings: readable documents and pairs of policies, taken apart, with their sizes. -/
import Derived.Test.YtlngaccdjnmgeaaGreatDoorGD1
import Derived.Test.YtlngaccdjnmgeaaGreatDoorGT1
set_option linter.unusedVariables false
namespace Go.Proofs
open Go.V Go.RowKit

def szD (d : Dc) : Prop := I64 d.id ∧ szS d.repo ∧ szS d.path ∧ szS d.text ∧ d.on.length ≤ maxLen ∧ ∀ s ∈ d.on, szS s
def szT (t : Tw) : Prop := szP t.a ∧ szP t.b ∧ I64 t.user ∧ t.docs.length ≤ maxLen ∧ ∀ d ∈ t.docs, szD d
structure Tys2 extends Tys where
  d : TypeId
  dl : TypeId
  t : TypeId
def Tys2.ok2 (P : Program) (T : Tys2) : Bool := isSt P T.d [T.i, T.s, T.s, T.s, T.sl] && isSl P T.dl T.d && isSt P T.t [T.p, T.p, T.i, T.dl]
section
variable {P : Program} {n : Nat} {vs : List VV} {T : Tys2}
theorem ty_D (h : T.toTys.ok P = true) (h2 : T.ok2 P = true) (q : tyOk P n T.d vs = true) : ∃ g : Dc, .agg vs = eDc g ∧ szD g := by
  simp only [Tys.ok, Tys2.ok2, Bool.and_eq_true] at h h2
  obtain ⟨⟨⟨⟨⟨⟨⟨⟨⟨⟨h1, hs⟩, h3⟩, h4⟩, h5⟩, h6⟩, h7⟩, h8⟩, h9⟩, h10⟩, h11⟩ := h
  obtain ⟨m, hm, q⟩ := ty_St h2.1.1 q
  obtain ⟨v1, r1, rfl, q1, q⟩ := split1 (isI_c h1) q
  obtain ⟨v2, r2, rfl, q2, q⟩ := split1 (isS_c hs) q
  obtain ⟨v3, r3, rfl, q3, q⟩ := split1 (isS_c hs) q
  obtain ⟨v4, r4, rfl, q4, q⟩ := split1 (isS_c hs) q
  obtain ⟨v5, r5, rfl, q5, q⟩ := split1 (isSl_c h5) q
  cases q
  obtain ⟨b, e1, b1⟩ := ty_I h1 q1
  obtain ⟨s2, e2, b2⟩ := ty_S hs q2
  obtain ⟨s3, e3, b3⟩ := ty_S hs q3
  obtain ⟨s4, e4, b4⟩ := ty_S hs q4
  obtain ⟨s5, e5, b5⟩ := ty_SL hs h5 q5
  simp only [List.cons.injEq, and_true] at e1 e2 e3 e4 e5
  subst e1 e2 e3 e4 e5
  exact ⟨⟨b, s2, s3, s4, s5⟩, rfl, b1, b2, b3, b4, b5⟩
theorem ty_DL (h : T.toTys.ok P = true) (h2 : T.ok2 P = true) (q : tyOk P n T.dl vs = true) : ∃ l : List Dc, vs = [.sl (l.map eDc) 0] ∧ l.length ≤ maxLen ∧ ∀ u ∈ l, szD u := by
  have h' := h2
  simp only [Tys2.ok2, Bool.and_eq_true] at h'
  obtain ⟨es, rfl, b5, m', hm', hes⟩ := ty_Sl h'.1.2 q
  obtain ⟨ks, rfl, hks⟩ := map_of2 (f := eDc) (p := szD) (es := es) fun v hv => by
    obtain ⟨w1, w2⟩ := hes v hv
    obtain ⟨cs, rfl⟩ := st_agg h'.1.1 w2
    exact ty_D h h2 w1
  exact ⟨ks, rfl, by simpa using b5, hks⟩
theorem ty_T (h : T.toTys.ok P = true) (h2 : T.ok2 P = true) (q : tyOk P n T.t vs = true) : ∃ g : Tw, .agg vs = eTw g ∧ szT g := by
  have h' := h
  have h2' := h2
  simp only [Tys.ok, Tys2.ok2, Bool.and_eq_true] at h' h2'
  obtain ⟨⟨⟨⟨⟨⟨⟨⟨⟨⟨h1, hs⟩, h3⟩, h4⟩, h5⟩, h6⟩, h7⟩, h8⟩, h9⟩, h10⟩, h11⟩ := h'
  obtain ⟨m, hm, q⟩ := ty_St h2'.2 q
  obtain ⟨v1, r1, rfl, _, q1, q⟩ := splitN q
  obtain ⟨v2, r2, rfl, _, q2, q⟩ := splitN q
  obtain ⟨v3, r3, rfl, q3, q⟩ := split1 (isI_c h1) q
  obtain ⟨v4, r4, rfl, q4, q⟩ := split1 (isSl_c h2'.1.2) q
  cases q
  obtain ⟨a, e1, b1⟩ := ty_P h q1
  obtain ⟨b, e2, b2⟩ := ty_P h q2
  obtain ⟨u, e3, b3⟩ := ty_I h1 q3
  obtain ⟨l, e4, b4⟩ := ty_DL h h2 q4
  simp only [List.cons.injEq, and_true, ePol, VV.agg.injEq] at e1 e2 e3 e4
  subst e1 e2 e3 e4
  exact ⟨⟨a, b, u, l⟩, rfl, b1, b2, b3, b4⟩
variable {w : World} {vv : VV} {v : Value}
theorem arg_Tw (h : T.toTys.ok P = true) (h2 : T.ok2 P = true) (a : Arg P w T.t vv v) : ∃ p, vv = eTw p ∧ szT p := by
  obtain ⟨n, hn⟩ := a.ty
  have h' := h2
  simp only [Tys2.ok2, Bool.and_eq_true] at h'
  obtain ⟨cs, rfl⟩ := st_agg h'.2 a.st
  exact ty_T h h2 hn
end
end Go.Proofs
