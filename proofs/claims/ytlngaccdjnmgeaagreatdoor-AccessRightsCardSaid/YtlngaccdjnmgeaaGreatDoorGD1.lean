/- V, encodings: readable groups, rules, policies, asks, taken apart, with their sizes. -/
import Derived.Test.YtlngaccdjnmgeaaGreatDoorGC2
set_option linter.unusedVariables false
namespace Go.Proofs
open Go.V Go.RowKit

def szS (s : List UInt8) : Prop := s.length ≤ maxLen
def szG (g : Gp) : Prop := szS g.name ∧ (g.users.length ≤ maxLen ∧ ∀ u ∈ g.users, I64 u) ∧ g.groups.length ≤ maxLen ∧ ∀ s ∈ g.groups, szS s
def szR (r : Rl) : Prop := szS r.group ∧ szS r.repo ∧ szS r.glob
def szP (p : Pol) : Prop := (p.groups.length ≤ maxLen ∧ ∀ g ∈ p.groups, szG g) ∧ p.rules.length ≤ maxLen ∧ ∀ r ∈ p.rules, szR r
def szA (a : Ask) : Prop := I64 a.user ∧ szS a.repo ∧ szS a.path

/-- lists of whole numbers, of texts -/
def isIL (P : Program) (ti tl : TypeId) : Bool := isI P ti && isSl P tl ti
def isSL (P : Program) (ts tl : TypeId) : Bool := isS P ts && isSl P tl ts && !isStruct P ts
section
variable {P : Program} {n : Nat} {vs : List VV}
theorem isI_nst {t : TypeId} (h : isI P t = true) : isStruct P t = false := by
  unfold isI at h
  unfold isStruct
  cases hu : P.underlying t with
  | none => rfl
  | some d => rw [hu] at h; cases d <;> first | rfl | (cases h)
theorem isS_nst {t : TypeId} (h : isS P t = true) : isStruct P t = false := by
  unfold isS at h
  unfold isStruct
  cases hu : P.underlying t with
  | none => rfl
  | some d => rw [hu] at h; cases d <;> first | rfl | (cases h)
theorem ty_IL {ti tl : TypeId} (h1 : isI P ti = true) (h2 : isSl P tl ti = true) (q : tyOk P n tl vs = true) : ∃ l : List Int, vs = [.sl (l.map (VV.int .i64)) 0] ∧ l.length ≤ maxLen ∧ ∀ u ∈ l, I64 u := by
  obtain ⟨es, rfl, b5, m', hm', hes⟩ := ty_Sl h2 q
  obtain ⟨ks, rfl, hks⟩ := map_of2 (f := VV.int .i64) (p := I64) (es := es) fun v hv => by
    obtain ⟨w1, w2⟩ := hes v hv
    rw [st_cell (isI_nst h1) w2] at w1
    obtain ⟨k, e1, b1⟩ := ty_I h1 w1
    simp only [List.cons.injEq, and_true] at e1
    exact ⟨k, e1, b1⟩
  exact ⟨ks, rfl, by simpa using b5, hks⟩
theorem ty_SL {ts tl : TypeId} (h1 : isS P ts = true) (h2 : isSl P tl ts = true) (q : tyOk P n tl vs = true) : ∃ l : List (List UInt8), vs = [.sl (l.map VV.str) 0] ∧ l.length ≤ maxLen ∧ ∀ u ∈ l, szS u := by
  obtain ⟨es, rfl, b5, m', hm', hes⟩ := ty_Sl h2 q
  obtain ⟨ks, rfl, hks⟩ := map_of2 (f := VV.str) (p := szS) (es := es) fun v hv => by
    obtain ⟨w1, w2⟩ := hes v hv
    rw [st_cell (isS_nst h1) w2] at w1
    obtain ⟨k, e1, b1⟩ := ty_S h1 w1
    simp only [List.cons.injEq, and_true] at e1
    exact ⟨k, e1, b1⟩
  exact ⟨ks, rfl, by simpa using b5, hks⟩

/-- the types of the chapter: int, string, bool, []int, []string, Group, []Group, Rule, []Rule, Policy, Ask -/
structure Tys where
  i : TypeId
  s : TypeId
  b : TypeId
  il : TypeId
  sl : TypeId
  g : TypeId
  gl : TypeId
  r : TypeId
  rl : TypeId
  p : TypeId
  a : TypeId
def Tys.ok (P : Program) (T : Tys) : Bool :=
  isI P T.i && isS P T.s && isB P T.b && isSl P T.il T.i && isSl P T.sl T.s && isSt P T.g [T.s, T.il, T.sl] && isSl P T.gl T.g && isSt P T.r [T.b, T.s, T.s, T.s] && isSl P T.rl T.r && isSt P T.p [T.gl, T.rl] && isSt P T.a [T.i, T.s, T.s]

variable {T : Tys}
theorem ty_G (h : T.ok P = true) (q : tyOk P n T.g vs = true) : ∃ g : Gp, .agg vs = eGp g ∧ szG g := by
  simp only [Tys.ok, Bool.and_eq_true] at h
  obtain ⟨⟨⟨⟨⟨⟨⟨⟨⟨⟨h1, h2⟩, h3⟩, h4⟩, h5⟩, h6⟩, h7⟩, h8⟩, h9⟩, h10⟩, h11⟩ := h
  obtain ⟨m, hm, q⟩ := ty_St h6 q
  obtain ⟨v1, r1, rfl, q1, q⟩ := split1 (isS_c h2) q
  obtain ⟨v2, r2, rfl, q2, q⟩ := split1 (isSl_c h4) q
  obtain ⟨v3, r3, rfl, q3, q⟩ := split1 (isSl_c h5) q
  cases q
  obtain ⟨s, e1, b1⟩ := ty_S h2 q1
  obtain ⟨us, e2, b2⟩ := ty_IL h1 h4 q2
  obtain ⟨gs, e3, b3⟩ := ty_SL h2 h5 q3
  simp only [List.cons.injEq, and_true] at e1 e2 e3
  subst e1 e2 e3
  exact ⟨⟨s, us, gs⟩, rfl, b1, b2, b3⟩
theorem ty_R (h : T.ok P = true) (q : tyOk P n T.r vs = true) : ∃ g : Rl, .agg vs = eRl g ∧ szR g := by
  simp only [Tys.ok, Bool.and_eq_true] at h
  obtain ⟨⟨⟨⟨⟨⟨⟨⟨⟨⟨h1, h2⟩, h3⟩, h4⟩, h5⟩, h6⟩, h7⟩, h8⟩, h9⟩, h10⟩, h11⟩ := h
  obtain ⟨m, hm, q⟩ := ty_St h8 q
  obtain ⟨v1, r1, rfl, q1, q⟩ := split1 (isB_c h3) q
  obtain ⟨v2, r2, rfl, q2, q⟩ := split1 (isS_c h2) q
  obtain ⟨v3, r3, rfl, q3, q⟩ := split1 (isS_c h2) q
  obtain ⟨v4, r4, rfl, q4, q⟩ := split1 (isS_c h2) q
  cases q
  obtain ⟨b, e1⟩ := ty_B h3 q1
  obtain ⟨s2, e2, b2⟩ := ty_S h2 q2
  obtain ⟨s3, e3, b3⟩ := ty_S h2 q3
  obtain ⟨s4, e4, b4⟩ := ty_S h2 q4
  simp only [List.cons.injEq, and_true] at e1 e2 e3 e4
  subst e1 e2 e3 e4
  exact ⟨⟨b, s2, s3, s4⟩, rfl, b2, b3, b4⟩
theorem ty_GL (h : T.ok P = true) (q : tyOk P n T.gl vs = true) : ∃ l : List Gp, vs = [.sl (l.map eGp) 0] ∧ l.length ≤ maxLen ∧ ∀ u ∈ l, szG u := by
  have h' := h
  simp only [Tys.ok, Bool.and_eq_true] at h'
  obtain ⟨⟨⟨⟨⟨⟨⟨⟨⟨⟨h1, h2⟩, h3⟩, h4⟩, h5⟩, h6⟩, h7⟩, h8⟩, h9⟩, h10⟩, h11⟩ := h'
  obtain ⟨es, rfl, b5, m', hm', hes⟩ := ty_Sl h7 q
  obtain ⟨ks, rfl, hks⟩ := map_of2 (f := eGp) (p := szG) (es := es) fun v hv => by
    obtain ⟨w1, w2⟩ := hes v hv
    obtain ⟨cs, rfl⟩ := st_agg h6 w2
    exact ty_G h w1
  exact ⟨ks, rfl, by simpa using b5, hks⟩
theorem ty_RL (h : T.ok P = true) (q : tyOk P n T.rl vs = true) : ∃ l : List Rl, vs = [.sl (l.map eRl) 0] ∧ l.length ≤ maxLen ∧ ∀ u ∈ l, szR u := by
  have h' := h
  simp only [Tys.ok, Bool.and_eq_true] at h'
  obtain ⟨⟨⟨⟨⟨⟨⟨⟨⟨⟨h1, h2⟩, h3⟩, h4⟩, h5⟩, h6⟩, h7⟩, h8⟩, h9⟩, h10⟩, h11⟩ := h'
  obtain ⟨es, rfl, b5, m', hm', hes⟩ := ty_Sl h9 q
  obtain ⟨ks, rfl, hks⟩ := map_of2 (f := eRl) (p := szR) (es := es) fun v hv => by
    obtain ⟨w1, w2⟩ := hes v hv
    obtain ⟨cs, rfl⟩ := st_agg h8 w2
    exact ty_R h w1
  exact ⟨ks, rfl, by simpa using b5, hks⟩
theorem ty_P (h : T.ok P = true) (q : tyOk P n T.p vs = true) : ∃ g : Pol, .agg vs = ePol g ∧ szP g := by
  have h' := h
  simp only [Tys.ok, Bool.and_eq_true] at h'
  obtain ⟨⟨⟨⟨⟨⟨⟨⟨⟨⟨h1, h2⟩, h3⟩, h4⟩, h5⟩, h6⟩, h7⟩, h8⟩, h9⟩, h10⟩, h11⟩ := h'
  obtain ⟨m, hm, q⟩ := ty_St h10 q
  obtain ⟨v1, r1, rfl, q1, q⟩ := split1 (isSl_c h7) q
  obtain ⟨v2, r2, rfl, q2, q⟩ := split1 (isSl_c h9) q
  cases q
  obtain ⟨gs, e1, b1⟩ := ty_GL h q1
  obtain ⟨rs, e2, b2⟩ := ty_RL h q2
  simp only [List.cons.injEq, and_true] at e1 e2
  subst e1 e2
  exact ⟨⟨gs, rs⟩, rfl, b1, b2⟩
theorem ty_A (h : T.ok P = true) (q : tyOk P n T.a vs = true) : ∃ g : Ask, .agg vs = eAsk g ∧ szA g := by
  simp only [Tys.ok, Bool.and_eq_true] at h
  obtain ⟨⟨⟨⟨⟨⟨⟨⟨⟨⟨h1, h2⟩, h3⟩, h4⟩, h5⟩, h6⟩, h7⟩, h8⟩, h9⟩, h10⟩, h11⟩ := h
  obtain ⟨m, hm, q⟩ := ty_St h11 q
  obtain ⟨v1, r1, rfl, q1, q⟩ := split1 (isI_c h1) q
  obtain ⟨v2, r2, rfl, q2, q⟩ := split1 (isS_c h2) q
  obtain ⟨v3, r3, rfl, q3, q⟩ := split1 (isS_c h2) q
  cases q
  obtain ⟨b, e1, b1⟩ := ty_I h1 q1
  obtain ⟨s2, e2, b2⟩ := ty_S h2 q2
  obtain ⟨s3, e3, b3⟩ := ty_S h2 q3
  simp only [List.cons.injEq, and_true] at e1 e2 e3
  subst e1 e2 e3
  exact ⟨⟨b, s2, s3⟩, rfl, b1, b2, b3⟩
variable {w : World} {vv : VV} {v : Value}
theorem arg_Pol (h : T.ok P = true) (a : Arg P w T.p vv v) : ∃ p, vv = ePol p ∧ szP p := by
  obtain ⟨n, hn⟩ := a.ty
  have h' := h
  simp only [Tys.ok, Bool.and_eq_true] at h'
  obtain ⟨cs, rfl⟩ := st_agg h'.1.2 a.st
  exact ty_P h hn
theorem arg_Ask (h : T.ok P = true) (a : Arg P w T.a vv v) : ∃ p, vv = eAsk p ∧ szA p := by
  obtain ⟨n, hn⟩ := a.ty
  have h' := h
  simp only [Tys.ok, Bool.and_eq_true] at h'
  obtain ⟨cs, rfl⟩ := st_agg h'.2 a.st
  exact ty_A h hn
theorem arg_Rls (h : T.ok P = true) (hs : isStruct P T.rl = false) (a : Arg P w T.rl vv v) : ∃ l : List Rl, vv = .sl (l.map eRl) 0 ∧ l.length ≤ maxLen ∧ ∀ u ∈ l, szR u := by
  obtain ⟨n, hn⟩ := a.ty
  rw [st_cell hs a.st] at hn
  obtain ⟨l, e, b⟩ := ty_RL h hn
  simp only [List.cons.injEq, and_true] at e
  exact ⟨l, e, b⟩
end
end Go.Proofs
