/- V, encodings: readable lists of documents and of results, taken apart. -/
import Derived.Test.YtglabjcjfjlkoaaGreatDoorSO3
import Derived.Test.YtglabjcjfjlkoaaGreatDoorA4
set_option linter.unusedVariables false
namespace Go.Proofs
open Go.V Go.RowKit

def okDc (d : Dc) : Prop := I64 d.id ∧ d.repo.length ≤ maxLen ∧ d.path.length ≤ maxLen ∧ d.text.length ≤ maxLen
def okRs (r : Rs) : Prop := I64 r.doc ∧ I64 r.sc ∧ r.sp.length ≤ maxLen
section
variable {P : Program} {n : Nat} {vs : List VV} {ti ts tsl td tdl tp tpl tr trl : TypeId}
theorem isS_ns (h : isS P ts = true) : isStruct P ts = false := by
  unfold isS at h
  unfold isStruct
  split at h
  · rename_i hu; rw [hu]
  · cases h
def isDL (P : Program) (ti ts tsl td tdl : TypeId) : Bool := isI P ti && isS P ts && isSl P tsl ts && isSt P td [ti, ts, ts, ts, tsl] && isSl P tdl td && !isStruct P tdl
def isRs (P : Program) (ti tp tpl tr : TypeId) : Bool := isI P ti && isSt P tp [ti, ti] && isSl P tpl tp && isSt P tr [ti, ti, tpl]
theorem ty_strs (h1 : isS P ts = true) (h2 : isSl P tsl ts = true) (q : tyOk P n tsl vs = true) : ∃ l : List (List UInt8), vs = [.sl (l.map VV.str) 0] ∧ l.length ≤ maxLen := by
  obtain ⟨es, rfl, b5, m', hm', hes⟩ := ty_Sl h2 q
  obtain ⟨ks, rfl⟩ := map_of (f := VV.str) (es := es) fun v hv => by
    obtain ⟨w1, w2⟩ := hes v hv
    rw [st_cell (isS_ns h1) w2] at w1
    obtain ⟨k, e1, b1⟩ := ty_S h1 w1
    simp only [List.cons.injEq, and_true] at e1
    exact ⟨k, e1⟩
  exact ⟨ks, rfl, by simpa using b5⟩
theorem ty_Dc (h : isDL P ti ts tsl td tdl = true) (q : tyOk P n td vs = true) : ∃ g : Dc, .agg vs = eDc g ∧ okDc g := by
  simp only [isDL, Bool.and_eq_true] at h
  obtain ⟨⟨⟨⟨⟨hi, hs⟩, hsl⟩, hk⟩, hl⟩, _⟩ := h
  obtain ⟨m, hm, q⟩ := ty_St hk q
  obtain ⟨v1, r1, rfl, q1, q⟩ := split1 (isI_c hi) q
  obtain ⟨v2, r2, rfl, q2, q⟩ := split1 (isS_c hs) q
  obtain ⟨v3, r3, rfl, q3, q⟩ := split1 (isS_c hs) q
  obtain ⟨v4, r4, rfl, q4, q⟩ := split1 (isS_c hs) q
  obtain ⟨v5, r5, rfl, q5, q⟩ := split1 (isSl_c hsl) q
  cases q
  obtain ⟨s1, e1, b1⟩ := ty_I hi q1
  obtain ⟨s2, e2, b2⟩ := ty_S hs q2
  obtain ⟨s3, e3, b3⟩ := ty_S hs q3
  obtain ⟨s4, e4, b4⟩ := ty_S hs q4
  obtain ⟨s5, e5, b5⟩ := ty_strs hs hsl q5
  simp only [List.cons.injEq, and_true] at e1 e2 e3 e4 e5
  subst e1 e2 e3 e4 e5
  exact ⟨⟨s1, s2, s3, s4, s5⟩, rfl, b1, b2, b3, b4⟩
theorem ty_Sp (hi : isI P ti = true) (hp : isSt P tp [ti, ti] = true) (q : tyOk P n tp vs = true) : ∃ g : Int × Int, .agg vs = eSp g := by
  obtain ⟨m, hm, q⟩ := ty_St hp q
  obtain ⟨v1, r1, rfl, q1, q⟩ := split1 (isI_c hi) q
  obtain ⟨v2, r2, rfl, q2, q⟩ := split1 (isI_c hi) q
  cases q
  obtain ⟨s1, e1, b1⟩ := ty_I hi q1
  obtain ⟨s2, e2, b2⟩ := ty_I hi q2
  simp only [List.cons.injEq, and_true] at e1 e2
  subst e1 e2
  exact ⟨(s1, s2), rfl⟩
theorem ty_Rs (h : isRs P ti tp tpl tr = true) (q : tyOk P n tr vs = true) : ∃ g : Rs, .agg vs = eRs g ∧ okRs g := by
  simp only [isRs, Bool.and_eq_true] at h
  obtain ⟨⟨⟨hi, hp⟩, hpl⟩, hr⟩ := h
  obtain ⟨m, hm, q⟩ := ty_St hr q
  obtain ⟨v1, r1, rfl, q1, q⟩ := split1 (isI_c hi) q
  obtain ⟨v2, r2, rfl, q2, q⟩ := split1 (isI_c hi) q
  obtain ⟨v3, r3, rfl, q3, q⟩ := split1 (isSl_c hpl) q
  cases q
  obtain ⟨s1, e1, b1⟩ := ty_I hi q1
  obtain ⟨s2, e2, b2⟩ := ty_I hi q2
  obtain ⟨es, e3, b3, m', hm', hes⟩ := ty_Sl hpl q3
  obtain ⟨ks, rfl⟩ := map_of (f := eSp) (es := es) fun v hv => by
    obtain ⟨w1, w2⟩ := hes v hv
    obtain ⟨cs, rfl⟩ := st_agg hp w2
    exact ty_Sp hi hp w1
  simp only [List.cons.injEq, and_true] at e1 e2 e3
  subst e1 e2 e3
  exact ⟨⟨s1, s2, ks⟩, rfl, b1, b2, by simpa using b3⟩
theorem ty_DL (h : isDL P ti ts tsl td tdl = true) (q : tyOk P n tdl vs = true) : ∃ l : List Dc, vs = [.sl (l.map eDc) 0] ∧ l.length ≤ maxLen ∧ ∀ d ∈ l, okDc d := by
  have h' := h
  simp only [isDL, Bool.and_eq_true] at h'
  obtain ⟨⟨⟨_, hk⟩, hl⟩, _⟩ := h'
  obtain ⟨es, rfl, b5, m', hm', hes⟩ := ty_Sl hl q
  obtain ⟨ks, rfl, hks⟩ := map_of2 (f := eDc) (p := okDc) (es := es) fun v hv => by
    obtain ⟨w1, w2⟩ := hes v hv
    obtain ⟨cs, rfl⟩ := st_agg hk w2
    exact ty_Dc h w1
  exact ⟨ks, rfl, by simpa using b5, hks⟩
theorem ty_RL (h : isRs P ti tp tpl tr = true) (hl : isSl P trl tr = true) (q : tyOk P n trl vs = true) : ∃ l : List Rs, vs = [.sl (l.map eRs) 0] ∧ l.length ≤ maxLen ∧ ∀ d ∈ l, okRs d := by
  have h' := h
  simp only [isRs, Bool.and_eq_true] at h'
  obtain ⟨es, rfl, b5, m', hm', hes⟩ := ty_Sl hl q
  obtain ⟨ks, rfl, hks⟩ := map_of2 (f := eRs) (p := okRs) (es := es) fun v hv => by
    obtain ⟨w1, w2⟩ := hes v hv
    obtain ⟨cs, rfl⟩ := st_agg h'.2 w2
    exact ty_Rs h w1
  exact ⟨ks, rfl, by simpa using b5, hks⟩
variable {w : World} {vv : VV} {v : Value}
theorem arg_DL (h : isDL P ti ts tsl td tdl = true) (a : Arg P w tdl vv v) : ∃ l : List Dc, vv = .sl (l.map eDc) 0 ∧ l.length ≤ maxLen ∧ ∀ d ∈ l, okDc d := by
  obtain ⟨n, hn⟩ := a.ty
  have h' := h
  simp only [isDL, Bool.and_eq_true, Bool.not_eq_true'] at h'
  rw [st_cell h'.2 a.st] at hn
  obtain ⟨l, e, hl⟩ := ty_DL h hn
  simp only [List.cons.injEq, and_true] at e
  exact ⟨l, e, hl⟩
theorem arg_RL (h : isRs P ti tp tpl tr = true) (hl : isSl P trl tr = true) (hn : isStruct P trl = false) (a : Arg P w trl vv v) : ∃ l : List Rs, vv = .sl (l.map eRs) 0 ∧ l.length ≤ maxLen ∧ ∀ d ∈ l, okRs d := by
  obtain ⟨n, hq⟩ := a.ty
  rw [st_cell hn a.st] at hq
  obtain ⟨l, e, hl⟩ := ty_RL h hl hq
  simp only [List.cons.injEq, and_true] at e
  exact ⟨l, e, hl⟩
theorem arg_Rs (h : isRs P ti tp tpl tr = true) (a : Arg P w tr vv v) : ∃ r : Rs, vv = eRs r ∧ okRs r := by
  obtain ⟨n, hn⟩ := a.ty
  have h' := h
  simp only [isRs, Bool.and_eq_true] at h'
  obtain ⟨cs, rfl⟩ := st_agg h'.2 a.st
  exact ty_Rs h hn
def isA2 (P : Program) (t e : TypeId) : Bool := match P.underlying t with | some (.array 2 e') => e' == e && P.cellsOf e == 1 | _ => false
theorem ty_A2 {t e : TypeId} (h : isA2 P t e = true) (q : tyOk P n t vs = true) : ∃ m v1 v2, vs = [v1, v2] ∧ tyOk P m e [v1] = true ∧ tyOk P m e [v2] = true := by
  unfold isA2 at h
  split at h
  · rename_i e' hu
    simp only [Bool.and_eq_true, beq_iff_eq] at h
    obtain ⟨rfl, hc⟩ := h
    cases n with
    | zero => cases q
    | succ n =>
      unfold tyOk at q
      rw [hu] at q
      simp only [arrL, fieldsOk, hc, Bool.and_eq_true, decide_eq_true_eq] at q
      obtain ⟨⟨l1, q1⟩, ⟨l2, q2⟩, q3⟩ := q
      match vs, l1, l2, q1, q2, q3 with
      | [v1, v2], _, _, q1, q2, _ => exact ⟨n, v1, v2, rfl, q1, q2⟩
      | _ :: _ :: _ :: _, _, _, _, _, q3 => simp at q3
  · cases h
theorem arg_R2 {t : TypeId} (h : isRs P ti tp tpl tr = true) (hl : isSl P trl tr = true) (h2 : isA2 P t trl = true) (a : Arg P w t vv v) :
    ∃ l m : List Rs, vv = .agg [.sl (l.map eRs) 0, .sl (m.map eRs) 0] ∧ l.length ≤ maxLen ∧ m.length ≤ maxLen ∧ (∀ d ∈ l, okRs d) ∧ ∀ d ∈ m, okRs d := by
  obtain ⟨n, hq⟩ := a.ty
  have hs : ∃ cs, vv = .agg cs := by
    have hst := a.st
    have his : isStruct P t = true := by
      unfold isA2 at h2
      unfold isStruct
      split at h2
      · rename_i hu; rw [hu]
      · cases h2
    cases vv <;> first | exact ⟨_, rfl⟩ | (simp only [stOk, his] at hst; cases hst)
  obtain ⟨cs, rfl⟩ := hs
  obtain ⟨m, v1, v2, e, q1, q2⟩ := ty_A2 h2 hq
  simp only [VV.cells] at e
  subst e
  obtain ⟨l, e1, h1⟩ := ty_RL h hl q1
  obtain ⟨k, e2, h2⟩ := ty_RL h hl q2
  simp only [List.cons.injEq, and_true] at e1 e2
  subst e1 e2
  exact ⟨l, k, rfl, h1.1, h2.1, h1.2, h2.2⟩
end
end Go.Proofs
