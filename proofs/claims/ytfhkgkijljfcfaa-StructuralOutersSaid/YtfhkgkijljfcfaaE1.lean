/- V, encodings 1: readable data of a type, taken apart; nodes. -/
import Derived.Test.YtfhkgkijljfcfaaV27
import Derived.Test.YtfhkgkijljfcfaaV29
set_option linter.unusedVariables false
set_option linter.unusedSimpArgs false
namespace Go.V
open Go.RowKit

def isI (P : Program) (t : TypeId) : Bool := match P.underlying t with | some (.int .i64) => P.cellsOf t == 1 | _ => false
def isS (P : Program) (t : TypeId) : Bool := match P.underlying t with | some .string => P.cellsOf t == 1 | _ => false
def isB (P : Program) (t : TypeId) : Bool := match P.underlying t with | some .bool => P.cellsOf t == 1 | _ => false
def isSl (P : Program) (t e : TypeId) : Bool := match P.underlying t with | some (.slice e') => e' == e && P.cellsOf t == 1 | _ => false
def isSt (P : Program) (t : TypeId) (l : List TypeId) : Bool := match P.underlying t with | some (.struct fs) => fs.toList.map Field.type == l | _ => false

def I64 (m : Int) : Prop := -9223372036854775808 ≤ m ∧ m ≤ 9223372036854775807

section
variable {P : Program} {n : Nat} {t e : TypeId} {vs : List VV}

theorem ty_I (h : isI P t = true) (q : tyOk P n t vs = true) : ∃ m, vs = [.int .i64 m] ∧ I64 m := by
  unfold isI at h
  split at h
  · rename_i hu
    cases n with
    | zero => cases q
    | succ n =>
      unfold tyOk at q
      rw [hu] at q
      match vs, q with
      | [.int k' m], q =>
        simp only [Bool.and_eq_true, decide_eq_true_eq] at q
        obtain ⟨rfl, hw⟩ := q
        refine ⟨_, rfl, ?_⟩
        simp [Lit.wf, IntKind.min, IntKind.max, IntKind.signed, IntKind.bits] at hw
        exact ⟨by omega, by omega⟩
  · cases h

theorem ty_S (h : isS P t = true) (q : tyOk P n t vs = true) : ∃ s, vs = [.str s] ∧ s.length ≤ maxLen := by
  unfold isS at h
  split at h
  · rename_i hu
    cases n with
    | zero => cases q
    | succ n =>
      unfold tyOk at q
      rw [hu] at q
      match vs, q with
      | [.str s], q => exact ⟨s, rfl, by simpa using q⟩
  · cases h

theorem ty_B (h : isB P t = true) (q : tyOk P n t vs = true) : ∃ b, vs = [.bool b] := by
  unfold isB at h
  split at h
  · rename_i hu
    cases n with
    | zero => cases q
    | succ n =>
      unfold tyOk at q
      rw [hu] at q
      match vs, q with
      | [.bool s], q => exact ⟨s, rfl⟩
  · cases h

theorem ty_Sl (h : isSl P t e = true) (q : tyOk P n t vs = true) : ∃ es, vs = [.sl es 0] ∧ es.length ≤ maxLen ∧ ∃ m, m < n ∧ ∀ v ∈ es, tyOk P m e v.cells = true ∧ stOk P e v = true := by
  unfold isSl at h
  split at h
  · rename_i e' hu
    simp only [Bool.and_eq_true, beq_iff_eq] at h
    obtain ⟨rfl, _⟩ := h
    cases n with
    | zero => cases q
    | succ n =>
      unfold tyOk at q
      rw [hu] at q
      match vs, q with
      | [.sl es tk], q =>
        simp only [Bool.and_eq_true, beq_iff_eq, decide_eq_true_eq, List.all_eq_true] at q
        obtain ⟨⟨rfl, hl⟩, ha⟩ := q
        exact ⟨es, rfl, hl, n, Nat.lt_succ_self _, ha⟩
  · cases h

def splitTy (P : Program) (n : Nat) : List TypeId → List VV → Prop
  | [], vs => vs = []
  | t :: l, vs => P.cellsOf t ≤ vs.length ∧ tyOk P n t (vs.take (P.cellsOf t)) = true ∧ splitTy P n l (vs.drop (P.cellsOf t))

theorem ty_St {l : List TypeId} (h : isSt P t l = true) (q : tyOk P n t vs = true) : ∃ m, m < n ∧ splitTy P m l vs := by
  unfold isSt at h
  split at h
  · rename_i fs hu
    simp only [beq_iff_eq] at h
    cases n with
    | zero => cases q
    | succ n =>
      unfold tyOk at q
      rw [hu] at q
      refine ⟨n, Nat.lt_succ_self _, ?_⟩
      subst h
      have key : ∀ (l : List Field) (vs : List VV), fieldsOk P (tyOk P n) l vs = true → splitTy P n (l.map Field.type) vs := by
        intro l
        induction l with
        | nil => intro vs hv; simpa [fieldsOk, splitTy] using hv
        | cons f l ih =>
          intro vs hv
          simp only [fieldsOk, Bool.and_eq_true, decide_eq_true_eq] at hv
          exact ⟨hv.1.1, hv.1.2, ih _ hv.2⟩
      have q' : fieldsOk P (tyOk P n) fs.toList vs = true := by
        match vs, q with
        | [], q => exact q
        | _ :: _, q => exact q
      exact key _ _ q'
  · cases h

theorem split1 {l : List TypeId} (hc : P.cellsOf t = 1) (q : splitTy P n (t :: l) vs) : ∃ v r, vs = v :: r ∧ tyOk P n t [v] = true ∧ splitTy P n l r := by
  obtain ⟨h1, h2, h3⟩ := q
  rw [hc] at h1 h2 h3
  match vs, h1 with
  | v :: r, _ => exact ⟨v, r, rfl, by simpa using h2, by simpa using h3⟩

theorem splitN {l : List TypeId} (q : splitTy P n (t :: l) vs) : ∃ a r, vs = a ++ r ∧ a.length = P.cellsOf t ∧ tyOk P n t a = true ∧ splitTy P n l r := by
  obtain ⟨h1, h2, h3⟩ := q
  exact ⟨_, _, (List.take_append_drop _ vs).symm, by simp; omega, h2, h3⟩

theorem isI_c (h : isI P t = true) : P.cellsOf t = 1 := by
  unfold isI at h; split at h
  · simpa using h
  · cases h
theorem isS_c (h : isS P t = true) : P.cellsOf t = 1 := by
  unfold isS at h; split at h
  · simpa using h
  · cases h
theorem isB_c (h : isB P t = true) : P.cellsOf t = 1 := by
  unfold isB at h; split at h
  · simpa using h
  · cases h
theorem isSl_c (h : isSl P t e = true) : P.cellsOf t = 1 := by
  unfold isSl at h; split at h
  · simp only [Bool.and_eq_true, beq_iff_eq] at h; exact h.2
  · cases h

theorem isSt_st {l : List TypeId} (h : isSt P t l = true) : isStruct P t = true := by
  unfold isSt at h
  unfold isStruct
  split at h
  · rename_i hu; rw [hu]
  · cases h
theorem st_agg {l : List TypeId} {v : VV} (h : isSt P t l = true) (q : stOk P t v = true) : ∃ cs, v = .agg cs := by
  cases v <;> first | exact ⟨_, rfl⟩ | (simp only [stOk, isSt_st h] at q; cases q)
theorem st_cell {v : VV} (h : isStruct P t = false) (q : stOk P t v = true) : v.cells = [v] := by
  cases v <;> first | rfl | (simp only [stOk, h] at q; cases q)

/-- a list whose members are codes of things -/
theorem map_of {α : Type} {f : α → VV} : ∀ {es : List VV}, (∀ v ∈ es, ∃ a, v = f a) → ∃ l : List α, es = l.map f
  | [], _ => ⟨[], rfl⟩
  | v :: r, h => by
    obtain ⟨a, ha⟩ := h v (by simp)
    obtain ⟨l, hl⟩ := map_of (es := r) fun u hu => h u (by simp [hu])
    exact ⟨a :: l, by simp [ha, hl]⟩
theorem map_of2 {α : Type} {f : α → VV} {p : α → Prop} : ∀ {es : List VV}, (∀ v ∈ es, ∃ a, v = f a ∧ p a) → ∃ l : List α, es = l.map f ∧ ∀ a ∈ l, p a
  | [], _ => ⟨[], rfl, nofun⟩
  | v :: r, h => by
    obtain ⟨a, ha, hp⟩ := h v (by simp)
    obtain ⟨l, hl, hq⟩ := map_of2 (es := r) fun u hu => h u (by simp [hu])
    exact ⟨a :: l, by simp [ha, hl], by simpa using ⟨hp, hq⟩⟩
end

/-- a node: kind, text, its place, its kids -/
inductive Nd where
  | mk (kind : Int) (text : List UInt8) (at_ en : Int) (kids : List Nd)

mutual
def eN : Nd → VV
  | .mk k t a e ks => .agg [.int .i64 k, .str t, .int .i64 a, .int .i64 e, .sl (eNs ks) 0]
def eNs : List Nd → List VV
  | [] => []
  | n :: r => eN n :: eNs r
end
def Nd.kids : Nd → List Nd | .mk _ _ _ _ ks => ks
def Nd.kind : Nd → Int | .mk k _ _ _ _ => k
def Nd.text : Nd → List UInt8 | .mk _ t _ _ _ => t
def Nd.at' : Nd → Int | .mk _ _ a _ _ => a
def Nd.en : Nd → Int | .mk _ _ _ e _ => e

theorem eNs_map : ∀ l : List Nd, eNs l = l.map eN
  | [] => by simp [eNs]
  | n :: r => by simp [eNs, eNs_map r]
theorem eNs_len (l : List Nd) : (eNs l).length = l.length := by simp [eNs_map]
theorem eNs_get (l : List Nd) (i : Nat) : (eNs l)[i]? = l[i]?.map eN := by simp [eNs_map]

mutual
/-- sizes of readable nodes -/
def okN : Nd → Prop
  | .mk k t a e ks => I64 k ∧ I64 a ∧ I64 e ∧ t.length ≤ maxLen ∧ ks.length ≤ maxLen ∧ okNs ks
def okNs : List Nd → Prop
  | [] => True
  | n :: r => okN n ∧ okNs r
end
theorem okNs_iff : ∀ {l : List Nd}, okNs l ↔ ∀ n ∈ l, okN n
  | [] => by simp [okNs]
  | n :: r => by simp [okNs, okNs_iff (l := r)]

/-- node, list of nodes -/
def isNode (P : Program) (tn ti ts tl : TypeId) : Bool := isSt P tn [ti, ts, ti, ti, tl] && isI P ti && isS P ts && isSl P tl tn

theorem ty_N {P : Program} {tn ti ts tl : TypeId} (h : isNode P tn ti ts tl = true) : ∀ (n : Nat) (vs : List VV), tyOk P n tn vs = true → ∃ d, .agg vs = eN d ∧ okN d := by
  simp only [isNode, Bool.and_eq_true] at h
  obtain ⟨⟨⟨h1, h2⟩, h3⟩, h4⟩ := h
  intro n
  induction n using Nat.strongRecOn with
  | _ n ih =>
    intro vs q
    obtain ⟨m, hm, q⟩ := ty_St h1 q
    obtain ⟨v1, r1, rfl, q1, q⟩ := split1 (isI_c h2) q
    obtain ⟨v2, r2, rfl, q2, q⟩ := split1 (isS_c h3) q
    obtain ⟨v3, r3, rfl, q3, q⟩ := split1 (isI_c h2) q
    obtain ⟨v4, r4, rfl, q4, q⟩ := split1 (isI_c h2) q
    obtain ⟨v5, r5, rfl, q5, q⟩ := split1 (isSl_c h4) q
    cases q
    obtain ⟨k, e1, b1⟩ := ty_I h2 q1
    obtain ⟨t, e2, b2⟩ := ty_S h3 q2
    obtain ⟨a, e3, b3⟩ := ty_I h2 q3
    obtain ⟨e, e4, b4⟩ := ty_I h2 q4
    obtain ⟨es, e5, b5, m', hm', hes⟩ := ty_Sl h4 q5
    simp only [List.cons.injEq, and_true] at e1 e2 e3 e4 e5
    subst e1 e2 e3 e4 e5
    obtain ⟨ks, rfl, hks⟩ := map_of2 (f := eN) (p := okN) (es := es) fun v hv => by
      obtain ⟨w1, w2⟩ := hes v hv
      obtain ⟨cs, rfl⟩ := st_agg h1 w2
      exact ih m' (by omega) cs w1
    refine ⟨.mk k t a e ks, by simp [eN, eNs_map], ?_⟩
    simp only [okN]
    exact ⟨b1, b3, b4, b2, by simpa using b5, okNs_iff.2 hks⟩

theorem ty_NL {P : Program} {tn ti ts tl : TypeId} (h : isNode P tn ti ts tl = true) {n : Nat} {vs : List VV} (q : tyOk P n tl vs = true) : ∃ l : List Nd, vs = [.sl (l.map eN) 0] ∧ l.length ≤ maxLen ∧ ∀ d ∈ l, okN d := by
  have h' := h
  simp only [isNode, Bool.and_eq_true] at h'
  obtain ⟨⟨⟨h1, h2⟩, h3⟩, h4⟩ := h'
  obtain ⟨es, rfl, b5, m', hm', hes⟩ := ty_Sl h4 q
  obtain ⟨ks, rfl, hks⟩ := map_of2 (f := eN) (p := okN) (es := es) fun v hv => by
    obtain ⟨w1, w2⟩ := hes v hv
    obtain ⟨cs, rfl⟩ := st_agg h1 w2
    exact ty_N h m' cs w1
  exact ⟨ks, rfl, by simpa using b5, hks⟩

/-- bindings -/
abbrev Bd := List UInt8 × List Nd
def eB (b : Bd) : VV := .agg [.str b.1, .sl (b.2.map eN) 0]
def isBdL (P : Program) (tn ti ts tl tb tbl : TypeId) : Bool := isNode P tn ti ts tl && isSt P tb [ts, tl] && isSl P tbl tb

theorem ty_BL {P : Program} {tn ti ts tl tb tbl : TypeId} (h : isBdL P tn ti ts tl tb tbl = true) {n : Nat} {vs : List VV} (q : tyOk P n tbl vs = true) :
    ∃ l : List Bd, vs = [.sl (l.map eB) 0] ∧ l.length ≤ maxLen ∧ ∀ b ∈ l, b.1.length ≤ maxLen ∧ b.2.length ≤ maxLen ∧ ∀ d ∈ b.2, okN d := by
  simp only [isBdL, Bool.and_eq_true] at h
  obtain ⟨⟨h1, h2⟩, h3⟩ := h
  have h1' := h1
  simp only [isNode, Bool.and_eq_true] at h1'
  obtain ⟨es, rfl, b5, m', hm', hes⟩ := ty_Sl h3 q
  obtain ⟨ks, rfl, hks⟩ := map_of2 (f := eB) (p := fun b => b.1.length ≤ maxLen ∧ b.2.length ≤ maxLen ∧ ∀ d ∈ b.2, okN d) (es := es) fun v hv => by
    obtain ⟨w1, w2⟩ := hes v hv
    obtain ⟨cs, rfl⟩ := st_agg h2 w2
    obtain ⟨m, hm, q⟩ := ty_St h2 w1
    obtain ⟨v1, r1, rfl, q1, q⟩ := split1 (isS_c h1'.1.2) q
    obtain ⟨v2, r2, rfl, q2, q⟩ := split1 (isSl_c h1'.2) q
    cases q
    obtain ⟨t, e2, b2⟩ := ty_S h1'.1.2 q1
    obtain ⟨l, e3, b3, b4⟩ := ty_NL h1 q2
    simp only [List.cons.injEq, and_true] at e2 e3
    subst e2 e3
    exact ⟨(t, l), rfl, b2, b3, b4⟩
  exact ⟨ks, rfl, by simpa using b5, hks⟩

/-- spans -/
def eSp (b : Int × Int) : VV := .agg [.int .i64 b.1, .int .i64 b.2]
def isSpL (P : Program) (ti tp tpl : TypeId) : Bool := isI P ti && isSt P tp [ti, ti] && isSl P tpl tp
theorem ty_SpL {P : Program} {ti tp tpl : TypeId} (h : isSpL P ti tp tpl = true) {n : Nat} {vs : List VV} (q : tyOk P n tpl vs = true) :
    ∃ l : List (Int × Int), vs = [.sl (l.map eSp) 0] ∧ l.length ≤ maxLen ∧ ∀ b ∈ l, I64 b.1 ∧ I64 b.2 := by
  simp only [isSpL, Bool.and_eq_true] at h
  obtain ⟨⟨h1, h2⟩, h3⟩ := h
  obtain ⟨es, rfl, b5, m', hm', hes⟩ := ty_Sl h3 q
  obtain ⟨ks, rfl, hks⟩ := map_of2 (f := eSp) (p := fun b => I64 b.1 ∧ I64 b.2) (es := es) fun v hv => by
    obtain ⟨w1, w2⟩ := hes v hv
    obtain ⟨cs, rfl⟩ := st_agg h2 w2
    obtain ⟨m, hm, q⟩ := ty_St h2 w1
    obtain ⟨v1, r1, rfl, q1, q⟩ := split1 (isI_c h1) q
    obtain ⟨v2, r2, rfl, q2, q⟩ := split1 (isI_c h1) q
    cases q
    obtain ⟨k, e1, b1⟩ := ty_I h1 q1
    obtain ⟨t, e2, b2⟩ := ty_I h1 q2
    simp only [List.cons.injEq, and_true] at e1 e2
    subst e1 e2
    exact ⟨(k, t), rfl, b1, b2⟩
  exact ⟨ks, rfl, by simpa using b5, hks⟩
end Go.V
