/- V, plain laws: filling a pattern, and matching, in plain Lean. -/
import Derived.Test.YtfhkgkijljfcfaaB7
import Derived.Test.YtfhkgkijljfcfaaB2
set_option linter.unusedVariables false
set_option linter.unusedSimpArgs false
namespace Go.Proofs
open Go.V Go.RowKit

mutual
def normN : Nd → Nd
  | .mk k t _ _ ks => .mk k t 0 0 (normNs ks)
def normNs : List Nd → List Nd
  | [] => []
  | d :: r => normN d :: normNs r
end
theorem normNs_map : ∀ l : List Nd, normNs l = l.map normN
  | [] => rfl
  | d :: r => by simp [normNs, normNs_map r]
mutual
theorem eqN_iff : ∀ x y : Nd, eqN x y = true ↔ normN x = normN y
  | .mk k t a e ks, .mk k' t' a' e' ks' => by
    simp only [eqN, normN, Bool.and_eq_true, beq_iff_eq, eqNs_iff ks ks', Nd.mk.injEq, true_and, and_assoc]
theorem eqNs_iff : ∀ x y : List Nd, eqNs x y = true ↔ normNs x = normNs y
  | [], [] => by simp [eqNs, normNs]
  | x :: r, y :: s => by simp [eqNs, normNs, eqN_iff x y, eqNs_iff r s]
  | [], y :: s => by simp [eqNs, normNs]
  | x :: r, [] => by simp [eqNs, normNs]
end
theorem allE_iff (a b : List Nd) : allS eqN a b = true ↔ a.map normN = b.map normN := by
  rw [← eqNs_allS, eqNs_iff, normNs_map, normNs_map]
theorem eqN_refl (x : Nd) : eqN x x = true := (eqN_iff _ _).2 rfl
theorem normN_mk (k : Int) (t : List UInt8) (a e : Int) (ks : List Nd) : normN (.mk k t a e ks) = .mk k t 0 0 (ks.map normN) := by simp [normN, normNs_map]
theorem normN_eq (x : Nd) : normN x = .mk x.kind x.text 0 0 (x.kids.map normN) := by
  obtain ⟨k, t, a, e, ks⟩ := x
  exact normN_mk ..

mutual
/-- a pattern whose metavariables are replaced by their values -/
def fillR (b : List Bd) : Nd → Nd
  | .mk k t a e ks => if k == 25 then (match valueR b t with | ([x], true) => x | _ => .mk k t a e ks) else .mk k t 0 0 (fillKs b ks)
def fillKs (b : List Bd) : List Nd → List Nd
  | [] => []
  | x :: r => (if x.kind != 26 || !(valueR b x.text).2 then [fillR b x] else (valueR b x.text).1) ++ fillKs b r
end
theorem fillR_eq (b : List Bd) (x : Nd) : fillR b x = if x.kind == 25 then (match valueR b x.text with | ([y], true) => y | _ => x) else .mk x.kind x.text 0 0 (fillKs b x.kids) := by
  obtain ⟨k, t, a, e, ks⟩ := x
  simp only [fillR, Nd.kind, Nd.text, Nd.kids]
  rfl
theorem fillKs_append (b : List Bd) : ∀ x y, fillKs b (x ++ y) = fillKs b x ++ fillKs b y
  | [], y => by simp [fillKs]
  | d :: r, y => by simp [fillKs, fillKs_append b r y]

/-- b' knows what b knows -/
def extB (b b' : List Bd) : Prop := ∀ name x, b.find? (fun y => y.1 == name) = some x → b'.find? (fun y => y.1 == name) = some x
theorem bind_ext {b : List Bd} {name : List UInt8} {part : List Nd} : extB b (bindR b name part).1 := by
  intro nm x h
  unfold bindR
  split
  · exact h
  · split
    · exact h
    · rw [List.find?_append, h]; rfl
theorem bind_val {b : List Bd} {name : List UInt8} {part : List Nd} (h0 : (name == [95]) = false) (h : (bindR b name part).2 = true) : ∃ x, (bindR b name part).1.find? (fun y => y.1 == name) = some x ∧ x.2.map normN = part.map normN := by
  unfold bindR at h ⊢
  rw [h0] at h ⊢
  simp only [Bool.false_eq_true, if_false] at h ⊢
  cases hf : b.find? (fun y => y.1 == name) with
  | some x => rw [hf] at h; exact ⟨x, hf, (allE_iff _ _).1 h⟩
  | none =>
    refine ⟨(name, part), ?_, rfl⟩
    rw [List.find?_append, hf]
    simp
theorem value_find {b : List Bd} {name : List UInt8} {x : Bd} (h : b.find? (fun y => y.1 == name) = some x) : valueR b name = (x.2, true) := by simp only [valueR, h]

/-- what Match finds fills the pattern to the node -/
theorem solve_fill {n : Nat} {T : List Tk} {b b' : List Bd} (h : solveR n T b = some b') : (∀ x ∈ patsR T, metaR x = true → (x.text == [95]) = false) →
    extB b b' ∧ ∀ t ∈ T, (fillKs b' t.1).map normN = t.2.map normN := by
  revert h
  refine solve_ind (Q := fun T b b' => (∀ x ∈ patsR T, metaR x = true → (x.text == [95]) = false) → extB b b' ∧ ∀ t ∈ T, (fillKs b' t.1).map normN = t.2.map normN) ?_ ?_ ?_ ?_ ?_ n T b b'
  · exact fun b _ => ⟨fun _ _ h => h, nofun⟩
  · intro T b b' ih hx
    obtain ⟨h1, h2⟩ := ih hx
    refine ⟨h1, fun t ht => ?_⟩
    rcases List.mem_cons.1 ht with rfl | ht
    · simp [fillKs]
    · exact h2 t ht
  · rintro p ps ns T b b' part rest hk rfl hb ih hx
    have hm : metaR p = true := by simp [metaR, hk]
    have h0 := hx p (by simp [patsR, nodesRs, nodesR_kids]) hm
    obtain ⟨h1, h2⟩ := ih fun x h => hx x (by simp only [patsR, nodesRs, List.mem_append] at h ⊢; exact h.elim (fun h => .inl (.inr h)) .inr)
    obtain ⟨x, hf, he⟩ := bind_val h0 hb
    have hv := value_find (h1 _ _ hf)
    refine ⟨fun nm y h => h1 _ _ (bind_ext nm y h), fun t ht => ?_⟩
    rcases List.mem_cons.1 ht with rfl | ht
    · have h3 := h2 (ps, rest) (by simp)
      simp only at h3
      have hk' : (p.kind != 26) = false := by rw [bne, hk]; rfl
      simp only [fillKs, hv, hk', Bool.false_or, Bool.not_true, Bool.false_eq_true, if_false, List.map_append, he, h3]
    · exact h2 t (by simp [ht])
  · intro p ps m ms T b b' hk hk2 hb ih hx
    have hm : metaR p = true := by simp [metaR, hk2]
    have h0 := hx p (by simp [patsR, nodesRs, nodesR_kids]) hm
    obtain ⟨h1, h2⟩ := ih fun x h => hx x (by simp only [patsR, nodesRs, List.mem_append] at h ⊢; exact h.elim (fun h => .inl (.inr h)) .inr)
    obtain ⟨x, hf, he⟩ := bind_val h0 hb
    have hv := value_find (h1 _ _ hf)
    refine ⟨fun nm y h => h1 _ _ (bind_ext nm y h), fun t ht => ?_⟩
    rcases List.mem_cons.1 ht with rfl | ht
    · have h3 := h2 (ps, ms) (by simp)
      simp only at h3
      have hk' : (p.kind != 26) = true := by rw [bne, hk]; rfl
      obtain ⟨nm, v⟩ := x
      simp only at he hv
      obtain ⟨y, rfl⟩ := List.length_eq_one_iff.1 (show v.length = 1 by simpa using congrArg List.length he)
      simp only [List.map_cons, List.map_nil, List.cons.injEq, and_true] at he
      have hfr : fillR b' p = y := by rw [fillR_eq, if_pos hk2, hv]
      simp only [fillKs, hk', Bool.true_or, if_true, hfr, List.map_append, List.map_cons, List.map_nil, he, h3, List.cons_append, List.nil_append]
    · exact h2 t (by simp [ht])
  · intro p ps m ms T b b' hk hk2 e1 e2 ih hx
    obtain ⟨h1, h2⟩ := ih fun x h => hx x (by simp only [patsR, nodesRs, nodesR_kids, List.mem_append, List.mem_cons] at h ⊢; exact h.elim (fun h => .inl (.inl (.inr h))) fun h => h.elim (fun h => .inl (.inr h)) .inr)
    refine ⟨h1, fun t ht => ?_⟩
    rcases List.mem_cons.1 ht with rfl | ht
    · have h3 := h2 (ps, ms) (by simp)
      have h4 := h2 (p.kids, m.kids) (by simp)
      simp only at h3 h4
      have hk' : (p.kind != 26) = true := by rw [bne, hk]; rfl
      have hfr : normN (fillR b' p) = normN m := by
        rw [fillR_eq, if_neg (by rw [hk2]; simp), normN_mk, normN_eq m, h4, e1, e2]
      simp only [fillKs, hk', Bool.true_or, if_true, List.map_append, List.map_cons, List.map_nil, hfr, h3, List.cons_append, List.nil_append]
    · exact h2 t (by simp [ht])

theorem match_fill {p n : Nd} {b : List Bd} (h : matchR p n = some b) (hn : ∀ x ∈ nodesR p, metaR x = true → (x.text == [95]) = false) (hk : (p.kind == 26) = false) : eqN (fillR b p) n = true := by
  have e : patsR [([p], [n])] = nodesR p := by simp [patsR, nodesRs]
  obtain ⟨_, h2⟩ := solve_fill h (by rw [e]; exact hn)
  have h3 := h2 ([p], [n]) (by simp)
  have hk' : (p.kind != 26) = true := by rw [bne, hk]; rfl
  simp only [fillKs, hk', Bool.true_or, if_true, List.append_nil, List.map_cons, List.map_nil, List.cons.injEq, and_true] at h3
  exact (eqN_iff _ _).2 h3

/-! ### completeness -/
theorem firstR_of {β : Type} {f : Nat → Option β} : ∀ {c i k : Nat}, i ≤ k → k < i + c → (f k).isSome = true → (firstR f c i).isSome = true
  | 0, i, k, h1, h2, _ => by omega
  | c + 1, i, k, h1, h2, h => by
    cases hf : f i with
    | some b => rw [firstR_some hf]; rfl
    | none =>
      rw [firstR_none hf]
      by_cases e : i = k
      · subst e; rw [hf] at h; cases h
      · exact firstR_of (by omega) (by omega) h

/-- what is bound agrees with the values -/
def compat (l b : List Bd) : Prop := ∀ name x, b.find? (fun y => y.1 == name) = some x → ∃ v, valueR l name = (v, true) ∧ x.2.map normN = v.map normN
theorem compat_bind {l b : List Bd} {name : List UInt8} {part v : List Nd} (h : compat l b) (hv : valueR l name = (v, true)) (hp : part.map normN = v.map normN) : (bindR b name part).2 = true ∧ compat l (bindR b name part).1 := by
  unfold bindR
  split
  · exact ⟨rfl, h⟩
  · cases hf : b.find? (fun y => y.1 == name) with
    | some x =>
      obtain ⟨v', h1, h2⟩ := h _ _ hf
      rw [hv] at h1
      cases h1
      exact ⟨(allE_iff _ _).2 (h2.trans hp.symm), h⟩
    | none =>
      refine ⟨rfl, fun nm x hx => ?_⟩
      rw [List.find?_append] at hx
      cases hb : b.find? (fun y => y.1 == nm) with
      | some y => rw [hb] at hx; simp only [Option.some_or, Option.some.injEq] at hx; subst hx; exact h _ _ hb
      | none =>
        rw [hb] at hx
        simp only [Option.none_or, List.find?_cons, List.find?_nil] at hx
        cases he : (name == nm) with
        | true =>
          rw [he] at hx
          simp only [Option.some.injEq] at hx
          subst hx
          rw [beq_iff_eq] at he
          subst he
          exact ⟨v, hv, hp⟩
        | false => rw [he] at hx; cases hx

theorem solve_some (l : List Bd) : ∀ (n : Nat) (T : List Tk) (b : List Bd), wR T < n → (∀ t ∈ T, (fillKs l t.1).map normN = t.2.map normN ∧ ∀ x ∈ nodesRs (fillKs l t.1), metaR x = false) → compat l b → (solveR n T b).isSome = true := by
  intro n
  induction n with
  | zero => intro T b h; omega
  | succ n ih =>
    intro T b hn hT hb
    match T, hn, hT with
    | [], _, _ => rfl
    | ([], ns) :: T, hn, hT =>
      have h0 := (hT ([], ns) (by simp)).1
      simp only [fillKs, List.map_nil] at h0
      have : ns = [] := by cases ns with | nil => rfl | cons a r => simp at h0
      subst this
      simp only [solveR, List.length_nil]
      rw [if_neg (by simp)]
      exact ih T b (by simp only [wR] at hn; omega) (fun t ht => hT t (by simp [ht])) hb
    | (p :: ps, ns) :: T, hn, hT =>
      obtain ⟨h0, hm⟩ := hT (p :: ps, ns) (by simp)
      simp only at h0 hm
      have np := nodesR_pos p
      have nk : (nodesR p).length = (nodesRs p.kids).length + 1 := by rw [nodesR_kids]; rfl
      have hw : wR ((p :: ps, ns) :: T) = 2 * ((nodesR p).length + (nodesRs ps).length) + 1 + wR T := by simp only [wR, nodesRs, List.length_append]
      rw [hw] at hn
      have hT' : ∀ t ∈ T, (fillKs l t.1).map normN = t.2.map normN ∧ ∀ x ∈ nodesRs (fillKs l t.1), metaR x = false := fun t ht => hT t (by simp [ht])
      have step : ∀ ns' b', (fillKs l ps).map normN = ns'.map normN → (∀ x ∈ nodesRs (fillKs l ps), metaR x = false) → compat l b' → (solveR n ((ps, ns') :: T) b').isSome = true := fun ns' b' e1 e2 e3 => by
        refine ih _ _ (by simp only [wR]; omega) (fun t ht => ?_) e3
        rcases List.mem_cons.1 ht with rfl | h
        · exact ⟨e1, e2⟩
        · exact hT' t h
      cases hk : (p.kind == 26) with
      | true =>
        have hk' : (p.kind != 26) = false := by rw [bne, hk]; rfl
        cases hv2 : (valueR l p.text).2 with
        | false =>
          simp only [fillKs, hv2, Bool.not_false, Bool.or_true, if_true, nodesRs_append, nodesRs, List.append_nil, List.mem_append] at hm
          have hfr : fillR l p = .mk p.kind p.text 0 0 (fillKs l p.kids) := by
            rw [fillR_eq, if_neg]
            rw [beq_iff_eq] at hk ⊢
            omega
          have := hm (.mk p.kind p.text 0 0 (fillKs l p.kids)) (.inl (by rw [hfr, nodesR_kids]; simp))
          have h2 : metaR (.mk p.kind p.text 0 0 (fillKs l p.kids)) = true := by
            show (p.kind == 25 || p.kind == 26) = true
            rw [hk, Bool.or_true]
          rw [h2] at this
          cases this
        | true =>
          obtain ⟨v, hv⟩ : ∃ v, valueR l p.text = (v, true) := ⟨(valueR l p.text).1, by rw [← hv2]⟩
          simp only [fillKs, hv, hk', Bool.not_true, Bool.or_false, Bool.false_eq_true, if_false, List.map_append] at h0
          simp only [fillKs, hv, hk', Bool.not_true, Bool.or_false, Bool.false_eq_true, if_false, nodesRs_append, List.mem_append] at hm
          have hl : v.length ≤ ns.length := by
            have := congrArg List.length h0
            simp only [List.length_append, List.length_map] at this
            omega
          have e1 : (ns.take v.length).map normN = v.map normN := by
            have := congrArg (List.take v.length) h0
            rw [List.take_left' (by simp), ← List.map_take] at this
            exact this.symm
          have e2 : (fillKs l ps).map normN = (ns.drop v.length).map normN := by
            have := congrArg (List.drop v.length) h0
            rw [List.drop_left' (by simp), ← List.map_drop] at this
            exact this
          obtain ⟨c1, c2⟩ := compat_bind (name := p.text) hb hv e1
          simp only [solveR, hk, if_true]
          refine firstR_of (k := v.length) (Nat.zero_le _) (by omega) ?_
          simp only [c1, if_true]
          exact step _ _ e2 (fun x hx => hm x (.inr hx)) c2
      | false =>
      have hk' : (p.kind != 26) = true := by rw [bne, hk]; rfl
      simp only [fillKs, hk', Bool.true_or, if_true, List.map_append, List.map_cons, List.map_nil, List.cons_append, List.nil_append] at h0
      simp only [fillKs, hk', Bool.true_or, if_true, List.cons_append, List.nil_append, nodesRs, List.mem_append] at hm
      match ns, h0 with
      | m :: ms, h0 =>
        simp only [List.map_cons, List.cons.injEq] at h0
        obtain ⟨e0, e2⟩ := h0
        cases hk2 : (p.kind == 25) with
        | true =>
          rw [fillR_eq, if_pos hk2] at e0
          have hmm := hm (fillR l p) (.inl (by rw [nodesR_kids]; simp))
          rw [fillR_eq, if_pos hk2] at hmm
          split at e0
          · rename_i y hv
            obtain ⟨c1, c2⟩ := compat_bind (name := p.text) (part := [m]) hb hv (by simp [e0])
            simp only [solveR, hk, hk2, c1, Bool.false_eq_true, if_false, if_true]
            exact step _ _ e2 (fun x hx => hm x (.inr hx)) c2
          · rename_i hne
            split at hmm
            · rename_i y hv
              exact absurd hv (hne y)
            · simp only [metaR, hk2, Bool.true_or] at hmm
              cases hmm
        | false =>
          have hfr : fillR l p = .mk p.kind p.text 0 0 (fillKs l p.kids) := by rw [fillR_eq, if_neg (by rw [hk2]; simp)]
          rw [hfr, normN_mk, normN_eq m] at e0
          simp only [Nd.mk.injEq, true_and] at e0
          obtain ⟨k1, k2, k3⟩ := e0
          have h3 : (p.kind != m.kind) = false := by simp [k1]
          have h4 : (p.text != m.text) = false := by simp [k2]
          simp only [solveR, hk, hk2, h3, h4, Bool.false_eq_true, if_false]
          refine ih _ _ (by simp only [wR]; omega) (fun t ht => ?_) hb
          rcases List.mem_cons.1 ht with rfl | h
          · exact ⟨k3, fun x hx => hm x (.inl (by rw [hfr, nodesR_kids]; exact List.mem_cons_of_mem _ hx))⟩
          · rcases List.mem_cons.1 h with rfl | h
            · exact ⟨e2, fun x hx => hm x (.inr hx)⟩
            · exact hT' t h

theorem match_some {p n : Nd} {l : List Bd} (h1 : (nodesR p).length ≤ 30) (hk : (p.kind == 26) = false) (he : eqN (fillR l p) n = true) (hm : ∀ x ∈ nodesR (fillR l p), metaR x = false) : (matchR p n).isSome = true := by
  refine solve_some l 1000 [([p], [n])] [] (by simp only [wR, nodesRs, List.append_nil]; omega) (fun t ht => ?_) (fun _ _ h => by cases h)
  rw [List.mem_singleton] at ht
  subst ht
  have hk' : (p.kind != 26) = true := by rw [bne, hk]; rfl
  simp only [fillKs, hk', Bool.true_or, if_true, List.append_nil, List.map_cons, List.map_nil, nodesRs]
  exact ⟨by rw [(eqN_iff _ _).1 he], hm⟩

mutual
theorem fill_same (b : List Bd) : ∀ p : Nd, (∀ x ∈ nodesR p, metaR x = false) → normN (fillR b p) = normN p
  | .mk k t a e ks, h => by
    have h0 := h (.mk k t a e ks) (by simp [nodesR])
    simp only [metaR, Nd.kind, Bool.or_eq_false_iff] at h0
    rw [fillR_eq, if_neg (by rw [show (Nd.mk k t a e ks).kind = k from rfl, h0.1]; simp), normN_mk, normN_mk]
    simp only [Nd.kind, Nd.text, Nd.kids]
    rw [fills_same b ks fun x hx => h x (by simp [nodesR, hx])]
theorem fills_same (b : List Bd) : ∀ l : List Nd, (∀ x ∈ nodesRs l, metaR x = false) → (fillKs b l).map normN = l.map normN
  | [], _ => rfl
  | d :: r, h => by
    have h0 := h d (by simp [nodesRs, nodesR_kids])
    simp only [metaR, Bool.or_eq_false_iff] at h0
    have hk' : (d.kind != 26) = true := by rw [bne, h0.2]; rfl
    simp only [fillKs, hk', Bool.true_or, if_true, List.map_append, List.map_cons, List.map_nil, List.cons_append, List.nil_append]
    rw [fill_same b d fun x hx => h x (by simp [nodesRs, hx]), fills_same b r fun x hx => h x (by simp [nodesRs, hx])]
end

mutual
theorem fill_free (b : List Bd) : ∀ p : Nd, (∀ x ∈ nodesR p, metaR x = false) → ∀ x ∈ nodesR (fillR b p), metaR x = false
  | .mk k t a e ks, h => by
    have h0 := h (.mk k t a e ks) (by simp [nodesR])
    have h1 := h0
    simp only [metaR, Nd.kind, Bool.or_eq_false_iff] at h1
    rw [fillR_eq, if_neg (by rw [show (Nd.mk k t a e ks).kind = k from rfl, h1.1]; simp), nodesR_kids]
    intro x hx
    rcases List.mem_cons.1 hx with rfl | hx
    · simpa [metaR, Nd.kind] using h1
    · exact fills_free b ks (fun x hx => h x (by simp [nodesR, hx])) x hx
theorem fills_free (b : List Bd) : ∀ l : List Nd, (∀ x ∈ nodesRs l, metaR x = false) → ∀ x ∈ nodesRs (fillKs b l), metaR x = false
  | [], _ => by simp [fillKs, nodesRs]
  | d :: r, h => by
    have h0 := h d (by simp [nodesRs, nodesR_kids])
    simp only [metaR, Bool.or_eq_false_iff] at h0
    have hk' : (d.kind != 26) = true := by rw [bne, h0.2]; rfl
    intro x hx
    simp only [fillKs, hk', Bool.true_or, if_true, List.cons_append, List.nil_append, nodesRs, List.mem_append] at hx
    rcases hx with hx | hx
    · exact fill_free b d (fun x hx => h x (by simp [nodesRs, hx])) x hx
    · exact fills_free b r (fun x hx => h x (by simp [nodesRs, hx])) x hx
end

theorem match_ground {p n : Nd} (h1 : (nodesR p).length ≤ 30) (hm : ∀ x ∈ nodesR p, metaR x = false) : (matchR p n).isSome = eqN p n := by
  have h0 := hm p (by rw [nodesR_kids]; simp)
  simp only [metaR, Bool.or_eq_false_iff] at h0
  rw [Bool.eq_iff_iff]
  constructor
  · intro h
    obtain ⟨b, hb⟩ := Option.isSome_iff_exists.1 h
    have := match_fill hb (fun x hx hx2 => by rw [hm x hx] at hx2; cases hx2) h0.2
    rw [eqN_iff, fill_same b p hm] at this
    exact (eqN_iff _ _).2 this
  · intro h
    refine match_some (l := []) h1 h0.2 ?_ (fill_free [] p hm)
    rw [eqN_iff, fill_same [] p hm]
    exact (eqN_iff _ _).1 h
end Go.Proofs
