/- V, proofs: the elements of a pattern of paths, and whether it is right. Conditions: the pattern's length. -/
import Derived.Test.YtlngaccdjnmgeaaGreatDoorGA3
import Derived.Test.YtlngaccdjnmgeaaGreatDoorS2
set_option linter.unusedVariables false
set_option linter.unusedSimpArgs false
namespace Go.Proofs
open Go.V Go.RowKit

theorem take_isPrefix (p s : List UInt8) : (s.take p.length == p) = p.isPrefixOf s := by
  rw [Bool.eq_iff_iff, beq_iff_eq, List.isPrefixOf_iff_prefix, List.prefix_iff_eq_take, eq_comm]
theorem c_internal_stringslite_HasPrefix (s p : List UInt8) : PureC PR n_internal_stringslite_HasPrefix [.str s, .str p] (.bool (p.isPrefixOf s)) := by
  refine pure_of_wp m_internal_stringslite_HasPrefix rfl (by simp [argOk_str]) ?_
  unfold FnW v_internal_stringslite_HasPrefix
  simp only [go_sem]
  refine g_s (fun h => ?_) (fun h => ?_) <;> simp only [go_sem, h]
  · have hl : p.length ≤ s.length := by simpa using h
    simp only [go_sem, bnd hl, take_isPrefix]
  · have : p.isPrefixOf s = false := by
      rw [← take_isPrefix]
      have hl : s.length < p.length := by simpa using h
      rw [beq_eq_false_iff_ne]
      intro e
      have := congrArg List.length e
      simp at this
      omega
    rw [this]
theorem c_strings_HasPrefix (s p : List UInt8) : PureC PR n_strings_HasPrefix [.str s, .str p] (.bool (p.isPrefixOf s)) := by
  refine pure_of_wp m_strings_HasPrefix rfl (by simp [argOk_str]) ?_
  unfold FnW v_strings_HasPrefix
  simp only [go_sem]
  refine callW_pure (c_internal_stringslite_HasPrefix s p) rfl rfl ?_
  simp only [go_sem]

theorem ib_cases (c : UInt8) : ∀ s, (Lib.indexByte s c = -1 ∧ c ∉ s) ∨ ∃ k, k < s.length ∧ Lib.indexByte s c = (k : Int)
  | [] => .inl ⟨rfl, by simp⟩
  | b :: r => by
    by_cases h : b = c
    · subst h; exact .inr ⟨0, by simp, by simp [Lib.indexByte]⟩
    · have h1 : (b == c) = false := by simp [h]
      rcases ib_cases c r with ⟨q, qm⟩ | ⟨k, q, e⟩
      · exact .inl ⟨by simp only [Lib.indexByte, h1, q]; rfl, by simp [qm]; exact fun e => h e.symm⟩
      · refine .inr ⟨k + 1, by simp; omega, ?_⟩
        have : (Lib.indexByte r c == -1) = false := by rw [e]; simp
        simp only [Lib.indexByte, h1, this, e, Bool.false_eq_true, if_false]
        simp
theorem ib_pos {b c : UInt8} {r : List UInt8} (h : b ≠ c) {k : Nat} (e : Lib.indexByte (b :: r) c = (k : Int)) : 1 ≤ k := by
  have h1 : (b == c) = false := by simp [h]
  have := Lib.indexByte_ge r c
  simp only [Lib.indexByte, h1, Bool.false_eq_true, if_false] at e
  split at e
  · omega
  · rename_i q
    have : Lib.indexByte r c ≠ -1 := by simpa using q
    omega

def byteI (c : UInt8) : Int := c.toNat
def stepG (g : List UInt8) (c : UInt8) (r : List UInt8) : Option (El × List UInt8) :=
  if decide ((c.toNat : Int) < 33) = true then none else if decide ((c.toNat : Int) > 126) = true then none else if ((c.toNat : Int) == 93) = true then none
  else if ([42, 42, 42] : List UInt8).isPrefixOf g = true then none
  else if ([42, 42] : List UInt8).isPrefixOf g = true then some (⟨1, c, false, []⟩, g.drop 2)
  else if ((c.toNat : Int) == 42) = true then some (⟨2, c, false, []⟩, r)
  else if ((c.toNat : Int) == 63) = true then some (⟨3, c, false, []⟩, r)
  else if ((c.toNat : Int) == 91) = true then
    (if Lib.indexByte g 93 = -1 then none
     else if (setS ((g.take (Lib.indexByte g 93).toNat).drop 1)).2 = false then none
     else if ((g.take (Lib.indexByte g 93).toNat).drop 1).all printS = false then none
     else some ((setS ((g.take (Lib.indexByte g 93).toNat).drop 1)).1, g.drop ((Lib.indexByte g 93).toNat + 1)))
  else some (⟨0, c, false, []⟩, r)
def parseA : Nat → List UInt8 → List El → Option (List El)
  | 0, _, _ => none
  | n + 1, g, acc => if g.isEmpty then some acc else (stepG g (g.headD 0) g.tail).bind fun p => parseA n p.2 (acc ++ [p.1])
def parseV (o : Option (List El)) : VV := match o with
  | none => .tup [.sl [] 0, .bool false]
  | some l => .tup [.sl (l.map eEl) 0, .bool true]
theorem parseA_nil {n : Nat} {acc : List El} : parseA (n + 1) [] acc = some acc := rfl
theorem parseA_none {n : Nat} {c : UInt8} {r : List UInt8} {acc : List El} (h : stepG (c :: r) c r = none) : parseA (n + 1) (c :: r) acc = none := by
  show (stepG (c :: r) c r).bind _ = none
  rw [h]; rfl
theorem parseA_some {n : Nat} {c : UInt8} {r rest : List UInt8} {x : El} {acc : List El} (h : stepG (c :: r) c r = some (x, rest)) : parseA (n + 1) (c :: r) acc = parseA n rest (acc ++ [x]) := by
  show (stepG (c :: r) c r).bind _ = _
  rw [h]; rfl
theorem parseV_none : parseV none = .tup [.sl [] 0, .bool false] := rfl
theorem eEl_canon (x : El) : (eEl x).canon = true := byRfl rfl
theorem eEl_strip (x : El) : (eEl x).strip = eEl x := byRfl rfl
theorem eEl_fold (k : Int) (c : UInt8) (b : Bool) : VV.agg [.int .i64 k, .int .u8 c.toNat, .bool b, .sl [] 0] = eEl ⟨k, c, b, []⟩ := byRfl rfl
theorem eEl_fold' (x : El) : VV.agg [.int .i64 x.kind, .int .u8 x.c.toNat, .bool x.neg, .sl (x.set.map eRg) 0] = eEl x := byRfl rfl

theorem eEl_noTup (x : El) : (eEl x).noTup = true := byRfl rfl
theorem eEl_ids (x : El) (n : Nat) : (eEl x).ids n = true := by simp [eEl, byteInt, VV.ids, idsL]
attribute [go_sem] eEl_strip eEl_canon eEl_cells eEl_noTup eEl_ids

theorem c_glob_parse (s : List UInt8) (hs : s.length ≤ 1000000) : PureC PR n_glob_parse [.str s] (parseV (parseA (s.length + 1) s [])) := by
  refine pure_of_wp m_glob_parse rfl (by simp [argOk_str]) ?_
  unfold FnW v_glob_parse
  simp only [go_sem]
  refine v_for (α := Nat × List UInt8 × List El) (base := 0) (marks := []) (pu := true) (good := fun x => parseA (x.1 + 1) x.2.1 x.2.2 = parseA (s.length + 1) s [] ∧ x.2.1.length ≤ x.1 ∧ x.1 + x.2.2.length ≤ 1000000) (m := fun x => x.1)
    (E := fun x => [(0, .str x.2.1), (4, .sl (x.2.2.map eEl) 2)]) (O := fun x => [.tok x.2.2.length 4])
    (by intro i _; simp [go_sem, Obj.idsB]) rfl ?_ (s.length, s, []) _ ⟨rfl, Nat.le_refl _, by simpa using hs⟩ rfl rfl rfl rfl rfl
  rintro ⟨n, g, acc⟩ ⟨hp, hg, hn⟩
  simp only at hp hg hn
  rw [← hp]
  match g, hp, hg with
  | [], hp, hg => simp only [go_sem, parseA_nil, parseV]
  | c :: r, hp, hg =>
    obtain ⟨n, rfl⟩ : ∃ k, n = k + 1 := ⟨n - 1, by simp at hg; omega⟩
    have hc : (acc.length + 1) * 40 ≤ 35184372088832 := by omega
    have hq : r.length ≤ n := by simp at hg; omega
    have fail : stepG (c :: r) c r = none → parseV (parseA (n + 1 + 1) (c :: r) acc) = .tup [.sl [] 0, .bool false] := fun h => by rw [parseA_none h]; rfl
    simp only [go_sem, byteInt]
    refine g_s (fun h1 => ?_) (fun h1 => ?_) <;> simp only [go_sem, h1, byteInt]
    · refine g_s (fun h2 => ?_) (fun h2 => ?_) <;> simp only [go_sem, h2, byteInt]
      · refine g_s (fun h3 => ?_) (fun h3 => ?_) <;> simp only [go_sem, h3, byteInt]
        · refine callW_pure (c_strings_HasPrefix _ _) rfl rfl ?_
          simp only [go_sem]
          refine if_s (fun h4 => ?_) (fun h4 => ?_) <;> simp only [go_sem]
          · rw [fail (by simp only [stepG, h1, h2, h3, h4]; rfl)]; exact ⟨rfl, rfl⟩
          · refine callW_pure (c_strings_HasPrefix _ _) rfl rfl ?_
            simp only [go_sem]
            refine if_s (fun h5 => ?_) (fun h5 => ?_) <;> simp only [go_sem]
            · have hs : stepG (c :: r) c r = some (⟨1, c, false, []⟩, (c :: r).drop 2) := by simp only [stepG, h1, h2, h3, h4, h5, if_true, if_false, Bool.false_eq_true]
              have h2l : 2 ≤ (c :: r).length := by
                have := (List.isPrefixOf_iff_prefix.1 h5).length_le
                simpa using this
              obtain ⟨d, r', rfl⟩ : ∃ d r', r = d :: r' := by cases r with | nil => simp at h2l | cons d r' => exact ⟨d, r', rfl⟩
              simp only [go_sem, eEl_fold, eEl_canon, eEl_cells, eEl_strip, hc]
              exact ⟨(n, r', acc ++ [⟨1, c, false, []⟩]), ⟨(parseA_some hs).symm, by simp at hq ⊢; omega, by simp at hn ⊢; omega⟩, Nat.lt_succ_self _, by simp [go_sem], by simp [go_sem]⟩
            refine if_s (fun h6 => ?_) (fun h6 => ?_) <;> simp only [go_sem]
            · have hs : stepG (c :: r) c r = some (⟨2, c, false, []⟩, r) := by simp only [stepG, h1, h2, h3, h4, h5, h6, if_true, if_false, Bool.false_eq_true]
              simp only [go_sem, eEl_fold, eEl_canon, eEl_cells, eEl_strip, hc]
              exact ⟨(n, r, acc ++ [⟨2, c, false, []⟩]), ⟨(parseA_some hs).symm, hq, by simp at hn ⊢; omega⟩, Nat.lt_succ_self _, by simp [go_sem], by simp [go_sem]⟩
            refine if_s (fun h7 => ?_) (fun h7 => ?_) <;> simp only [go_sem]
            · have hs : stepG (c :: r) c r = some (⟨3, c, false, []⟩, r) := by simp only [stepG, h1, h2, h3, h4, h5, h6, h7, if_true, if_false, Bool.false_eq_true]
              simp only [go_sem, eEl_fold, eEl_canon, eEl_cells, eEl_strip, hc]
              exact ⟨(n, r, acc ++ [⟨3, c, false, []⟩]), ⟨(parseA_some hs).symm, hq, by simp at hn ⊢; omega⟩, Nat.lt_succ_self _, by simp [go_sem], by simp [go_sem]⟩
            refine if_s (fun h8 => ?_) (fun h8 => ?_) <;> simp only [go_sem]
            · refine callW_pure (c_strings_IndexByte (c :: r) 93) rfl rfl ?_
              have e93 : Nat.toUInt8 93 = 93 := rfl
              simp only [go_sem, e93]
              have h91 : c ≠ 93 := by rintro rfl; exact absurd h3 (by decide)
              rcases ib_cases 93 (c :: r) with ⟨q, qm⟩ | ⟨k, hk, e⟩
              · simp only [go_sem, q]
                rw [fail (by simp only [stepG, h1, h2, h3, h4, h5, h6, h7, h8, q, if_true, if_false, Bool.false_eq_true])]
                exact ⟨rfl, rfl⟩
              · have hk1 := ib_pos h91 e
                have hlt : decide ((k : Int) < 0) = false := by simp
                have b1 : boundV k (.int .i64 1) = some 1 := bnd_lit rfl hk1
                have hk' : k ≤ r.length + 1 := by simp at hk; omega
                have hi : ((c :: r).take k).length ≤ 1000000 := by simp at hn ⊢; omega
                have hstep : stepG (c :: r) c r = if (setS (((c :: r).take k).drop 1)).2 = false then none else if (((c :: r).take k).drop 1).all printS = false then none else some ((setS (((c :: r).take k).drop 1)).1, (c :: r).drop (k + 1)) := by
                  have hne : ¬ ((k : Int) = -1) := by omega
                  simp only [stepG, h1, h2, h3, h4, h5, h6, h7, h8, e, hne, Int.toNat_natCast, if_true, if_false, Bool.false_eq_true]
                have hin : (((c :: r).take k).drop 1).length ≤ 1000000 := by simp at hi ⊢; omega
                simp only [go_sem, e, hlt, bnd hk', b1]
                generalize hI : ((c :: r).take k).drop 1 = inn at *
                refine callW_pure (c_glob_set inn hin) (by simp [go_sem]) (by simp [go_sem]) ?_
                simp only [go_sem, eEl_cells]
                cases hset : (setS inn).2 with
                | false =>
                  simp only [go_sem]
                  rw [fail (by rw [hstep, if_pos hset])]
                  exact ⟨rfl, rfl⟩
                | true =>
                  have hw : IntKind.i64.wrap ((k : Int) + 1) = ((k + 1 : Nat) : Int) := wrap_succ (by simp at hk; omega)
                  have hk2 : k + 1 ≤ r.length + 1 := by simp at hk; omega
                  simp only [go_sem, bnd hk', b1, hI]
                  refine callW_pure (c_glob_printable inn (Nat.le_trans hin (by decide))) rfl rfl ?_
                  simp only [go_sem]
                  cases hpr : inn.all printS with
                  | false =>
                    simp only [go_sem]
                    rw [fail (by rw [hstep, if_neg (by rw [hset]; decide), if_pos hpr])]
                    exact ⟨rfl, rfl⟩
                  | true =>
                    simp only [go_sem, eEl_fold', hw, hc, bnd hk2]
                    have hs : stepG (c :: r) c r = some ((setS inn).1, (c :: r).drop (k + 1)) := by rw [hstep, if_neg (by rw [hset]; decide), if_neg (by rw [hpr]; decide)]
                    exact ⟨(n, (c :: r).drop (k + 1), acc ++ [(setS inn).1]), ⟨(parseA_some hs).symm, by simp; omega, by simp at hn ⊢; omega⟩, Nat.lt_succ_self _, by simp [go_sem], by simp [go_sem]⟩
            · have hs : stepG (c :: r) c r = some (⟨0, c, false, []⟩, r) := by simp only [stepG, h1, h2, h3, h4, h5, h6, h7, h8, if_true, if_false, Bool.false_eq_true]
              simp only [go_sem, eEl_fold, eEl_canon, eEl_cells, eEl_strip, hc]
              exact ⟨(n, r, acc ++ [⟨0, c, false, []⟩]), ⟨(parseA_some hs).symm, hq, by simp at hn ⊢; omega⟩, Nat.lt_succ_self _, by simp [go_sem], by simp [go_sem]⟩
        · rw [fail (by have h3' : ((c.toNat : Int) == 93) = true := by simpa using h3
                       simp only [stepG, h1, h2, h3']; rfl)]; exact ⟨rfl, rfl⟩
      · rw [fail (by have h2' : decide ((c.toNat : Int) > 126) = true := by simpa using h2
                     simp only [stepG, h1, h2']; rfl)]; exact ⟨rfl, rfl⟩
    · rw [fail (by have h1' : decide ((c.toNat : Int) < 33) = true := by simpa using h1
                   simp only [stepG, h1']; rfl)]; exact ⟨rfl, rfl⟩

def globP (s : List UInt8) : Option (List El) := parseA (s.length + 1) s []
def globRightS (s : List UInt8) : Int := if decide ((s.length : Int) > 60) = true then 4 else if (globP s).isNone then 3 else 0
theorem c_glob_Right (s : List UInt8) : PureC PR n_glob_Right [.str s] (.int .i64 (globRightS s)) := by
  refine pure_of_wp m_glob_Right rfl (by simp [argOk_str]) ?_
  unfold FnW v_glob_Right
  simp only [go_sem]
  refine if_s (fun h => ?_) (fun h => ?_) <;> simp only [go_sem]
  · simp [globRightS, h]
  have hl : s.length ≤ 60 := by
    have : ¬ ((s.length : Int) > 60) := by simpa using h
    omega
  refine callW_pure (c_glob_parse s (by omega)) rfl rfl ?_
  cases hg : parseA (s.length + 1) s [] with
  | none => simp [go_sem, parseV, globRightS, h, globP, hg]
  | some l => simp [go_sem, parseV, globRightS, h, globP, hg]
end Go.Proofs
