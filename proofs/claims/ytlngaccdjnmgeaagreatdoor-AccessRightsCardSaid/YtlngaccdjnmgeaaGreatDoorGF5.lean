/- Plain laws: the code and the document read the same elements off a pattern of paths. -/
import Derived.Test.YtlngaccdjnmgeaaGreatDoorGF4
set_option linter.unusedVariables false
set_option linter.unusedSimpArgs false
namespace Go.Proofs
open Go.V Go.RowKit

/-- an element of the code's as the document has it -/
def conv (x : El) : El := if x.kind = 0 then ⟨1, x.c, false, []⟩ else if x.kind = 1 then ⟨4, 0, false, []⟩ else if x.kind = 2 then ⟨3, 0, false, []⟩ else if x.kind = 3 then ⟨2, 0, false, []⟩ else ⟨5, 0, x.neg, x.set⟩
theorem toNat_int {c : UInt8} {n : Nat} (h : ((c.toNat : Int) == (n : Int)) = true) (hn : n < 256) : c = n.toUInt8 := by
  have h1 : c.toNat = n := by have : (c.toNat : Int) = (n : Int) := by simpa using h
                              omega
  apply UInt8.toNat_inj.1
  rw [h1]
  have : n.toUInt8.toNat = n % 256 := rfl
  rw [this, Nat.mod_eq_of_lt hn]
theorem tw_eq_take (p : UInt8 → Bool) (r : List UInt8) : r.takeWhile p = r.take (r.takeWhile p).length := List.prefix_iff_eq_take.1 (List.takeWhile_prefix p)
theorem n93_eq (b : UInt8) : n93 b = !(b == 93) := by
  unfold n93
  by_cases h : b = 93
  · subst h; rfl
  · have h1 : (b == 93) = false := by simp [h]
    rw [h1, Bool.not_false]
    cases hb : ((b.toNat : Int) != 93) with
    | true => rfl
    | false =>
      exfalso
      apply h
      have : ((b.toNat : Int) == (93 : Nat)) = true := by simpa using hb
      exact toNat_int this (by decide)
theorem ib_tw : ∀ r : List UInt8, Lib.indexByte r 93 = if (r.takeWhile n93).length < r.length then ((r.takeWhile n93).length : Int) else -1
  | [] => rfl
  | b :: r => by
    have ih := ib_tw r
    rw [Lib.indexByte, List.takeWhile_cons, n93_eq]
    cases hb : (b == 93) with
    | true => simp
    | false =>
      simp only [Bool.not_false, if_true, Bool.false_eq_true, if_false, List.length_cons, ih]
      by_cases h : (r.takeWhile n93).length < r.length
      · have h' : (r.takeWhile n93).length + 1 < r.length + 1 := by omega
        have hz : (((r.takeWhile n93).length : Int) == -1) = false := by simp
        simp only [h, h', if_true, hz, Bool.false_eq_true, if_false]
        omega
      · have h' : ¬ (r.takeWhile n93).length + 1 < r.length + 1 := by omega
        simp only [h, h', if_false]
        rfl
theorem setS_neg (b : List UInt8) : setS b = (⟨4, 0, (negS b).1, (rangesS (negS b).2 []).1⟩, (rangesS (negS b).2 []).2) := by
  cases b with
  | nil => rfl
  | cons c r =>
    by_cases h : ((c.toNat : Int) == 33) = true
    · simp only [setS, negS, if_pos h]
    · simp only [setS, negS, if_neg h]
def kOk (x : El) : Prop := x.kind = 0 ∨ x.kind = 1 ∨ x.kind = 2 ∨ x.kind = 3 ∨ x.kind = 4
theorem stepG_E {g : List UInt8} {i : Nat} {c : UInt8} {r : List UInt8} (hi : i < g.length) (hc : g.getD i 0 = c) (hr : g.drop (i + 1) = r) (hp : (c :: r).all printS = true) :
    match stepG (c :: r) c r with | none => stepE g i = none | some q => kOk q.1 ∧ ∃ j, stepE g i = some (conv q.1, j) ∧ q.2 = g.drop j ∧ i < j ∧ j ≤ g.length := by
  simp only [List.all_cons, Bool.and_eq_true] at hp
  have hp1 : (decide ((c.toNat : Int) < 33)) = false ∧ (decide ((c.toNat : Int) > 126)) = false := by
    have := hp.1
    unfold printS at this
    simpa using this
  have n1 : ¬ decide ((c.toNat : Int) < 33) = true := by rw [hp1.1]; simp
  have n2 : ¬ decide ((c.toNat : Int) > 126) = true := by rw [hp1.2]; simp
  have hrl : r.length = g.length - (i + 1) := by rw [← hr, List.length_drop]
  by_cases h91 : ((c.toNat : Int) == 91) = true
  · have e := toNat_int (n := 91) h91 (by decide)
    have e : c = 91 := e
    subst e
    have hG : stepG (91 :: r) 91 r = (if Lib.indexByte (91 :: r) 93 = -1 then none
     else if (setS (((91 :: r).take (Lib.indexByte (91 :: r) 93).toNat).drop 1)).2 = false then none
     else if (((91 :: r).take (Lib.indexByte (91 :: r) 93).toNat).drop 1).all printS = false then none
     else some ((setS (((91 :: r).take (Lib.indexByte (91 :: r) 93).toNat).drop 1)).1, (91 :: r).drop ((Lib.indexByte (91 :: r) 93).toNat + 1))) := rfl
    have hb : bodyR g i = r.takeWhile n93 := by rw [bodyR, hr]
    have hE : stepE g i = if decide ((setR g i).2 < 0) = true then none else some ((setR g i).1, (setR g i).2.toNat) := by rw [stepE, hc]; rfl
    have hib := ib_tw (91 :: r)
    have htw : (91 :: r : List UInt8).takeWhile n93 = 91 :: r.takeWhile n93 := rfl
    rw [htw] at hib
    simp only [List.length_cons] at hib
    rw [hG, hE]
    by_cases hlt : (r.takeWhile n93).length < r.length
    · rw [if_pos (by omega)] at hib
      have hn1 : ¬ Lib.indexByte (91 :: r) 93 = -1 := by rw [hib]; omega
      have hk : (Lib.indexByte (91 :: r) 93).toNat = (r.takeWhile n93).length + 1 := by rw [hib]; rfl
      have hct : ((91 :: r).take ((r.takeWhile n93).length + 1)).drop 1 = r.takeWhile n93 := by
        rw [List.take_succ_cons, List.drop_one, List.tail_cons, ← tw_eq_take]
      rw [if_neg hn1, hk, hct, setS_neg]
      have hpr : (r.takeWhile n93).all printS = true := by
        rw [List.all_eq_true] at hp ⊢
        exact fun x hx => hp.2 x ((List.takeWhile_sublist _).subset hx)
      have hS : setR g i = (⟨5, 0, (negS (r.takeWhile n93)).1, (rangesS (negS (r.takeWhile n93)).2 []).1⟩, if (rangesS (negS (r.takeWhile n93)).2 []).2 then ((i + 1 + (r.takeWhile n93).length + 1 : Nat) : Int) else -1) := by
        rw [setR, if_neg (by rw [hb]; omega), hb]
      rw [hS]
      cases h2 : (rangesS (negS (r.takeWhile n93)).2 []).2 with
      | false => simp
      | true =>
        have hneg : ¬ decide (((i + 1 + (r.takeWhile n93).length + 1 : Nat) : Int) < 0) = true := by simp; omega
        simp only [Bool.true_eq_false, if_false, hpr, if_true, if_neg hneg]
        refine ⟨.inr (.inr (.inr (.inr rfl))), i + 1 + (r.takeWhile n93).length + 1, by simp [conv]; omega, ?_, by omega, by omega⟩
        rw [List.drop_succ_cons, ← hr, List.drop_drop]
        congr 1
    · rw [if_neg (by omega)] at hib
      have hS : setR g i = (⟨5, 0, false, []⟩, -1) := by rw [setR, if_pos (by rw [hb]; omega)]
      rw [if_pos hib, hS]
      rfl
  by_cases h93 : ((c.toNat : Int) == 93) = true
  · have hE : stepE g i = none := by rw [stepE, hc, if_neg h91, if_pos h93]
    have hG : stepG (c :: r) c r = none := by rw [stepG, if_neg n1, if_neg n2, if_pos h93]
    rw [hG]; exact hE
  by_cases h42 : ((c.toNat : Int) == 42) = true
  · have e := toNat_int (n := 42) h42 (by decide)
    have e : c = 42 := e
    subst e
    have hE : stepE g i = if decide ((runR g i : Int) > 2) = true then none else some (⟨2 + runR g i, 0, false, []⟩, i + runR g i) := by rw [stepE, hc]; rfl
    have hrun : runR g i = 1 + (r.takeWhile is42).length := by rw [runR, hr]
    have hG : stepG (42 :: r) 42 r = if ([42, 42] : List UInt8).isPrefixOf r = true then none else if ([42] : List UInt8).isPrefixOf r = true then some (⟨1, 42, false, []⟩, r.drop 1) else some (⟨2, 42, false, []⟩, r) := rfl
    have d42 : ∀ d : UInt8, is42 d = (42 == d) := fun d => by
      unfold is42
      by_cases h : d = 42
      · subst h; rfl
      · have h1 : ((42 : UInt8) == d) = false := by simp; exact fun e => h e.symm
        rw [h1]
        cases hb : ((d.toNat : Int) == 42) with
        | false => rfl
        | true => exact absurd (toNat_int (n := 42) hb (by decide)) h
    rw [hG, hE, hrun]
    have one : (⟨2, 42, false, []⟩ : El) = ⟨2, 42, false, []⟩ := rfl
    match r, hr, hrl with
    | [], hr, hrl =>
      simp only [List.isPrefixOf, Bool.false_eq_true, if_false]
      refine ⟨.inr (.inr (.inl rfl)), i + 1, ?_, hr.symm, by omega, by omega⟩
      simp [conv]
    | d :: r', hr, hrl =>
      cases hd : is42 d with
      | false =>
        have hd' : ((42 : UInt8) == d) = false := by rw [← d42]; exact hd
        simp only [List.isPrefixOf, hd', Bool.false_and, Bool.false_eq_true, if_false, List.takeWhile_cons, hd, List.length_nil]
        refine ⟨.inr (.inr (.inl rfl)), i + 1, ?_, hr.symm, by omega, by omega⟩
        simp [conv]
      | true =>
        have hd' : ((42 : UInt8) == d) = true := by rw [← d42]; exact hd
        match r', hr, hrl with
        | [], hr, hrl =>
          simp only [List.isPrefixOf, hd', Bool.true_and, Bool.and_false, Bool.false_eq_true, if_false, if_true, List.takeWhile_cons, hd, List.takeWhile_nil, List.length_cons, List.length_nil]
          refine ⟨.inr (.inl rfl), i + 2, ?_, ?_, by omega, by simp at hrl; omega⟩
          · simp [conv]
          · rw [← hr, List.drop_drop]
        | e :: r'', hr, hrl =>
          cases he : is42 e with
          | false =>
            have he' : ((42 : UInt8) == e) = false := by rw [← d42]; exact he
            simp only [List.isPrefixOf, hd', he', Bool.false_and, Bool.and_false, Bool.and_true, Bool.false_eq_true, if_false, if_true, List.takeWhile_cons, hd, he, List.length_cons, List.length_nil]
            refine ⟨.inr (.inl rfl), i + 2, ?_, ?_, by omega, by simp at hrl; omega⟩
            · simp [conv]
            · rw [← hr, List.drop_drop]
          | true =>
            have he' : ((42 : UInt8) == e) = true := by rw [← d42]; exact he
            simp only [List.isPrefixOf, hd', he', Bool.and_self, if_true, List.takeWhile_cons, hd, he, List.length_cons]
            rw [if_pos (by simp; omega)]
  have pf : ∀ l : List UInt8, (42 :: l).isPrefixOf (c :: r) = false := fun l => by
    have h1 : ((42 : UInt8) == c) = false := by
      cases h : ((42 : UInt8) == c) with
      | false => rfl
      | true =>
        have : (42 : UInt8) = c := by simpa using h
        subst this
        exact absurd rfl h42
    simp only [List.isPrefixOf, h1, Bool.false_and]
  have p3 := pf [42, 42]
  have p2 := pf [42]
  by_cases h63 : ((c.toNat : Int) == 63) = true
  · have hE : stepE g i = some (⟨2, 0, false, []⟩, i + 1) := by rw [stepE, hc, if_neg h91, if_neg h93, if_neg h42, if_pos h63]
    have hG : stepG (c :: r) c r = some (⟨3, c, false, []⟩, r) := by rw [stepG, if_neg n1, if_neg n2, if_neg h93, if_neg (by rw [p3]; simp), if_neg (by rw [p2]; simp), if_neg h42, if_pos h63]
    rw [hG]
    exact ⟨.inr (.inr (.inr (.inl rfl))), i + 1, hE, hr.symm, by omega, by omega⟩
  · have hE : stepE g i = some (⟨1, c, false, []⟩, i + 1) := by rw [stepE, hc, if_neg h91, if_neg h93, if_neg h42, if_neg h63]
    have hG : stepG (c :: r) c r = some (⟨0, c, false, []⟩, r) := by rw [stepG, if_neg n1, if_neg n2, if_neg h93, if_neg (by rw [p3]; simp), if_neg (by rw [p2]; simp), if_neg h42, if_neg h63, if_neg h91]
    rw [hG]
    exact ⟨.inl rfl, i + 1, hE, hr.symm, by omega, by omega⟩
theorem drop_getD {g : List UInt8} {i : Nat} (h : i < g.length) : g.drop i = g.getD i 0 :: g.drop (i + 1) := by
  rw [List.drop_eq_getElem_cons h]
  simp [List.getD_eq_getElem?_getD, h]
/-- where all bytes are printable, both read the same -/
theorem elems_parse {g : List UInt8} (hp : g.all printS = true) : ∀ (n i : Nat) (acc : List El), i ≤ g.length → elemsA g n i (acc.map conv) = (parseA n (g.drop i) acc).map (List.map conv)
  | 0, _, _, _ => by rw [elemsA, parseA]; rfl
  | n + 1, i, acc, hi => by
    by_cases h : g.length ≤ i
    · have : g.drop i = [] := by simp; omega
      rw [elemsA_end h, this, parseA_nil]; rfl
    · have hd := drop_getD (g := g) (i := i) (by omega)
      have hpr : (g.getD i 0 :: g.drop (i + 1)).all printS = true := by
        rw [← hd]
        rw [List.all_eq_true] at hp ⊢
        exact fun x hx => hp x (List.mem_of_mem_drop hx)
      have hs := stepG_E (g := g) (i := i) (by omega) rfl rfl hpr
      rw [hd]
      cases hG : stepG (g.getD i 0 :: g.drop (i + 1)) (g.getD i 0) (g.drop (i + 1)) with
      | none =>
        rw [hG] at hs
        rw [parseA_none hG, elemsA_none (by omega) hs]; rfl
      | some q =>
        obtain ⟨x, rest⟩ := q
        rw [hG] at hs
        obtain ⟨_, j, h1, h2, h3, h4⟩ := hs
        simp only at h2
        subst h2
        rw [parseA_some hG, elemsA_some (by omega) h1, ← elems_parse hp n j (acc ++ [x]) h4]
        simp
/-- what the code reads has the code's kinds, and is printable -/
theorem stepG_print {c : UInt8} {r : List UInt8} {x : El} {rest : List UInt8} (h : stepG (c :: r) c r = some (x, rest)) : kOk x ∧ ∃ pre, c :: r = pre ++ rest ∧ pre.all printS = true := by
  unfold stepG at h
  by_cases h0 : decide ((c.toNat : Int) < 33) = true
  · rw [if_pos h0] at h; cases h
  rw [if_neg h0] at h
  by_cases h1 : decide ((c.toNat : Int) > 126) = true
  · rw [if_pos h1] at h; cases h
  rw [if_neg h1] at h
  have hc : printS c = true := by
    unfold printS
    simp only [Bool.not_eq_true] at h0 h1
    rw [h0, h1]; rfl
  have hone : ∃ pre, c :: r = pre ++ r ∧ pre.all printS = true := ⟨[c], rfl, by simp [hc]⟩
  by_cases h2 : ((c.toNat : Int) == 93) = true
  · rw [if_pos h2] at h; cases h
  rw [if_neg h2] at h
  by_cases h3 : ([42, 42, 42] : List UInt8).isPrefixOf (c :: r) = true
  · rw [if_pos h3] at h; cases h
  rw [if_neg h3] at h
  by_cases h4 : ([42, 42] : List UInt8).isPrefixOf (c :: r) = true
  · rw [if_pos h4] at h
    cases h
    obtain ⟨t, ht⟩ := List.isPrefixOf_iff_prefix.1 h4
    refine ⟨.inr (.inl rfl), [42, 42], ?_, rfl⟩
    rw [← ht]; rfl
  rw [if_neg h4] at h
  by_cases h5 : ((c.toNat : Int) == 42) = true
  · rw [if_pos h5] at h; cases h; exact ⟨.inr (.inr (.inl rfl)), hone⟩
  rw [if_neg h5] at h
  by_cases h6 : ((c.toNat : Int) == 63) = true
  · rw [if_pos h6] at h; cases h; exact ⟨.inr (.inr (.inr (.inl rfl))), hone⟩
  rw [if_neg h6] at h
  by_cases h7 : ((c.toNat : Int) == 91) = true
  · rw [if_pos h7] at h
    have e : c = 91 := toNat_int (n := 91) h7 (by decide)
    subst e
    by_cases h8 : Lib.indexByte (91 :: r) 93 = -1
    · rw [if_pos h8] at h; cases h
    rw [if_neg h8] at h
    have hib := ib_tw (91 :: r)
    have htw : (91 :: r : List UInt8).takeWhile n93 = 91 :: r.takeWhile n93 := rfl
    rw [htw] at hib
    simp only [List.length_cons] at hib
    by_cases hlt : (r.takeWhile n93).length < r.length
    · rw [if_pos (by omega)] at hib
      have hk : (Lib.indexByte (91 :: r) 93).toNat = (r.takeWhile n93).length + 1 := by rw [hib]; rfl
      have hct : ((91 :: r).take ((r.takeWhile n93).length + 1)).drop 1 = r.takeWhile n93 := by
        rw [List.take_succ_cons, List.drop_one, List.tail_cons, ← tw_eq_take]
      rw [hk, hct] at h
      by_cases h9 : (setS (r.takeWhile n93)).2 = false
      · rw [if_pos h9] at h; cases h
      rw [if_neg h9] at h
      by_cases h10 : (r.takeWhile n93).all printS = false
      · rw [if_pos h10] at h; cases h
      rw [if_neg h10] at h
      cases h
      refine ⟨by rw [setS_neg]; exact .inr (.inr (.inr (.inr rfl))), 91 :: r.takeWhile n93 ++ [93], ?_, ?_⟩
      · have h93 : r.drop (r.takeWhile n93).length = 93 :: r.drop ((r.takeWhile n93).length + 1) := by
          rw [List.drop_eq_getElem_cons hlt]
          congr 1
          have hq : n93 r[(r.takeWhile n93).length] = false := by
            have := List.head?_dropWhile_not n93 r
            have h2 : r.dropWhile n93 = r.drop (r.takeWhile n93).length := by
              have h3 := List.takeWhile_append_dropWhile (p := n93) (l := r)
              have h4 : r.drop (r.takeWhile n93).length = (r.takeWhile n93 ++ r.dropWhile n93).drop (r.takeWhile n93).length := by rw [h3]
              rw [h4, List.drop_left]
            rw [h2, List.drop_eq_getElem_cons hlt] at this
            exact this
          rw [n93_eq] at hq
          simpa using hq
        have : r = r.takeWhile n93 ++ r.drop (r.takeWhile n93).length := by
          conv => lhs; rw [← List.take_append_drop (r.takeWhile n93).length r]
          rw [← tw_eq_take]
        simp only [List.drop_succ_cons]
        conv => lhs; rw [this, h93]
        simp
      · simp only [Bool.not_eq_false] at h10
        rw [List.all_append, List.all_cons, h10]; rfl
    · rw [if_neg (by omega)] at hib
      exact absurd hib h8
  · rw [if_neg h7] at h; cases h; exact ⟨.inl rfl, hone⟩
theorem parse_print : ∀ (n : Nat) (g : List UInt8) (acc l : List El), (∀ x ∈ acc, kOk x) → parseA n g acc = some l → g.all printS = true ∧ ∀ x ∈ l, kOk x
  | 0, g, acc, l, _, h => by simp [parseA] at h
  | n + 1, [], acc, l, ha, h => by rw [parseA_nil] at h; cases h; exact ⟨rfl, ha⟩
  | n + 1, c :: r, acc, l, ha, h => by
    cases hs : stepG (c :: r) c r with
    | none => rw [parseA_none hs] at h; cases h
    | some p =>
      obtain ⟨x, rest⟩ := p
      rw [parseA_some hs] at h
      obtain ⟨hk, pre, h1, h2⟩ := stepG_print hs
      have := parse_print n rest (acc ++ [x]) l (by
        intro y hy
        rcases List.mem_append.1 hy with hy | hy
        · exact ha y hy
        · simp only [List.mem_singleton] at hy; subst hy; exact hk) h
      refine ⟨?_, this.2⟩
      rw [h1, List.all_append, h2, this.1]; rfl
theorem print_out (g : List UInt8) : g.any outP = !g.all printS := by
  rw [List.not_all_eq_any_not]
  congr 1
  funext c
  simp [outP, printS]
theorem elemsP_eq {g : List UInt8} (hp : g.all printS = true) : elemsP g = (globP g).map (List.map conv) := by
  have := elems_parse hp (g.length + 1) 0 [] (by omega)
  simpa [elemsP, globP] using this
/-- right by the code and by the document -/
theorem right_same (g : List UInt8) : rightR g = globRightS g := by
  unfold rightR globRightS
  cases h : decide ((g.length : Int) > 60) with
  | true => rfl
  | false =>
    simp only [Bool.false_eq_true, if_false]
    rw [print_out]
    cases hp : g.all printS with
    | true =>
      rw [elemsP_eq hp]
      cases globP g <;> rfl
    | false =>
      cases hq : globP g with
      | none => rfl
      | some l =>
        have := (parse_print _ g [] l (by simp) hq).1
        rw [hp] at this
        cases this
end Go.Proofs
