/- V, part 26: arguments that a reader can read are data of V. -/
import Derived.Test.YtfhkgkijljfcfaaV24
import Derived.ChangeArms
import Derived.Deep.Slices
set_option linter.unusedVariables false
set_option linter.unusedSimpArgs false
namespace Go.V
open Go.RowKit

def isStruct (P : Program) (t : TypeId) : Bool := match P.underlying t with | some (.struct _) => true | _ => false

def stOk (P : Program) (t : TypeId) : VV → Bool
  | .agg _ => isStruct P t
  | _ => !isStruct P t

/-- the fields lie one behind the other -/
def lay (P : Program) : List Field → Nat → Nat → Bool
  | [], o, n => o == n
  | f :: l, o, n => f.offset == o && lay P l (o + P.cellsOf f.type) n

/-- a set of types, closed: numbers, bools, strings, slices, structs -/
def closedB (P : Program) (S : List TypeId) : Bool := S.all fun t => match P.underlying t with
  | some .bool | some (.int _) | some .string => P.cellsOf t == 1
  | some (.slice e) => P.cellsOf t == 1 && S.contains e && 0 < P.cellsOf e
  | some (.struct fs) => fs.toList.all (fun f => S.contains f.type) && lay P fs.toList 0 (P.cellsOf t)
  | _ => false

def fieldsOk (P : Program) (r : TypeId → List VV → Bool) : List Field → List VV → Bool
  | [], vs => vs.isEmpty
  | f :: l, vs => decide (P.cellsOf f.type ≤ vs.length) && r f.type (vs.take (P.cellsOf f.type)) && fieldsOk P r l (vs.drop (P.cellsOf f.type))

/-- cells of a type, as data -/
def tyOk (P : Program) : Nat → TypeId → List VV → Bool
  | 0, _, _ => false
  | n + 1, t, vs => match P.underlying t, vs with
    | some .bool, [.bool _] => true
    | some (.int k), [.int k' m] => decide (k' = k) && (Lit.int k m).wf
    | some .string, [.str s] => decide (s.length ≤ maxLen)
    | some (.slice e), [.sl es t] => t == 0 && decide (es.length ≤ maxLen) && es.all fun v => tyOk P n e v.cells && stOk P e v
    | some (.struct fs), vs => fieldsOk P (tyOk P n) fs.toList vs
    | _, _ => false

/-- every block's cells are data that nobody turns -/
def Fof (w : World) (b : Nat) : Nat := match w.heap[b]? with | some (.cells c _ _) => c.size | _ => 0

section
variable {P : Program} {H : Type} {enc : TypeId × Value → H} {w : World} {base : Nat} {spare : Nat → Bool} {held : Bool} {tb : Nat → Option Nat}

theorem Fof_zero {b : Nat} (h : w.heap.size ≤ b) : Fof w b = 0 := by
  unfold Fof
  rw [Array.getElem?_eq_none h]

theorem cell_plain {a : Addr} {v : Value} (h : w.cell? a = some v) : a.spot = none ∧ a.off < Fof w a.block := by
  unfold World.cell? at h
  split at h
  · rename_i c _ _ hb
    split at h
    · cases h
    · rename_i hs
      refine ⟨by simpa using hs, ?_⟩
      unfold Fof
      rw [hb]
      exact (Array.getElem?_eq_some_iff.1 h).1
  · cases h

theorem cell_add {a : Addr} {k : Nat} {v : Value} (h : w.cell? (a.add k) = some v) : w.cell? ⟨a.block, a.off + k, none⟩ = some v := by
  have hp := cell_plain h
  unfold Addr.add at h hp
  split at h
  · rename_i e
    subst e
    simp only [if_true] at hp
    obtain ⟨b, o, s⟩ := a
    simp only at hp
    obtain ⟨rfl, _⟩ := hp
    exact h
  · exact h

theorem cell_add2 {a : Addr} {k j : Nat} {v : Value} (h : w.cell? ((a.add k).add j) = some v) : w.cell? ⟨a.block, a.off + k + j, none⟩ = some v := by
  have := cell_add h
  unfold Addr.add at this
  split at this
  · rename_i e; subst e; exact this
  · exact this

theorem mapM_get {α β : Type} {f : α → Option β} : ∀ {l : List α} {r : List β}, l.mapM f = some r → r.length = l.length ∧ ∀ i (h : i < l.length) (h' : i < r.length), f l[i] = some r[i]
  | [], r, h => by simp at h; subst h; exact ⟨rfl, fun i h => absurd h (by simp)⟩
  | x :: l, r, h => by
    simp only [List.mapM_cons, Option.bind_eq_bind, Option.bind_eq_some_iff, Option.pure_def, Option.some.injEq] at h
    obtain ⟨y, hy, s, hs, rfl⟩ := h
    obtain ⟨h1, h2⟩ := mapM_get hs
    refine ⟨by simp [h1], fun i h h' => ?_⟩
    cases i with
    | zero => exact hy
    | succ i => exact h2 i (by simpa using h) (by simpa using h')

theorem cells_get {a : Addr} {n : Nat} {l : List Value} (h : w.cells? base a n = some l) : l.length = n ∧ ∀ j (h : j < l.length), w.cell? (a.add j) = some l[j] := by
  unfold World.cells? at h
  split at h
  · obtain ⟨h1, h2⟩ := mapM_get h
    simp only [List.length_range] at h1 h2
    refine ⟨h1, fun j hj => ?_⟩
    have := h2 j (by omega) hj
    simpa using this
  · cases h

/-- data cell by cell -/
structure Data (P : Program) (w : World) (tb : Nat → Option Nat) (n : Nat) (t : TypeId) (vs : List VV) (cs : List Value) : Prop where
  len : vs.length = cs.length
  rep : ∀ j (h : j < vs.length) (h' : j < cs.length), Rep w (Fof w) tb vs[j] cs[j]
  canon : vs.all VV.canon0 = true
  ty : tyOk P n t vs = true

theorem canon0_cells {v : VV} (h : v.canon0 = true) : v.cells = [v] := by
  cases v <;> first | rfl | (simp [VV.canon0] at h)

theorem canon_of0 {v : VV} (h : v.canon0 = true) : v.canon = true := by
  cases v <;> first | exact h | (simp [VV.canon0] at h)

/-- the element of a slice that these cells are -/
def mkE (P : Program) (e : TypeId) (vs : List VV) : VV := if isStruct P e then .agg vs else vs.headD .dead

theorem mkE_ok {n : Nat} {e : TypeId} {vs : List VV} (hc : vs.all VV.canon0 = true) (h1 : isStruct P e = false → vs.length = 1) (ht : tyOk P n e vs = true) :
    (mkE P e vs).cells = vs ∧ (mkE P e vs).canon = true ∧ (tyOk P n e (mkE P e vs).cells && stOk P e (mkE P e vs)) = true := by
  unfold mkE
  cases hs : isStruct P e with
  | true => exact ⟨rfl, hc, by simp [VV.cells, ht, stOk, hs]⟩
  | false =>
    obtain ⟨v, rfl⟩ := List.length_eq_one_iff.1 (h1 hs)
    simp only [List.all_cons, List.all_nil, Bool.and_true] at hc
    simp only [Bool.false_eq_true, if_false, List.headD_cons]
    rw [canon0_cells hc]
    refine ⟨rfl, canon_of0 hc, ?_⟩
    rw [ht]
    cases v <;> first | (simp [stOk, hs]; done) | (simp [VV.canon0] at hc)

theorem lay_le : ∀ {l : List Field} {o n : Nat}, lay P l o n = true → o ≤ n
  | [], o, n, h => by simp only [lay, beq_iff_eq] at h; omega
  | f :: l, o, n, h => by
    simp only [lay, Bool.and_eq_true] at h
    have := lay_le h.2
    omega

theorem struct_data {n : Nat} {cs : List Value} : ∀ (l : List Field) (o : Nat), lay P l o cs.length = true → (∀ f ∈ l, ∃ vs, Data P w tb n f.type vs ((cs.drop f.offset).take (P.cellsOf f.type))) →
    ∃ us : List VV, us.length = (cs.drop o).length ∧ (∀ j (h : j < us.length) (h' : j < (cs.drop o).length), Rep w (Fof w) tb us[j] (cs.drop o)[j]) ∧ us.all VV.canon0 = true ∧ fieldsOk P (tyOk P n) l us = true
  | [], o, hl, _ => by
    simp only [lay, beq_iff_eq] at hl
    exact ⟨[], by simp [hl], fun j h => absurd h (by simp), rfl, rfl⟩
  | f :: l, o, hl, h => by
    simp only [lay, Bool.and_eq_true, beq_iff_eq] at hl
    obtain ⟨rfl, hl⟩ := hl
    obtain ⟨vs, hd⟩ := h f (by simp)
    obtain ⟨us, h1, h2, h3, h4⟩ := struct_data l _ hl fun g hg => h g (by simp [hg])
    have hle := lay_le hl
    have hlen : vs.length = P.cellsOf f.type := by have := hd.len; simp at this; omega
    refine ⟨vs ++ us, by simp [h1, hlen]; omega, fun j hj hj' => ?_, by rw [List.all_append, hd.canon, h3]; rfl, ?_⟩
    · by_cases e : j < vs.length
      · rw [List.getElem_append_left e]
        have := hd.rep j e (by rw [← hd.len]; exact e)
        simpa using this
      · have e' : vs.length ≤ j := by omega
        rw [List.getElem_append_right e']
        have hb : j - vs.length < us.length := by simp at hj; omega
        have := h2 (j - vs.length) hb (by rw [← h1]; exact hb)
        simp only [List.getElem_drop] at this ⊢
        have e3 : f.offset + P.cellsOf f.type + (j - vs.length) = f.offset + j := by omega
        simpa [e3] using this
    · simp only [fieldsOk, ← hlen, List.take_left', List.drop_left', Bool.and_eq_true, decide_eq_true_eq, List.length_append]
      exact ⟨⟨by omega, hd.ty⟩, h4⟩

theorem elems_data {n : Nat} {e : TypeId} {b o sz : Nat} : ∀ (m : Nat), (∀ i, i < m → ∃ cs vs, cs.length = sz ∧ (∀ j (h : j < cs.length), w.cell? ⟨b, o + i * sz + j, none⟩ = some cs[j]) ∧ Data P w tb n e vs cs) →
    ∃ L : List (List VV), L.length = m ∧ ∀ i (h : i < L.length), L[i].length = sz ∧ L[i].all VV.canon0 = true ∧ tyOk P n e L[i] = true ∧ ∀ j (h : j < L[i].length), ∃ x, w.cell? ⟨b, o + i * sz + j, none⟩ = some x ∧ Rep w (Fof w) tb L[i][j] x
  | 0, _ => ⟨[], rfl, fun i h => absurd h (by simp)⟩
  | m + 1, h => by
    obtain ⟨L, h1, h2⟩ := elems_data m fun i hi => h i (by omega)
    obtain ⟨cs, vs, k1, k2, k3⟩ := h m (by omega)
    refine ⟨L ++ [vs], by simp [h1], fun i hi => ?_⟩
    by_cases q : i < L.length
    · simp only [List.getElem_append_left q]
      exact h2 i q
    · have e1 : i = L.length := by simp at hi; omega
      subst e1
      simp only [List.getElem_append_right (Nat.le_refl _), Nat.sub_self, List.getElem_cons_zero]
      refine ⟨k3.len.trans k1, k3.canon, k3.ty, fun j hj => ?_⟩
      have hj' : j < cs.length := by rw [← k3.len]; exact hj
      exact ⟨cs[j], by rw [h1]; exact k2 j hj', k3.rep j hj hj'⟩

theorem scalar_len {S : List TypeId} (hS : closedB P S = true) {e : TypeId} (he : e ∈ S) (hs : isStruct P e = false) : P.cellsOf e = 1 := by
  have h := List.all_eq_true.1 hS e he
  unfold isStruct at hs
  split at h <;> simp_all

theorem trod_data {S : List TypeId} (hS : closedB P S = true) : ∀ (n : Nat) (t : TypeId) (cs : List Value) (x : DataW H × List MemPlace), t ∈ S → DataW.trod enc P w base spare held n t cs = some x → ∃ vs, Data P w tb n t vs cs
  | 0, t, cs, x, _, h => by simp [DataW.trod] at h
  | n + 1, t, cs, x, ht, h => by
    have hc := List.all_eq_true.1 hS t ht
    cases hu : P.underlying t with
    | none => rw [hu] at hc; cases hc
    | some d =>
      rw [hu] at hc
      cases d <;> simp only [Bool.false_eq_true] at hc
      case bool =>
        obtain ⟨b, rfl, _⟩ := DataW.trod_bool hu h
        exact ⟨[.bool b], rfl, fun j hj hj' => by obtain rfl : j = 0 := by simp at hj; omega
                                                  exact .bool b, rfl, by simp only [tyOk, hu]⟩
      case int k =>
        obtain ⟨m, rfl, _, hw⟩ := DataW.trod_int hu h
        exact ⟨[.int k m], rfl, fun j hj hj' => by obtain rfl : j = 0 := by simp at hj; omega
                                                   exact .int k m, rfl, by simp only [tyOk, hu]; simp [hw]⟩
      case string =>
        obtain ⟨b, rfl, _, hw⟩ := DataW.trod_string hu h
        exact ⟨[.str b.data.toList], rfl, fun j hj hj' => by obtain rfl : j = 0 := by simp at hj; omega
                                                             exact .str rfl, rfl, by simp only [tyOk, hu]; exact decide_eq_true (show b.data.toList.length ≤ maxLen by rw [Array.length_toList]; exact hw)⟩
      case slice e =>
        simp only [Bool.and_eq_true, beq_iff_eq, decide_eq_true_eq] at hc
        obtain ⟨⟨hsz1, heS⟩, hsz⟩ := hc
        have heS : e ∈ S := by simpa using heS
        rcases DataW.trod_slice hu h with ⟨rfl, _⟩ | ⟨a, len, cap, elems, rest, n', hn, rfl, _, _, hlc, hcap, hel, hget, _, _⟩
        · exact ⟨[.sl [] 0], rfl, fun j hj hj' => by obtain rfl : j = 0 := by simp at hj; omega
                                                     exact .slE, rfl, by simp only [tyOk, hu]; simp⟩
        · obtain rfl : n' = n := by omega
          have each : ∀ i, i < len → ∃ cs vs, cs.length = P.cellsOf e ∧ (∀ j (h : j < cs.length), w.cell? ⟨a.block, a.off + i * P.cellsOf e + j, none⟩ = some cs[j]) ∧ Data P w tb n' e vs cs := fun i hi => by
            have hg := hget i hi
            have hsome : elems[i]? = some (elems[i]'(by omega)) := List.getElem?_eq_getElem (by omega)
            rw [hsome] at hg
            simp only [Option.bind_eq_some_iff] at hg
            obtain ⟨cs', hcs, htr⟩ := hg
            obtain ⟨vs, hd⟩ := trod_data hS n' e cs' _ heS htr
            obtain ⟨hl, hcell⟩ := cells_get hcs
            exact ⟨cs', vs, hl, fun j hj => cell_add2 (hcell j hj), hd⟩
          obtain ⟨L, hL, hLp⟩ := elems_data len each
          have hmk : ∀ i (h : i < L.length), (mkE P e L[i]).cells = L[i] ∧ (mkE P e L[i]).canon = true ∧ (tyOk P n' e (mkE P e L[i]).cells && stOk P e (mkE P e L[i])) = true := fun i hi =>
            mkE_ok (hLp i hi).2.1 (fun hs => by rw [(hLp i hi).1, scalar_len hS heS hs]) (hLp i hi).2.2.1
          refine ⟨[.sl (L.map (mkE P e)) 0], rfl, fun j hj hj' => ?_, rfl, ?_⟩
          · obtain rfl : j = 0 := by simp at hj; omega
            simp only [List.getElem_cons_zero]
            by_cases h0 : len = 0
            · have : L = [] := List.eq_nil_of_length_eq_zero (by omega)
              subst this
              subst h0
              exact .slE
            · have h0L : 0 < L.length := by omega
              obtain ⟨y, hy, _⟩ := (hLp 0 h0L).2.2.2 0 (by rw [(hLp 0 h0L).1]; exact hsz)
              have hspot : a = ⟨a.block, a.off, none⟩ := by
                have hg := hget 0 (by omega)
                have hsome : elems[0]? = some (elems[0]'(by omega)) := List.getElem?_eq_getElem (by omega)
                rw [hsome] at hg
                simp only [Option.bind_eq_some_iff] at hg
                obtain ⟨cs', hcs, _⟩ := hg
                obtain ⟨hl, hcell⟩ := cells_get hcs
                have := (cell_plain (hcell 0 (by omega))).1
                simp only [Nat.zero_mul, Addr.add, if_true] at this
                obtain ⟨b, o, s⟩ := a
                simp only at this
                subst this
                rfl
              rw [hspot]
              have hlen2 : (L.map (mkE P e)).length = len := by simp [hL]
              have hR := Rep.sl (w := w) (F := Fof w) (tb := tb) (es := L.map (mkE P e)) (t := 0) (b := a.block) (o := a.off) (cap := cap) (sz := P.cellsOf e) (fun i j => (w.cell? ⟨a.block, a.off + i * P.cellsOf e + j, none⟩).getD Go.undef)
                (by intro q; rw [q] at hlen2; simp at hlen2; omega) (by rw [hlen2]; exact hlc) hsz
                (fun i hi => by
                  have hi' : i < L.length := by simpa using hi
                  simp only [List.getElem_map]
                  exact ⟨(hmk i hi').2.1, by rw [(hmk i hi').1]; exact (hLp i hi').1⟩)
                (fun i hi j hj => by
                  have hi' : i < L.length := by simpa using hi
                  simp only [List.getElem_map, (hmk i hi').1] at hj
                  obtain ⟨y, hy, _⟩ := (hLp i hi').2.2.2 j hj
                  rw [hy]; rfl)
                (fun i hi j hj => by
                  have hi' : i < L.length := by simpa using hi
                  simp only [List.getElem_map, (hmk i hi').1] at hj ⊢
                  obtain ⟨y, hy, hr⟩ := (hLp i hi').2.2.2 j hj
                  rw [hy]; exact hr)
                (by
                  rw [hlen2]
                  have hlast : len - 1 < L.length := by omega
                  obtain ⟨y, hy, _⟩ := (hLp (len - 1) hlast).2.2.2 (P.cellsOf e - 1) (by rw [(hLp _ hlast).1]; omega)
                  have := (cell_plain hy).2
                  simp only at this
                  have e1 : len * P.cellsOf e = (len - 1) * P.cellsOf e + P.cellsOf e := by
                    obtain ⟨k, rfl⟩ : ∃ k, len = k + 1 := ⟨len - 1, by omega⟩
                    simp [Nat.add_mul]
                  omega)
              rw [hlen2] at hR
              exact hR
          · simp only [tyOk, hu, Bool.and_eq_true, decide_eq_true_eq, List.length_map, beq_self_eq_true, true_and]
            refine ⟨by omega, List.all_eq_true.2 fun v hv => ?_⟩
            obtain ⟨q, hq, rfl⟩ := List.mem_map.1 hv
            obtain ⟨i, hi, rfl⟩ := List.getElem_of_mem hq
            exact (hmk i hi).2.2
      case struct fs =>
        simp only [Bool.and_eq_true] at hc
        obtain ⟨xs, n', hn, _, hlen, hxl, hf⟩ := DataW.trod_struct hu h
        obtain rfl : n' = n := by omega
        have hlay : lay P fs.toList 0 cs.length = true := by rw [hlen]; exact hc.2
        obtain ⟨us, h1, h2, h3, h4⟩ := struct_data (w := w) (tb := tb) (n := n') fs.toList 0 hlay fun f hfm => by
          obtain ⟨i, hi, rfl⟩ := List.getElem_of_mem hfm
          have hi' : i < fs.size := by simpa using hi
          have hfi : fs[i]? = some fs.toList[i] := by simp [hi']
          have hx := hf i _ hfi
          have hsome : xs[i]? = some (xs[i]'(by omega)) := List.getElem?_eq_getElem (by omega)
          rw [hsome] at hx
          exact trod_data hS n' _ _ _ (by have := List.all_eq_true.1 hc.1 _ hfm; simpa using this) hx
        refine ⟨us, by simpa using h1, fun j hj hj' => by simpa using h2 j hj (by simpa using hj'), h3, ?_⟩
        simp only [tyOk, hu]
        exact h4

end
end Go.V
