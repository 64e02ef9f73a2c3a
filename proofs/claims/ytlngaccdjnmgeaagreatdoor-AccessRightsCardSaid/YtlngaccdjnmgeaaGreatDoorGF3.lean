/- V, proofs: the document's elements of a pattern of paths, and whether it is right. Conditions: the pattern's length. -/
import Derived.Test.YtlngaccdjnmgeaaGreatDoorGF2
set_option linter.unusedVariables false
set_option linter.unusedSimpArgs false
namespace Go.Proofs
open Go.V Go.RowKit

theorem tw_takeP {p : UInt8 → Bool} {r : List UInt8} {k : Nat} (h : (r.take k).all p = true) (he : r.length ≤ k ∨ ∃ c, r[k]? = some c ∧ p c = false) : r.takeWhile p = r.take k := by
  induction r generalizing k with
  | nil => simp
  | cons a t ih =>
    cases k with
    | zero =>
      rcases he with he | ⟨c, hc, hn⟩
      · simp at he
      · simp only [List.getElem?_cons_zero, Option.some.injEq] at hc
        subst hc
        simp [List.takeWhile_cons, hn]
    | succ k =>
      simp only [List.take_succ_cons, List.all_cons, Bool.and_eq_true] at h
      rw [List.takeWhile_cons, if_pos h.1, List.take_succ_cons, ih h.2]
      rcases he with he | ⟨c, hc, hn⟩
      · exact .inl (by simpa using he)
      · exact .inr ⟨c, by simpa using hc, hn⟩
def is42 (c : UInt8) : Bool := (c.toNat : Int) == 42
def runR (g : List UInt8) (i : Nat) : Nat := 1 + ((g.drop (i + 1)).takeWhile is42).length
def stepE (g : List UInt8) (i : Nat) : Option (El × Nat) :=
  if (((g.getD i 0).toNat : Int) == 91) = true then (if decide ((setR g i).2 < 0) = true then none else some ((setR g i).1, (setR g i).2.toNat))
  else if (((g.getD i 0).toNat : Int) == 93) = true then none
  else if (((g.getD i 0).toNat : Int) == 42) = true then (if decide ((runR g i : Int) > 2) = true then none else some (⟨2 + runR g i, 0, false, []⟩, i + runR g i))
  else if (((g.getD i 0).toNat : Int) == 63) = true then some (⟨2, 0, false, []⟩, i + 1)
  else some (⟨1, g.getD i 0, false, []⟩, i + 1)
def elemsA (g : List UInt8) : Nat → Nat → List El → Option (List El)
  | 0, _, _ => none
  | n + 1, i, acc => if g.length ≤ i then some acc else (stepE g i).bind fun p => elemsA g n p.2 (acc ++ [p.1])
theorem elemsA_end {g : List UInt8} {n i : Nat} {acc : List El} (h : g.length ≤ i) : elemsA g (n + 1) i acc = some acc := by rw [elemsA, if_pos h]
theorem elemsA_none {g : List UInt8} {n i : Nat} {acc : List El} (hi : i < g.length) (h : stepE g i = none) : elemsA g (n + 1) i acc = none := by
  rw [elemsA, if_neg (by omega), h]; rfl
theorem elemsA_some {g : List UInt8} {n i j : Nat} {x : El} {acc : List El} (hi : i < g.length) (h : stepE g i = some (x, j)) : elemsA g (n + 1) i acc = elemsA g n j (acc ++ [x]) := by
  rw [elemsA, if_neg (by omega), h]; rfl
theorem eEl_fold0 (k : Int) : VV.agg [.int .i64 k, .int .u8 0, .bool false, .sl [] 0] = eEl ⟨k, 0, false, []⟩ := byRfl rfl
theorem setR_le {g : List UInt8} {i : Nat} (h : decide ((setR g i).2 < 0) = false) : ∃ j, (setR g i).2 = ((j : Nat) : Int) ∧ i < j ∧ j ≤ g.length := by
  unfold setR at h ⊢
  split
  · rename_i q; rw [if_pos q] at h; simp at h
  · rename_i q
    rw [if_neg q] at h
    split
    · exact ⟨_, rfl, by omega, by omega⟩
    · rename_i q2
      simp only [q2] at h
      simp at h
theorem run_le {g : List UInt8} {i : Nat} (h : i < g.length) : i + runR g i ≤ g.length := by
  have : ((g.drop (i + 1)).takeWhile is42).length ≤ (g.drop (i + 1)).length := (List.takeWhile_sublist _).length_le
  rw [List.length_drop] at this
  unfold runR
  omega
def elemsP (g : List UInt8) : Option (List El) := elemsA g (g.length + 1) 0 []

theorem cap_le40 {n : Nat} (h : n ≤ 2000000) : n * 40 ≤ 35184372088832 := Nat.le_trans (Nat.mul_le_mul_right 40 h) (by decide)
theorem c_R02_elems (g : List UInt8) (hg : g.length ≤ 1000000) : PureC PR n_R02_elems [.str g] (parseV (elemsP g)) := by
  refine pure_of_wp m_R02_elems rfl (by simp [argOk_str]) ?_
  unfold FnW v_R02_elems
  simp only [go_sem]
  refine v_for (α := Nat × Nat × List El) (base := 0) (marks := []) (pu := true) (good := fun x => elemsA g (x.1 + 1) x.2.1 x.2.2 = elemsP g ∧ x.2.1 ≤ g.length ∧ g.length ≤ x.1 + x.2.1 ∧ x.2.2.length ≤ x.2.1) (m := fun x => x.1)
    (E := fun x => [(0, .str g), (4, .sl (x.2.2.map eEl) 2), (5, .int .i64 x.2.1)]) (O := fun x => [.tok x.2.2.length 4])
    (by intro i _; simp [go_sem, Obj.idsB]) rfl ?_ (g.length, 0, []) _ ⟨rfl, by simp, by simp, by simp⟩ rfl rfl rfl rfl rfl
  rintro ⟨n, i, acc⟩ ⟨hp, hi, hn, ha⟩
  simp only at hp hi hn ha
  rw [← hp]
  simp only [go_sem]
  have hc : (acc.length + 1) * 40 ≤ 35184372088832 := cap_le40 (by omega)
  refine if_s (fun ht => ?_) (fun hf => ?_)
  case refine_2 =>
    rw [elemsA_end (len_ge hf)]
    simp only [go_sem, parseV]
  have hlt := len_lt ht
  have gi := get_byte (s := g) (i := i) hlt
  have hi0 : (0 : Int) ≤ (i : Int) := by omega
  have hw1 : IntKind.i64.wrap ((i : Int) + 1) = ((i + 1 : Nat) : Int) := wrap_succ (by omega)
  obtain ⟨n, rfl⟩ : ∃ k, n = k + 1 := ⟨n - 1, by omega⟩
  have fail : stepE g i = none → parseV (elemsA g (n + 1 + 1) i acc) = .tup [.sl [] 0, .bool false] := fun h => by rw [elemsA_none hlt h]; rfl
  have next : ∀ (x : El) (j : Nat), stepE g i = some (x, j) → i < j → j ≤ g.length → elemsA g (n + 1) j (acc ++ [x]) = elemsA g (n + 1 + 1) i acc ∧ j ≤ g.length ∧ g.length ≤ n + j ∧ (acc ++ [x]).length ≤ j := fun x j h h1 h2 =>
    ⟨(elemsA_some hlt h).symm, h2, by omega, by simp; omega⟩
  simp only [go_sem, gi, hi0, byteInt]
  refine if_s (fun h91 => ?_) (fun h91 => ?_) <;> simp only [go_sem, gi, hi0, byteInt]
  · refine callW_pure (c_R02_set g i hg hlt) (by simp only [go_sem]) (by simp only [go_sem]) ?_
    simp only [go_sem, eEl_fold']
    cases hs : decide ((setR g i).2 < 0) with
    | true =>
      rw [fail (by rw [stepE, if_pos h91, if_pos hs])]
      simp only [go_sem]
      try exact ⟨rfl, rfl⟩
    | false =>
      obtain ⟨j, hj, hij, hjg⟩ := setR_le hs
      have hst : stepE g i = some ((setR g i).1, j) := by rw [stepE, if_pos h91, if_neg (by rw [hs]; simp), hj]; rfl
      simp only [go_sem, eEl_fold', hc, eEl_canon, eEl_cells, eEl_strip]
      exact ⟨(n, j, acc ++ [(setR g i).1]), next _ _ hst hij hjg, Nat.lt_succ_self _, by simp [go_sem, hj], by simp [go_sem], rfl, rfl, rfl⟩
  refine if_s (fun h93 => ?_) (fun h93 => ?_) <;> simp only [go_sem, gi, hi0, byteInt]
  · rw [fail (by rw [stepE, if_neg (by rw [h91]; simp), if_pos h93])]
    try exact ⟨rfl, rfl⟩
  refine if_s (fun h42 => ?_) (fun h42 => ?_) <;> simp only [go_sem, gi, hi0, byteInt]
  · refine v_for (α := Nat) (base := 0) (marks := []) (pu := true) (good := fun k => i + 1 + k ≤ g.length ∧ ((g.drop (i + 1)).take k).all is42 = true) (m := fun k => g.length - k)
      (E := fun k => [(0, .str g), (4, .sl (acc.map eEl) 2), (5, .int .i64 i), (8, .int .i64 (1 + k : Nat))]) (O := fun x => [.tok acc.length 4])
      (by intro i _; simp [go_sem, Obj.idsB]) rfl ?_ 0 _ ⟨by omega, rfl⟩ rfl rfl rfl rfl rfl
    rintro k ⟨hk, hall⟩
    have hwk : IntKind.i64.wrap ((i : Int) + ((1 + k : Nat) : Int)) = ((i + 1 + k : Nat) : Int) := by
      have e : ((i : Int) + ((1 + k : Nat) : Int)) = ((i + 1 + k : Nat) : Int) := by omega
      rw [e, wrap_nat (by omega)]
    have hwk1 : IntKind.i64.wrap (((1 + k : Nat) : Int) + 1) = ((1 + (k + 1) : Nat) : Int) := wrap_succ (n := 1 + k) (by omega)
    have hwk2 : IntKind.i64.wrap (2 + ((1 + k : Nat) : Int)) = ((2 + (1 + k) : Nat) : Int) := by
      have e : (2 + ((1 + k : Nat) : Int)) = ((2 + (1 + k) : Nat) : Int) := by omega
      rw [e, wrap_nat (by omega)]
    have hk0 : (0 : Int) ≤ ((i + 1 + k : Nat) : Int) := by omega
    -- behind the run
    have fin : runR g i = 1 + k → (decide (((1 + k : Nat) : Int) > 2) = true → stepE g i = none) ∧ (decide (((1 + k : Nat) : Int) > 2) = false → stepE g i = some (⟨((2 + (1 + k) : Nat) : Int), 0, false, []⟩, i + 1 + k)) := fun h => by
      refine ⟨fun q => ?_, fun q => ?_⟩
      · rw [stepE, if_neg (by rw [h91]; simp), if_neg (by rw [h93]; simp), if_pos h42, h, if_pos q]
      · rw [stepE, if_neg (by rw [h91]; simp), if_neg (by rw [h93]; simp), if_pos h42, h, if_neg (by rw [q]; simp)]
        congr 2
        omega
    simp only [go_sem, hwk]
    refine g_s (fun hg1 => ?_) (fun hg1 => ?_) <;> simp only [go_sem, hg1, hwk]
    · have hkl := len_lt hg1
      have gk := get_byte (s := g) (i := i + 1 + k) hkl
      have gk' : (g.drop (i + 1))[k]? = some (g.getD (i + 1 + k) 0) := by rw [List.getElem?_drop]; exact gk
      have hkd : k < (g.drop (i + 1)).length := by simp; omega
      simp only [go_sem, gk, hk0, byteInt, hwk]
      refine if_s (fun h2 => ?_) (fun h2 => ?_)
      · simp only [go_sem]
        refine ⟨k + 1, ⟨by omega, all_step hkd hall ?_⟩, by simp only; omega, by simp only [go_sem, hwk1], rfl, rfl, rfl, rfl⟩
        have : (g.drop (i + 1))[k] = g.getD (i + 1 + k) 0 := by
          have := gk'
          rw [List.getElem?_eq_getElem hkd] at this
          exact Option.some.inj this
        rw [this]
        exact h2
      · have hrun : runR g i = 1 + k := by
          rw [runR, tw_takeP hall (.inr ⟨_, gk', h2⟩), List.length_take]; omega
        obtain ⟨f1, f2⟩ := fin hrun
        simp only [go_sem]
        refine if_s (fun h3 => ?_) (fun h3 => ?_) <;> simp only [go_sem, hwk2, hwk]
        · rw [fail (f1 h3)]
          try exact ⟨rfl, rfl⟩
        · simp only [go_sem, eEl_fold0, hc, eEl_canon, eEl_cells, eEl_strip, hwk]
          exact ⟨(n, i + 1 + k, acc ++ [_]), next _ (i + 1 + k) (f2 h3) (by omega) hk, Nat.lt_succ_self _, by simp [go_sem], by simp [go_sem], rfl, rfl, rfl⟩
    · have hke : g.length ≤ i + 1 + k := len_ge (by rw [hg1]; rfl : decide (((i + 1 + k : Nat) : Int) < (g.length : Int)) = false)
      have hrun : runR g i = 1 + k := by
        rw [runR, tw_takeP hall (.inl (by simp; omega)), List.length_take, List.length_drop]; omega
      obtain ⟨f1, f2⟩ := fin hrun
      refine if_s (fun h3 => ?_) (fun h3 => ?_) <;> simp only [go_sem, hwk2, hwk]
      · rw [fail (f1 h3)]
        try exact ⟨rfl, rfl⟩
      · simp only [go_sem, eEl_fold0, hc, eEl_canon, eEl_cells, eEl_strip, hwk]
        exact ⟨(n, i + 1 + k, acc ++ [_]), next _ (i + 1 + k) (f2 h3) (by omega) hk, Nat.lt_succ_self _, by simp [go_sem], by simp [go_sem], rfl, rfl, rfl⟩
  have n91 : ¬ (((g.getD i 0).toNat : Int) == 91) = true := by rw [h91]; simp
  have n93 : ¬ (((g.getD i 0).toNat : Int) == 93) = true := by rw [h93]; simp
  have n42 : ¬ (((g.getD i 0).toNat : Int) == 42) = true := by rw [h42]; simp
  refine if_s (fun h63 => ?_) (fun h63 => ?_) <;> simp only [go_sem, gi, hi0, byteInt]
  · have hst : stepE g i = some (⟨2, 0, false, []⟩, i + 1) := by rw [stepE, if_neg n91, if_neg n93, if_neg n42, if_pos h63]
    simp only [go_sem, eEl_fold0, hc, eEl_canon, eEl_cells, eEl_strip]
    exact ⟨(n, i + 1, acc ++ [_]), next _ (i + 1) hst (by omega) hlt, Nat.lt_succ_self _, by simp [go_sem, hw1], by simp [go_sem], rfl, rfl, rfl⟩
  · have hst : stepE g i = some (⟨1, g.getD i 0, false, []⟩, i + 1) := by rw [stepE, if_neg n91, if_neg n93, if_neg n42, if_neg (by rw [h63]; simp)]
    simp only [go_sem, eEl_fold, hc, eEl_canon, eEl_cells, eEl_strip]
    exact ⟨(n, i + 1, acc ++ [_]), next _ (i + 1) hst (by omega) hlt, Nat.lt_succ_self _, by simp [go_sem, hw1], by simp [go_sem], rfl, rfl, rfl⟩
end Go.Proofs
