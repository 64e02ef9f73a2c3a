/- V, proofs: loops over bytes, numbers and the ranges of a set. Conditions: the lists' lengths. -/
import Derived.Test.YtlngaccdjnmgeaaGreatDoorGA1
set_option linter.unusedVariables false
set_option linter.unusedSimpArgs false
namespace Go.Proofs
open Go.V Go.RowKit

def printS (c : UInt8) : Bool := !(decide ((c.toNat : Int) < 33) || decide ((c.toNat : Int) > 126))
theorem c_glob_printable (s : List UInt8) (hs : s.length ≤ maxLen) : PureC PR n_glob_printable [.str s] (.bool (s.all printS)) := by
  refine pure_of_wp m_glob_printable rfl (by simp [argOk_str]) ?_
  unfold FnW v_glob_printable
  simp only [go_sem]
  refine v_for (good := fun i => i ≤ s.length ∧ (s.take i).all printS = true) (m := fun i => s.length - i)
    (E := fun i => [(0, .str s), (5, .int .i64 s.length), (6, .int .i64 i)]) (O := fun _ => [])
    (by intro i _; simp [go_sem, Obj.idsB]) rfl ?_ 0 _ ⟨by omega, rfl⟩ rfl rfl rfl rfl rfl
  rintro i ⟨hi, hp⟩
  simp only [go_sem]
  refine if_s (fun ht => ?_) (fun hf => ?_)
  · have hlt := len_lt ht
    have g := str_get hlt
    simp only [go_sem, g, byteInt]
    refine g_s (fun h => ?_) (fun h => ?_) <;> simp only [go_sem, h, g, byteInt]
    · refine if_s (fun h2 => ?_) (fun h2 => ?_) <;> simp only [go_sem]
      · have hx : printS s[i] = false := by simp only [printS, h, h2]; rfl
        simp [go_sem, all_stop hlt hx]
      · have hx : printS s[i] = true := by simp only [printS, h, h2]; rfl
        exact ⟨i + 1, ⟨by omega, all_step hlt hp hx⟩, by simp only; omega, by simp only [go_sem, wrap_len hlt hs], rfl, rfl, rfl, rfl⟩
    · have hx : printS s[i] = false := by simp only [printS, h]; rfl
      simp [go_sem, all_stop hlt hx]
  · simp [go_sem, all_end (len_ge hf) hp]

structure El where
  kind : Int
  c : UInt8
  neg : Bool
  set : List (UInt8 × UInt8)
def eRg (r : UInt8 × UInt8) : VV := .agg [byteInt r.1, byteInt r.2]
def eEl (x : El) : VV := .agg [.int .i64 x.kind, byteInt x.c, .bool x.neg, .sl (x.set.map eRg) 0]
theorem eRg_cells (r : UInt8 × UInt8) : (eRg r).cells = [.int .u8 r.1.toNat, .int .u8 r.2.toNat] := rfl
theorem eEl_cells (x : El) : (eEl x).cells = [.int .i64 x.kind, .int .u8 x.c.toNat, .bool x.neg, .sl (x.set.map eRg) 0] := rfl
theorem eEl_argOk (x : El) : argOk (eEl x) = true := by simp [eEl, byteInt, argOk, VV.noHnd, VV.noHnd0, VV.ids, idsL]
def inR (c : UInt8) (r : UInt8 × UInt8) : Bool := decide ((c.toNat : Int) ≥ r.1.toNat) && decide ((c.toNat : Int) ≤ r.2.toNat)

def standsS (x : El) (c : UInt8) : Bool := if x.kind = 0 then (c.toNat : Int) == x.c.toNat else if x.kind = 3 then (c.toNat : Int) != 47 else (c.toNat : Int) != 47 && x.set.any (inR c) != x.neg
theorem c_glob_element_stands (x : El) (c : UInt8) (hl : x.set.length ≤ maxLen) : PureC PR n_glob_element_stands [eEl x, byteInt c] (.bool (standsS x c)) := by
  refine pure_of_wp m_glob_element_stands rfl (by simp [eEl_argOk, byteInt, argOk_int]) ?_
  unfold FnW v_glob_element_stands
  simp only [go_sem, eEl, byteInt]
  refine if_s (fun h => ?_) (fun h => ?_) <;> simp only [go_sem]
  · have : x.kind = 0 := by simpa using h
    simp [go_sem, standsS, this]
  refine if_s (fun h2 => ?_) (fun h2 => ?_) <;> simp only [go_sem]
  · have : x.kind = 3 := by simpa using h2
    simp [go_sem, standsS, this]
  have k0 : ¬ x.kind = 0 := by simpa using h
  have k3 : ¬ x.kind = 3 := by simpa using h2
  refine v_for (good := fun i => i ≤ x.set.length) (m := fun i => x.set.length - i)
    (E := fun i => [(1, .int .u8 c.toNat), (2, .ptr 0 0), (5, .bool ((x.set.take i).any (inR c))), (21, .sl (x.set.map eRg) 0), (22, .int .i64 x.set.length), (23, .int .i64 i)]) (O := fun _ => [.cells (eEl x).cells])
    (by intro i _; simp [go_sem, Obj.idsB, eEl_cells]) rfl ?_ 0 _ (by omega) rfl rfl rfl rfl rfl
  intro i hi
  simp only [go_sem, eEl_cells]
  refine if_s (fun ht => ?_) (fun hf => ?_)
  · have hlt := len_lt ht
    have g := get_map eRg hlt
    have nx := any_take (p := inR c) hlt
    simp only [go_sem, g, eRg_cells]
    cases hb : (x.set.take i).any (inR c) <;> simp only [go_sem, hb, g, eRg_cells]
    · refine g_s (fun h5 => ?_) (fun h5 => ?_) <;> simp only [go_sem, h5, g, eRg_cells]
      · refine ⟨i + 1, by omega, by simp only; omega, ?_, rfl, rfl, rfl, rfl⟩
        simp only [go_sem, wrap_len hlt hl, nx, hb, inR, h5]
      · refine ⟨i + 1, by omega, by simp only; omega, ?_, rfl, rfl, rfl, rfl⟩
        have h5' : decide ((c.toNat : Int) ≥ x.set[i].1.toNat) = false := by simpa using h5
        simp only [go_sem, wrap_len hlt hl, nx, hb, inR, h5', Bool.false_and]
    · refine ⟨i + 1, by omega, by simp only; omega, ?_, rfl, rfl, rfl, rfl⟩
      simp only [go_sem, wrap_len hlt hl, nx, hb]
  · have hge : i = x.set.length := by have := len_ge hf; omega
    subst hge
    simp only [go_sem, List.take_length]
    refine g_s (fun h5 => ?_) (fun h5 => ?_) <;> simp only [go_sem, h5]
    · rw [standsS, if_neg k0, if_neg k3, h5]; rfl
    · rw [standsS, if_neg k0, if_neg k3, h5]; rfl

def oneS (x : El) (c : UInt8) : Bool := if x.kind = 1 then (c.toNat : Int) == x.c.toNat else if ((c.toNat : Int) == 47) = true then false else if x.kind = 2 then true else if x.set.any (inR c) then !x.neg else x.neg
theorem c_R02_one (x : El) (c : UInt8) (hl : x.set.length ≤ maxLen) : PureC PR n_R02_one [eEl x, byteInt c] (.bool (oneS x c)) := by
  refine pure_of_wp m_R02_one rfl (by simp [eEl_argOk, byteInt, argOk_int]) ?_
  unfold FnW v_R02_one
  simp only [go_sem, eEl, byteInt]
  refine if_s (fun h => ?_) (fun h => ?_) <;> simp only [go_sem]
  · have : x.kind = 1 := by simpa using h
    rw [oneS, if_pos this]
  have k0 : ¬ x.kind = 1 := by simpa using h
  refine if_s (fun h2 => ?_) (fun h2 => ?_) <;> simp only [go_sem]
  · rw [oneS, if_neg k0, if_pos h2]
  have k2 : ¬ ((c.toNat : Int) == 47) = true := by rw [h2]; simp
  refine if_s (fun h3 => ?_) (fun h3 => ?_) <;> simp only [go_sem]
  · have : x.kind = 2 := by simpa using h3
    rw [oneS, if_neg k0, if_neg k2, if_pos this]
  have k3 : ¬ x.kind = 2 := by simpa using h3
  refine v_for (good := fun i => i ≤ x.set.length ∧ (x.set.take i).any (inR c) = false) (m := fun i => x.set.length - i)
    (E := fun i => [(1, .int .u8 c.toNat), (2, .ptr 0 0), (5, .int .i64 i)]) (O := fun _ => [.cells (eEl x).cells])
    (by intro i _; simp [go_sem, Obj.idsB, eEl_cells]) rfl ?_ 0 _ ⟨by omega, rfl⟩ rfl rfl rfl rfl rfl
  rintro i ⟨hi, hp⟩
  simp only [go_sem, eEl_cells]
  refine if_s (fun ht => ?_) (fun hf => ?_)
  · have hlt := len_lt ht
    have g := get_map eRg hlt
    simp only [go_sem, g, eRg_cells]
    refine g_s (fun h5 => ?_) (fun h5 => ?_) <;> simp only [go_sem, h5, g, eRg_cells]
    · refine if_s (fun h6 => ?_) (fun h6 => ?_) <;> simp only [go_sem]
      · have hx : inR c x.set[i] = true := by
          have : decide ((c.toNat : Int) ≥ x.set[i].1.toNat) = true := h5
          simp only [inR, this, h6]; rfl
        rw [oneS, if_neg k0, if_neg k2, if_neg k3, any_stop hlt hx]; rfl
      · have hx : inR c x.set[i] = false := by simp only [inR, h6, Bool.and_false]
        exact ⟨i + 1, ⟨by omega, any_step hlt hp hx⟩, by simp only; omega, by simp only [go_sem, wrap_len hlt hl], rfl, rfl, rfl, rfl⟩
    · have hx : inR c x.set[i] = false := by
        have : decide ((c.toNat : Int) ≥ x.set[i].1.toNat) = false := h5
        simp only [inR, this, Bool.false_and]
      exact ⟨i + 1, ⟨by omega, any_step hlt hp hx⟩, by simp only; omega, by simp only [go_sem, wrap_len hlt hl], rfl, rfl, rfl, rfl⟩
  · simp only [go_sem]
    rw [oneS, if_neg k0, if_neg k2, if_neg k3, any_end (len_ge hf) hp]; rfl

theorem c_R05_In (l : List Int) (n : Int) (hl : l.length ≤ maxLen) : PureC PR n_R05_In [.sl (l.map (VV.int .i64)) 0, .int .i64 n] (.bool (l.contains n)) := by
  refine pure_of_wp m_R05_In rfl (by simp [argOk_sl, argOk_int]) ?_
  unfold FnW v_R05_In
  simp only [go_sem]
  have hc : l.contains n = l.any (fun x => x == n) := by rw [List.contains_eq_any_beq]; congr 1; funext x; exact BEq.comm
  refine v_for (good := fun i => i ≤ l.length ∧ (l.take i).any (fun x => x == n) = false) (m := fun i => l.length - i)
    (E := fun i => [(0, .sl (l.map (VV.int .i64)) 0), (1, .int .i64 n), (5, .int .i64 i)]) (O := fun _ => [])
    (by intro i _; simp [go_sem, Obj.idsB]) rfl ?_ 0 _ ⟨by omega, rfl⟩ rfl rfl rfl rfl rfl
  rintro i ⟨hi, hp⟩
  simp only [go_sem]
  refine if_s (fun ht => ?_) (fun hf => ?_)
  · have hlt := len_lt ht
    have g := get_map (VV.int .i64) hlt
    simp only [go_sem, g]
    refine if_s (fun h5 => ?_) (fun h5 => ?_) <;> simp only [go_sem]
    · rw [hc, any_stop hlt h5]
    · exact ⟨i + 1, ⟨by omega, any_step hlt hp h5⟩, by simp only; omega, by simp only [go_sem, wrap_len hlt hl], rfl, rfl, rfl, rfl⟩
  · simp only [go_sem]
    rw [hc, any_end (len_ge hf) hp]
end Go.Proofs
