/- V, proofs: the document's step of a match of a pattern of paths. Conditions: the lists' lengths. -/
import Derived.Test.YtlngaccdjnmgeaaGreatDoorGA5
set_option linter.unusedVariables false
set_option linter.unusedSimpArgs false
namespace Go.Proofs
open Go.V Go.RowKit

def goesK (x : El) (p : List UInt8) (k : Nat) : Bool := decide ((k : Int) < (p.length : Int)) && (x.kind == 4 || ((p.getD k 0).toNat : Int) != 47)
/-- what a star reaches -/
def fillR (x : El) (p : List UInt8) : Nat → Nat → List Bool → List Bool
  | 0, _, nx => nx
  | n + 1, k, nx => if goesK x p k then fillR x p n (k + 1) (nx.set (k + 1) true) else nx
theorem fillR_len (x : El) (p : List UInt8) : ∀ n k nx, (fillR x p n k nx).length = nx.length
  | 0, _, _ => rfl
  | n + 1, k, nx => by
    unfold fillR
    split
    · rw [fillR_len x p n]; simp
    · rfl
def starR (x : El) : Bool := x.kind == 3 || x.kind == 4
def rstep (x : El) (p : List UInt8) (fr : List Bool) (i : Nat) (nx : List Bool) : List Bool :=
  if fr.getD i false = false then nx
  else if starR x then fillR x p (p.length - i) i (nx.set i true)
  else if decide ((i : Int) < (p.length : Int)) && oneS x (p.getD i 0) then nx.set (i + 1) true else nx
def rrow (x : El) (p : List UInt8) (fr : List Bool) : Nat → List Bool
  | 0 => List.replicate (p.length + 1) false
  | i + 1 => rstep x p fr i (rrow x p fr i)
theorem rstep_len (x : El) (p : List UInt8) (fr : List Bool) (i : Nat) (nx : List Bool) : (rstep x p fr i nx).length = nx.length := by
  unfold rstep
  split
  · rfl
  split
  · rw [fillR_len]; simp
  split <;> simp
theorem rrow_len (x : El) (p : List UInt8) (fr : List Bool) : ∀ i, (rrow x p fr i).length = p.length + 1
  | 0 => by simp [rrow]
  | i + 1 => by rw [rrow, rstep_len, rrow_len x p fr i]

theorem c_R02_step (x : El) (p : List UInt8) (fr : List Bool) (hp : p.length ≤ 1000000) (hfr : fr.length = p.length + 1) (hx : x.set.length ≤ maxLen) :
    PureC PR n_R02_step [eEl x, .str p, .sl (fr.map VV.bool) 0] (.sl ((rrow x p fr (p.length + 1)).map VV.bool) 0) := by
  refine pure_of_wp m_R02_step rfl (by simp [eEl_argOk, argOk_str, argOk_sl]) ?_
  unfold FnW v_R02_step
  have hw : IntKind.i64.wrap ((p.length : Int) + 1) = ((p.length + 1 : Nat) : Int) := wrap_succ (by omega)
  have hm1 : (0 : Int) ≤ ((p.length + 1 : Nat) : Int) := by omega
  have hm2 : ((p.length + 1 : Nat) : Int) * 1 ≤ 281474976710656 := by omega
  have hm3 : (0 : Int) < ((p.length + 1 : Nat) : Int) := by omega
  simp only [go_sem, eEl, hw, hm1, hm2, hm3, and_self]
  refine v_for (α := Nat) (base := 0) (marks := []) (pu := true) (good := fun i => i ≤ p.length + 1) (m := fun i => p.length + 1 - i)
    (E := fun i => [(1, .str p), (2, .sl (fr.map VV.bool) 0), (3, .ptr 0 0), (7, .row 1 0 (p.length + 1)), (8, .int .i64 i)])
    (O := fun i => [.cells (eEl x).cells, .cells ((rrow x p fr i).map VV.bool)])
    (by intro i _; simp [go_sem, Obj.idsB]) rfl ?_ 0 _ (by omega) (by simp [go_sem]) (by simp [go_sem, rrow, byteInt]) rfl rfl rfl
  intro i hi
  simp only [go_sem]
  refine if_s (fun ht => ?_) (fun hf => ?_)
  · have hlt : i ≤ p.length := by simpa using ht
    have gfr := get_bool (l := fr) (i := i) (by omega)
    have hw2 : IntKind.i64.wrap ((i : Int) + 1) = ((i + 1 : Nat) : Int) := wrap_succ (by omega)
    have hnl := rrow_len x p fr i
    have hns : rrow x p fr (i + 1) = rstep x p fr i (rrow x p fr i) := rfl
    generalize rrow x p fr i = nx at *
    have hi0 : (0 : Int) ≤ (i : Int) := by omega
    have hin : (i : Int) < ((p.length + 1 : Nat) : Int) := by omega
    have hil : i + 1 ≤ nx.length := by omega
    simp only [go_sem, gfr]
    cases hb : fr.getD i false with
    | false =>
      have e : rstep x p fr i nx = nx := by rw [rstep, if_pos hb]
      simp only [go_sem]
      exact ⟨i + 1, by omega, by simp only; omega, by simp only [go_sem, hw2], by simp only [go_sem, hns, e], rfl, rfl, rfl⟩
    | true =>
    have hb' : ¬ fr.getD i false = false := by rw [hb]; simp
    have inner : starR x = true → ∀ (K : Ex → St → Prop), True := fun _ _ => trivial
    cases hk : starR x with
    | false =>
      have hk3 : (x.kind == 3) = false := by simp only [starR, Bool.or_eq_false_iff] at hk; exact hk.1
      have hk4 : (x.kind == 4) = false := by simp only [starR, Bool.or_eq_false_iff] at hk; exact hk.2
      have e : ∀ b, (decide ((i : Int) < (p.length : Int)) && oneS x (p.getD i 0)) = b → rstep x p fr i nx = if b then nx.set (i + 1) true else nx := fun b h => by
        rw [rstep, if_neg hb', hk, h]; rfl
      simp only [go_sem, hk3, hk4]
      cases hj : decide ((i : Int) < (p.length : Int)) with
      | false =>
        simp only [go_sem, hj]
        exact ⟨i + 1, by omega, by simp only; omega, by simp only [go_sem, hw2], by simp only [go_sem, hns, e false (by rw [hj]; rfl)], rfl, rfl, rfl⟩
      | true =>
        have hj2 : i < p.length := by simpa using hj
        have gp := get_byte (s := p) (i := i) hj2
        simp only [go_sem, hj, gp, byteInt, eEl_fold']
        refine callD_pure (c_R02_one x (p.getD i 0) hx) (by simp [go_sem, byteInt]) (by simp [go_sem, byteInt]) ?_
        simp only [go_sem]
        refine if_s (fun hs => ?_) (fun hs => ?_)
        · have e := e true (by rw [hj, hs]; rfl)
          have hj1 : ((i + 1 : Nat) : Int) < ((p.length + 1 : Nat) : Int) := by omega
          have hj0 : (0 : Int) ≤ ((i + 1 : Nat) : Int) := by omega
          have hjl3 : i + 1 + 1 ≤ nx.length := by omega
          simp only [go_sem, hw2, hj0, hj1, hjl3]
          exact ⟨i + 1, by omega, by simp only; omega, by simp only [go_sem, hw2], by simp only [go_sem, setB, hns, e], rfl, rfl, rfl⟩
        · have e := e false (by rw [hj, hs]; rfl)
          simp only [go_sem]
          exact ⟨i + 1, by omega, by simp only; omega, by simp only [go_sem, hw2], by simp only [go_sem, hns, e], rfl, rfl, rfl⟩
    | true =>
      have e : rstep x p fr i nx = fillR x p (p.length - i) i (nx.set i true) := by rw [rstep, if_neg hb', hk]; rfl
      have loop : ∀ (b4 : Bool), (x.kind == 4) = b4 → True := fun _ _ => trivial
      cases hk3 : (x.kind == 3) with
      | true =>
        have hk4 : (x.kind == 4) = false := by
          have : x.kind = 3 := by simpa using hk3
          rw [this]; decide
        simp only [go_sem, hk3, hi0, hin, hil]
        refine v_for (α := Nat × List Bool) (base := 0) (marks := []) (pu := true) (good := fun y => y.1 ≤ p.length ∧ y.2.length = p.length + 1 ∧ fillR x p (p.length - y.1) y.1 y.2 = rrow x p fr (i + 1)) (m := fun y => p.length - y.1)
          (E := fun y => [(1, .str p), (2, .sl (fr.map VV.bool) 0), (3, .ptr 0 0), (7, .row 1 0 (p.length + 1)), (8, .int .i64 i), (9, .int .i64 y.1)])
          (O := fun y => [.cells (eEl x).cells, .cells (y.2.map VV.bool)])
          (by intro i _; simp [go_sem, Obj.idsB]) rfl ?_ (i, nx.set i true) _ ⟨hlt, by simp [hnl], by rw [hns, e]⟩ (by simp [go_sem]) (by simp only [go_sem, setB]) rfl rfl rfl
        rintro ⟨k, nk⟩ ⟨hkl, hnk, hfill⟩
        simp only at hkl hnk hfill
        simp only [go_sem]
        have stop : goesK x p k = false → nk = rrow x p fr (i + 1) := fun h => by
          rw [← hfill]
          cases hh : p.length - k with
          | zero => rfl
          | succ n => rw [fillR, h]; rfl
        refine g_s (fun hg => ?_) (fun hg => ?_) <;> simp only [go_sem, hg, hk4]
        · have hkl2 := len_lt hg
          have gp := get_byte (s := p) (i := k) hkl2
          have hk0 : (0 : Int) ≤ (k : Int) := by omega
          have hwk : IntKind.i64.wrap ((k : Int) + 1) = ((k + 1 : Nat) : Int) := wrap_succ (by omega)
          simp only [go_sem, gp, byteInt]
          refine if_s (fun hs => ?_) (fun hs => ?_)
          · have hg2 : goesK x p k = true := by simp only [goesK, hg, hk4, hs, Bool.false_or, Bool.and_self]
            have hj1 : ((k + 1 : Nat) : Int) < ((p.length + 1 : Nat) : Int) := by omega
            have hj0 : (0 : Int) ≤ ((k + 1 : Nat) : Int) := by omega
            have hjl3 : k + 1 + 1 ≤ nk.length := by omega
            simp only [go_sem, hwk, hj0, hj1, hjl3]
            refine ⟨(k + 1, nk.set (k + 1) true), ⟨by simp only; omega, by simp [hnk], ?_⟩, by simp only; omega, by simp only [go_sem, hwk], by simp only [go_sem, setB], rfl, rfl, rfl⟩
            rw [← hfill]
            have : p.length - k = (p.length - (k + 1)) + 1 := by omega
            rw [this, fillR, hg2]; rfl
          · have hg2 : goesK x p k = false := by simp only [goesK, hg, hk4, hs, Bool.false_or, Bool.and_false]
            simp only [go_sem]
            exact ⟨i + 1, by omega, by simp only; omega, by simp only [go_sem, hw2], by simp only [go_sem, stop hg2], rfl, rfl, rfl⟩
        · have hg2 : goesK x p k = false := by rw [goesK, hg]; rfl
          exact ⟨i + 1, by omega, by simp only; omega, by simp only [go_sem, hw2], by simp only [go_sem, stop hg2], rfl, rfl, rfl⟩
      | false =>
        have hk4 : (x.kind == 4) = true := by simp only [starR, hk3, Bool.false_or] at hk; exact hk
        simp only [go_sem, hk3, hk4, hi0, hin, hil]
        refine v_for (α := Nat × List Bool) (base := 0) (marks := []) (pu := true) (good := fun y => y.1 ≤ p.length ∧ y.2.length = p.length + 1 ∧ fillR x p (p.length - y.1) y.1 y.2 = rrow x p fr (i + 1)) (m := fun y => p.length - y.1)
          (E := fun y => [(1, .str p), (2, .sl (fr.map VV.bool) 0), (3, .ptr 0 0), (7, .row 1 0 (p.length + 1)), (8, .int .i64 i), (9, .int .i64 y.1)])
          (O := fun y => [.cells (eEl x).cells, .cells (y.2.map VV.bool)])
          (by intro i _; simp [go_sem, Obj.idsB]) rfl ?_ (i, nx.set i true) _ ⟨hlt, by simp [hnl], by rw [hns, e]⟩ (by simp [go_sem]) (by simp only [go_sem, setB]) rfl rfl rfl
        rintro ⟨k, nk⟩ ⟨hkl, hnk, hfill⟩
        simp only at hkl hnk hfill
        simp only [go_sem]
        have stop : goesK x p k = false → nk = rrow x p fr (i + 1) := fun h => by
          rw [← hfill]
          cases hh : p.length - k with
          | zero => rfl
          | succ n => rw [fillR, h]; rfl
        refine g_s (fun hg => ?_) (fun hg => ?_) <;> simp only [go_sem, hg, hk4]
        · have hkl2 := len_lt hg
          have hwk : IntKind.i64.wrap ((k : Int) + 1) = ((k + 1 : Nat) : Int) := wrap_succ (by omega)
          have hg2 : goesK x p k = true := by simp only [goesK, hg, hk4, Bool.true_or, Bool.and_self]
          have hj1 : ((k + 1 : Nat) : Int) < ((p.length + 1 : Nat) : Int) := by omega
          have hj0 : (0 : Int) ≤ ((k + 1 : Nat) : Int) := by omega
          have hjl3 : k + 1 + 1 ≤ nk.length := by omega
          simp only [go_sem, hwk, hj0, hj1, hjl3]
          refine ⟨(k + 1, nk.set (k + 1) true), ⟨by simp only; omega, by simp [hnk], ?_⟩, by simp only; omega, by simp only [go_sem, hwk], by simp only [go_sem, setB], rfl, rfl, rfl⟩
          rw [← hfill]
          have : p.length - k = (p.length - (k + 1)) + 1 := by omega
          rw [this, fillR, hg2]; rfl
        · have hg2 : goesK x p k = false := by rw [goesK, hg]; rfl
          exact ⟨i + 1, by omega, by simp only; omega, by simp only [go_sem, hw2], by simp only [go_sem, stop hg2], rfl, rfl, rfl⟩
  · have hie : i = p.length + 1 := by
      have : ¬ (i : Int) ≤ (p.length : Int) := by simpa using hf
      omega
    subst hie
    simp only [go_sem]
    refine frz_all (cs := (rrow x p fr (p.length + 1)).map VV.bool) rfl (by simp [rrow_len]) (by simp [VV.canon, VV.canon0]) ?_
    simp only [go_sem]
end Go.Proofs
