/- V, proofs: the answers of Outer and Value, of the code and of the reference. -/
import Derived.Test.YtfhkgkijljfcfaaB1
set_option linter.unusedVariables false
set_option linter.unusedSimpArgs false
namespace Go.Proofs
open Go.V Go.RowKit

def outerR (l : List Mt) : List Mt := l.foldl (fun r m => if r.any (insideM m) then r else r ++ [m]) []
theorem outerR_succ (l : List Mt) (i : Nat) (h : i < l.length) : outerR (l.take (i + 1)) = if (outerR (l.take i)).any (insideM l[i]) then outerR (l.take i) else outerR (l.take i) ++ [l[i]] := by
  unfold outerR
  rw [List.take_add_one, List.getElem?_eq_getElem h, List.foldl_append]
  rfl
theorem outerR_len (l : List Mt) : ∀ i, i ≤ l.length → (outerR (l.take i)).length ≤ i := by
  intro i
  induction i with
  | zero => intro _; simp [outerR]
  | succ i ih =>
    intro h
    have := ih (by omega)
    rw [outerR_succ l i (by omega)]
    split
    · omega
    · simp; omega
theorem any_take_succ {α : Type} (p : α → Bool) (l : List α) (i : Nat) (h : i < l.length) : (l.take (i + 1)).any p = ((l.take i).any p || p l[i]) := by
  rw [List.take_add_one, List.getElem?_eq_getElem h, List.any_append]
  simp

theorem f18 (l : List Mt) (hl : l.length * 88 ≤ 35184372088832) : PureC Try.prog 18 [.sl (l.map eM) 0] (.sl ((outerR l).map eM) 0) := by
  refine pure_of_wp m18 rfl (by simp [argOk_sl]) ?_
  unfold FnW v18
  simp only [go_sem]
  refine v_for (good := fun i => i ≤ l.length) (m := fun i => l.length - i)
    (E := fun i => [(3, .sl ((outerR (l.take i)).map eM) 2), (9, .sl (l.map eM) 0), (10, .int .i64 l.length), (11, .int .i64 i)]) (O := fun i => [.tok (outerR (l.take i)).length 6])
    (by intro i _; simp [go_sem, Obj.idsB]) rfl ?_ 0 _ (by omega) rfl rfl rfl rfl
  intro i hi
  simp only [go_sem]
  refine if_s (fun ht => ?_) (fun hf => ?_)
  · have hlt : i < l.length := by simpa using ht
    have g1 : (l.map eM)[i]? = some (eM l[i]) := by simp [hlt]
    have ho := outerR_len l i hi
    have hs := outerR_succ l i hlt
    generalize outerR (l.take i) = out at *
    simp only [go_sem, g1, eM_cells]
    refine v_for (good := fun j => j ≤ out.length) (m := fun j => out.length - j)
      (E := fun j => [(3, .sl (out.map eM) 2), (5, .ptr 1 0), (6, .bool ((out.take j).any (insideM l[i]))), (9, .sl (l.map eM) 0), (10, .int .i64 l.length), (11, .int .i64 i), (15, .sl (out.map eM) 2), (16, .int .i64 out.length), (17, .int .i64 j)])
      (O := fun j => [.tok out.length 6, .cells (eM l[i]).cells])
      (by intro i _; simp [go_sem, Obj.idsB, eM_cells]) rfl ?_ 0 _ (by omega) rfl rfl rfl rfl
    intro j hj
    simp only [go_sem, eM_cells]
    refine if_s (fun ht => ?_) (fun hf => ?_)
    · have hjt : j < out.length := by simpa using ht
      have g2 : (out.map eM)[j]? = some (eM out[j]) := by simp [hjt]
      have ha := any_take_succ (insideM l[i]) out j hjt
      have w : IntKind.i64.wrap ((j : Int) + 1) = ((j + 1 : Nat) : Int) := wrap_succ (by omega)
      cases hb : (out.take j).any (insideM l[i]) with
      | true =>
        simp only [go_sem, g2, hb, eM_cells]
        exact ⟨j + 1, by omega, by simp only; omega, by simp [go_sem, w, ha, hb], rfl, rfl, rfl⟩
      | false =>
      cases h1 : decide (l[i].1.at' ≥ out[j].1.at') with
      | false =>
        simp only [go_sem, g2, hb, h1, eM_cells]
        exact ⟨j + 1, by omega, by simp only; omega, by simp [go_sem, w, ha, hb, insideM, h1], rfl, rfl, rfl⟩
      | true =>
        simp only [go_sem, g2, hb, h1, eM_cells]
        exact ⟨j + 1, by omega, by simp only; omega, by simp [go_sem, w, ha, hb, insideM, h1], rfl, rfl, rfl⟩
    · have hge : j = out.length := by
        have : out.length ≤ j := by simpa using hf
        omega
      subst hge
      have w : IntKind.i64.wrap ((i : Int) + 1) = ((i + 1 : Nat) : Int) := wrap_succ (by omega)
      simp only [go_sem, List.take_length]
      cases hb : out.any (insideM l[i]) with
      | true =>
        rw [hb, if_pos rfl] at hs
        simp only [go_sem, hb]
        exact ⟨i + 1, by omega, by simp only; omega, by simp [go_sem, w, hs], by simp [hs], rfl, rfl⟩
      | false =>
        rw [hb, if_neg (by simp)] at hs
        have hc : (out.length + 1) * 88 ≤ 35184372088832 := by omega
        simp only [go_sem, hb, hc, eM_cells, eM_fold]
        exact ⟨i + 1, by omega, by simp only; omega, by simp [go_sem, w, hs], by simp [hs], rfl, rfl⟩
  · have hge : i = l.length := by
      have : l.length ≤ i := by simpa using hf
      omega
    subst hge
    simp [go_sem, List.take_length]

theorem f19 (l : List Mt) (hl : l.length * 88 ≤ 35184372088832) : PureC Try.prog 19 [.sl (l.map eM) 0] (.sl ((outerR l).map eM) 0) := by
  refine pure_of_wp m19 rfl (by simp [argOk_sl]) ?_
  unfold FnW v19
  simp only [go_sem]
  refine v_for (good := fun i => i ≤ l.length) (m := fun i => l.length - i)
    (E := fun i => [(0, .sl (l.map eM) 0), (3, .sl ((outerR (l.take i)).map eM) 2), (4, .int .i64 i)]) (O := fun i => [.tok (outerR (l.take i)).length 6])
    (by intro i _; simp [go_sem, Obj.idsB]) rfl ?_ 0 _ (by omega) rfl rfl rfl rfl
  intro i hi
  simp only [go_sem]
  refine if_s (fun ht => ?_) (fun hf => ?_)
  · have hlt : i < l.length := by simpa using ht
    have g1 : (l.map eM)[i]? = some (eM l[i]) := by simp [hlt]
    have ho := outerR_len l i hi
    have hs := outerR_succ l i hlt
    generalize outerR (l.take i) = out at *
    simp only [go_sem]
    refine v_for (good := fun j => j ≤ out.length) (m := fun j => out.length - j)
      (E := fun j => [(0, .sl (l.map eM) 0), (3, .sl (out.map eM) 2), (4, .int .i64 i), (5, .bool ((out.take j).any (insideM l[i]))), (6, .int .i64 j)])
      (O := fun j => [.tok out.length 6])
      (by intro i _; simp [go_sem, Obj.idsB]) rfl ?_ 0 _ (by omega) rfl rfl rfl rfl
    intro j hj
    simp only [go_sem]
    refine if_s (fun ht => ?_) (fun hf => ?_)
    · have hjt : j < out.length := by simpa using ht
      have g2 : (out.map eM)[j]? = some (eM out[j]) := by simp [hjt]
      have ha := any_take_succ (insideM l[i]) out j hjt
      have w : IntKind.i64.wrap ((j : Int) + 1) = ((j + 1 : Nat) : Int) := wrap_succ (by omega)
      cases hb : (out.take j).any (insideM l[i]) with
      | true =>
        simp only [go_sem, hb]
        exact ⟨j + 1, by omega, by simp only; omega, by simp [go_sem, w, ha, hb], rfl, rfl, rfl⟩
      | false =>
        simp only [go_sem, g1, g2, hb, eM_cells, eM_fold]
        refine callD_pure (f38 l[i] out[j]) (by simp [go_sem]) (by simp [go_sem]) ?_
        simp only [go_sem, hb]
        exact ⟨j + 1, by omega, by simp only; omega, by simp [go_sem, w, ha, hb], rfl, rfl, rfl⟩
    · have hge : j = out.length := by
        have : out.length ≤ j := by simpa using hf
        omega
      subst hge
      have w : IntKind.i64.wrap ((i : Int) + 1) = ((i + 1 : Nat) : Int) := wrap_succ (by omega)
      simp only [go_sem, List.take_length]
      cases hb : out.any (insideM l[i]) with
      | true =>
        rw [hb, if_pos rfl] at hs
        simp only [go_sem, hb]
        exact ⟨i + 1, by omega, by simp only; omega, by simp [go_sem, w, hs], by simp [hs], rfl, rfl⟩
      | false =>
        rw [hb, if_neg (by simp)] at hs
        have hc : (out.length + 1) * 88 ≤ 35184372088832 := by omega
        simp only [go_sem, hb, hc, g1, eM_cells, eM_fold]
        exact ⟨i + 1, by omega, by simp only; omega, by simp [go_sem, w, hs], by simp [hs], rfl, rfl⟩
  · have hge : i = l.length := by
      have : l.length ≤ i := by simpa using hf
      omega
    subst hge
    simp [go_sem, List.take_length]

def valueR (l : List Bd) (name : List UInt8) : List Nd × Bool := match l.find? (fun b => b.1 == name) with
  | some b => (b.2, true)
  | none => ([], false)
theorem find_at {name : List UInt8} : ∀ {l : List Bd} {i : Nat} (h : i < l.length), (∀ j (hj : j < l.length), j < i → l[j].1 ≠ name) → l[i].1 = name → valueR l name = (l[i].2, true)
  | b :: r, 0, _, _, he => by simp at he; simp [valueR, he]
  | b :: r, i + 1, h, hn, he => by
    have h0 := hn 0 (by simp) (by omega)
    simp only [List.getElem_cons_zero] at h0
    have ih := find_at (l := r) (i := i) (by simpa using h) (fun j hj hji => by have := hn (j + 1) (by simpa using hj) (by omega); simpa using this) (by simpa using he)
    simp only [valueR] at ih
    simp only [valueR, List.find?_cons, beq_eq_false_iff_ne.2 h0, List.getElem_cons_succ]
    exact ih
theorem find_none {name : List UInt8} {l : List Bd} (h : ∀ j (hj : j < l.length), l[j].1 ≠ name) : valueR l name = ([], false) := by
  have : l.find? (fun b => b.1 == name) = none := List.find?_eq_none.2 fun b hb => by
    obtain ⟨j, hj, rfl⟩ := List.getElem_of_mem hb
    simpa using h j hj
  simp [valueR, this]
def eV (p : List Nd × Bool) : VV := .tup [.sl (p.1.map eN) 0, .bool p.2]

theorem f20 (l : List Bd) (name : List UInt8) (ll : l.length ≤ maxLen) : PureC Try.prog 20 [.sl (l.map eB) 0, .str name] (eV (valueR l name)) := by
  refine pure_of_wp m20 rfl (by simp [argOk_sl, argOk_str]) ?_
  unfold FnW v20
  simp only [go_sem]
  refine v_for (good := fun i => i ≤ l.length ∧ ∀ j (h : j < l.length), j < i → l[j].1 ≠ name) (m := fun i => l.length - i)
    (E := fun i => [(1, .str name), (8, .sl (l.map eB) 0), (9, .int .i64 l.length), (10, .int .i64 i)]) (O := fun _ => [])
    (by intro i _; simp [go_sem, Obj.idsB]) rfl ?_ 0 _ ⟨by omega, by omega⟩ rfl rfl rfl rfl
  rintro i ⟨hi, hn⟩
  simp only [go_sem]
  refine if_s (fun ht => ?_) (fun hf => ?_)
  · have hlt : i < l.length := by simpa using ht
    have g1 : (l.map eB)[i]? = some (eB l[i]) := by simp [hlt]
    cases hb : l[i].1 == name with
    | true => simp [go_sem, g1, eB_cells, hb, find_at hlt hn (by simpa using hb), eV]
    | false =>
      simp only [go_sem, g1, eB_cells, hb]
      refine ⟨i + 1, ⟨by omega, fun j h hj => ?_⟩, by simp only; omega, by simp [go_sem, wrap_len hlt ll], rfl, rfl, rfl⟩
      rcases Nat.lt_succ_iff_lt_or_eq.1 hj with q | rfl
      · exact hn j h q
      · simpa using hb
  · have hge : l.length ≤ i := by simpa using hf
    simp [go_sem, find_none (fun j hj => hn j hj (by omega)), eV]

theorem f21 (l : List Bd) (name : List UInt8) (ll : l.length ≤ maxLen) : PureC Try.prog 21 [.sl (l.map eB) 0, .str name] (eV (valueR l name)) := by
  refine pure_of_wp m21 rfl (by simp [argOk_sl, argOk_str]) ?_
  unfold FnW v21
  simp only [go_sem]
  refine v_for (good := fun i => i ≤ l.length ∧ ∀ j (h : j < l.length), j < i → l[j].1 ≠ name) (m := fun i => l.length - i)
    (E := fun i => [(0, .sl (l.map eB) 0), (1, .str name), (6, .int .i64 i)]) (O := fun _ => [])
    (by intro i _; simp [go_sem, Obj.idsB]) rfl ?_ 0 _ ⟨by omega, by omega⟩ rfl rfl rfl rfl
  rintro i ⟨hi, hn⟩
  simp only [go_sem]
  refine if_s (fun ht => ?_) (fun hf => ?_)
  · have hlt : i < l.length := by simpa using ht
    have g1 : (l.map eB)[i]? = some (eB l[i]) := by simp [hlt]
    cases hb : l[i].1 == name with
    | true => simp [go_sem, g1, eB_cells, hb, find_at hlt hn (by simpa using hb), eV]
    | false =>
      simp only [go_sem, g1, eB_cells, hb]
      refine ⟨i + 1, ⟨by omega, fun j h hj => ?_⟩, by simp only; omega, by simp [go_sem, wrap_len hlt ll], rfl, rfl, rfl⟩
      rcases Nat.lt_succ_iff_lt_or_eq.1 hj with q | rfl
      · exact hn j h q
      · simpa using hb
  · have hge : l.length ≤ i := by simpa using hf
    simp [go_sem, find_none (fun j hj => hn j hj (by omega)), eV]
end Go.Proofs
