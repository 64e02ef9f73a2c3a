/- V, proofs: chapter 12's and 19's helpers: Shaped, Right, Nodes, Count, Bare, the bounds of the laws. -/
import Derived.Test.YtfhkgkijljfcfaaB4
set_option linter.unusedVariables false
set_option linter.unusedSimpArgs false
namespace Go.Proofs
open Go.V Go.RowKit

theorem box_eN {d : Nd} {ob : List V.Obj} : boxV (eN d) ob = some (.ptr ob.length 0, ob ++ [.cells (eN d).cells]) := by
  rw [eN_agg]; rfl
attribute [go_sem] box_eN

set_option maxHeartbeats 4000000 in
theorem f51 {n : Nat} (ft : FT n) {d : Nd} (hs : SizeOf.sizeOf d ≤ n) (ho : okN d) (w : Int) (m : Bool) : EB 51 [eN d, .int .i64 w, .bool m] := by
  have e62 := f62 ft hs ho w m
  have e61 := f61 ft hs ho m
  have e57 := f57 ft hs ho m
  have e56 := f56 d ho w
  obtain ⟨k, t, a, e, ks⟩ := d
  obtain ⟨_, _, _, ht, hl, hk⟩ := ho
  refine eb_of m51 rfl (by simp [argOk_int, argOk_bool, eN_argOk]) ?_
  simp only [eN_mk] at e62 e61 e57 e56 ⊢
  have hz : SizeOf.sizeOf ks ≤ n := by simp only [Nd.mk.sizeOf_spec] at hs; omega
  clear hs
  have e58 := f58 t ht
  have e59 := f59 t ht
  have hm : 4 ≤ maxLen := by decide
  unfold v51
  refine kids_cases (n := n) (p := fun ks => EB 62 [.agg [.int .i64 k, .str t, .int .i64 a, .int .i64 e, .sl (ks.map eN) 0], .int .i64 w, .bool m] → EB 61 [.agg [.int .i64 k, .str t, .int .i64 a, .int .i64 e, .sl (ks.map eN) 0], .bool m] → EB 57 [.agg [.int .i64 k, .str t, .int .i64 a, .int .i64 e, .sl (ks.map eN) 0], .bool m] → EB 56 [.agg [.int .i64 k, .str t, .int .i64 a, .int .i64 e, .sl (ks.map eN) 0], .int .i64 w] → WpP Try.prog _ { env := envA 0 [.agg [.int .i64 k, .str t, .int .i64 a, .int .i64 e, .sl (ks.map eN) 0], .int .i64 w, .bool m], ob := [], base := 0 } (EndP _ isBo)) ?_ ?_ ?_ ?_ ?_ ks hz hl hk e62 e61 e57 e56 <;> intros <;>
  simp only [List.map_cons, List.map_nil] at * <;> simp only [go_sem, pe_regG]
  all_goals
  repeat' first
    | with_reducible exact bo_ex
    | (with_reducible refine pif_s (fun h => ?_) (fun h => ?_) <;> simp only [go_sem, pe_regG, eN_cells, eN_fold, h])
    | (with_reducible refine pg_s (fun h => ?_) (fun h => ?_) <;> simp only [go_sem, pe_regG, eN_cells, eN_fold, h])
    | (refine pcallE (by
         simp only [go_sem]
         first | assumption
               | exact ft _ (by assumption) (by assumption) _ _
               | exact f60 ft (by simp; try omega) (by repeat first | exact es_nil | (refine es_cons (by assumption) (by assumption) ?_) | assumption) _ _) (by simp [go_sem]) (fun b => ?_); simp only [go_sem, pe_regG, eN_cells, eN_fold])

theorem ftAll : ∀ n, FT n := by
  intro n
  induction n with
  | zero => intro k h; omega
  | succ n ih => exact fun k hk ho w m => f51 ih (by omega) ho w m

theorem f50 : ∀ (n : Nat) (d : Nd), SizeOf.sizeOf d < n → okN d → ∃ x, PureC Try.prog 50 [eN d] (.int .i64 x) := by
  intro n
  induction n with
  | zero => intro d h; omega
  | succ n ih =>
    rintro ⟨k, t, a, e, ks⟩ hn ⟨_, _, _, ht, hl, hk⟩
    obtain ⟨r, ⟨x, rfl⟩, hp⟩ := pure_ex (R := fun r => ∃ x, r = .int .i64 x) m50 (args := [eN (.mk k t a e ks)]) rfl (by simp [eN_argOk]) (by
      simp only [eN_mk]
      unfold v50
      simp only [go_sem]
      refine pv_for (α := Nat × Int) (good := fun p => p.1 ≤ ks.length) (m := fun p => ks.length - p.1)
        (E := fun p => [(1, .ptr 0 0), (3, .int .i64 p.2), (4, .int .i64 p.1)]) (O := fun _ => [.cells [.int .i64 k, .str t, .int .i64 a, .int .i64 e, .sl (ks.map eN) 0]])
        (by intro i _; simp [go_sem, Obj.idsB]) rfl ?_ (0, 0) _ (by simp) rfl rfl rfl rfl
      rintro ⟨i, y⟩ hi
      simp only at hi
      simp only [go_sem]
      refine pif_s (fun ht => ?_) (fun hf => ?_)
      · have hlt : i < ks.length := by simpa using ht
        have g1 := get_map eN hlt
        obtain ⟨z, hz⟩ := ih ks[i] (by
          have := List.sizeOf_lt_of_mem (List.getElem_mem (l := ks) hlt)
          simp only [Nd.mk.sizeOf_spec] at hn
          omega) (okNs_iff.1 hk _ (List.getElem_mem hlt))
        simp only [go_sem, g1, eN_cells, eN_fold]
        refine pcall hz (by simp [go_sem]) (by simp [go_sem]) ?_
        simp only [go_sem]
        exact ⟨(i + 1, if y ≥ z then y else z), by simp only; omega, by simp only; omega, by simp only [go_sem, wrap_len hlt hl], rfl, rfl, rfl⟩
      · simp only [go_sem]
        exact ⟨_, rfl, rfl, _, rfl⟩)
    exact ⟨x, hp⟩

theorem f39 (d : Nd) (ho : okN d) (w : Int) (m : Bool) : EB 39 [.int .i64 w, eN d, .bool m] := by
  refine eb_of m39 rfl (by simp [argOk_int, argOk_bool, eN_argOk]) ?_
  obtain ⟨x, hx⟩ := f50 _ d (Nat.lt_succ_self _) ho
  have ft := fun w m => ftAll _ d (Nat.lt_succ_self _) ho w m
  simp only [eN_agg] at hx ft ⊢
  unfold v39
  simp only [go_sem]
  refine pcall hx (by simp [go_sem]) (by simp [go_sem]) ?_
  simp only [go_sem]
  repeat' first
    | with_reducible exact bo_ex
    | (with_reducible refine pif_s (fun h => ?_) (fun h => ?_) <;> simp only [go_sem, pe_regG, h])
    | (refine pcallE (by simp only [go_sem]; exact ft _ _) (by simp [go_sem]) (fun b => ?_); simp only [go_sem, pe_regG])

end Go.Proofs

/- V, proofs: the nodes of a tree, their number, and the bounds of the laws. -/
set_option linter.unusedVariables false
set_option linter.unusedSimpArgs false
namespace Go.Proofs
open Go.V Go.RowKit

mutual
def nodesR : Nd → List Nd
  | .mk k t a e ks => .mk k t a e ks :: nodesRs ks
def nodesRs : List Nd → List Nd
  | [] => []
  | d :: r => nodesR d ++ nodesRs r
end
theorem nodesRs_append : ∀ a b, nodesRs (a ++ b) = nodesRs a ++ nodesRs b
  | [], b => by simp [nodesRs]
  | d :: r, b => by simp [nodesRs, nodesRs_append r b]
theorem nodesRs_take (l : List Nd) (i : Nat) (h : i < l.length) : nodesRs (l.take (i + 1)) = nodesRs (l.take i) ++ nodesR l[i] := by
  rw [List.take_add_one, List.getElem?_eq_getElem h, nodesRs_append]
  simp [nodesRs]
theorem nodesR_kids (d : Nd) : nodesR d = d :: nodesRs d.kids := by obtain ⟨k, t, a, e, ks⟩ := d; simp [nodesR, Nd.kids]
theorem nodesRs_len (l : List Nd) (i : Nat) : (nodesRs (l.take i)).length ≤ (nodesRs l).length := by
  have := nodesRs_append (l.take i) (l.drop i)
  rw [List.take_append_drop] at this
  rw [this, List.length_append]
  omega
mutual
theorem nodesR_ok : ∀ d, okN d → ∀ x ∈ nodesR d, okN x
  | .mk k t a e ks, h => by
    simp only [nodesR, List.mem_cons]
    rintro x (rfl | hx)
    · exact h
    · exact nodesRs_ok ks h.2.2.2.2.2 x hx
theorem nodesRs_ok : ∀ l, okNs l → ∀ x ∈ nodesRs l, okN x
  | [], _ => nofun
  | d :: r, h => by
    simp only [nodesRs, List.mem_append]
    rintro x (hx | hx)
    · exact nodesR_ok d h.1 x hx
    · exact nodesRs_ok r h.2 x hx
end

theorem cap_lt {a n : Nat} (h : (a + n + 1) * 64 ≤ 35184372088832) : n < 2 ^ 63 := by omega
theorem add_two_le {a j n : Nat} (h : j < n) : a + j + 1 + 1 ≤ a + n + 1 := by omega

set_option maxHeartbeats 400000 in
theorem f37 : ∀ (n : Nat) (d : Nd), SizeOf.sizeOf d < n → okN d → (nodesR d).length * 64 ≤ 35184372088832 → PureC Try.prog 37 [eN d] (.sl ((nodesR d).map eN) 0) := by
  intro n
  induction n with
  | zero => intro d h; omega
  | succ n ih =>
    intro d hn ho hc
    have hl : d.kids.length ≤ maxLen := by obtain ⟨k, t, a, e, ks⟩ := d; exact ho.2.2.2.2.1
    have hk : ∀ x ∈ d.kids, okN x := by obtain ⟨k, t, a, e, ks⟩ := d; exact okNs_iff.1 ho.2.2.2.2.2
    have hz : ∀ x ∈ d.kids, SizeOf.sizeOf x < n := fun x hx => by
      obtain ⟨k, t, a, e, ks⟩ := d
      have := List.sizeOf_lt_of_mem (show x ∈ ks from hx)
      simp only [Nd.mk.sizeOf_spec] at hn
      omega
    rw [nodesR_kids] at hc ⊢
    simp only [List.length_cons] at hc
    refine pure_of_wp m37 rfl (by simp [eN_argOk]) ?_
    unfold FnW v37
    simp only [go_sem, eN_fold, eN_cells]
    refine v_for (good := fun i => i ≤ d.kids.length) (m := fun i => d.kids.length - i)
      (E := fun i => [(1, .ptr 0 0), (3, .sl ((d :: nodesRs (d.kids.take i)).map eN) 3), (4, .int .i64 i)]) (O := fun i => [.cells (eN d).cells, .tok ((nodesRs (d.kids.take i)).length + 1) 5])
      (by intro i _; simp [go_sem, Obj.idsB, eN_cells]) rfl ?_ 0 _ (by omega) (by simp [go_sem, nodesRs]) (by simp [nodesRs, eN_cells]) rfl rfl
    intro i hi
    simp only [go_sem, eN_cells]
    refine if_s (fun ht => ?_) (fun hf => ?_)
    · have hlt : i < d.kids.length := by simpa using ht
      have g1 := get_map eN hlt
      have hs := nodesRs_take d.kids i hlt
      have hle := nodesRs_len d.kids (i + 1)
      rw [hs, List.length_append] at hle
      have q := ih d.kids[i] (hz _ (List.getElem_mem hlt)) (hk _ (List.getElem_mem hlt)) (by omega)
      have hc0 : ((nodesRs (d.kids.take i)).length + (nodesR d.kids[i]).length + 1) * 64 ≤ 35184372088832 := Nat.le_trans (Nat.mul_le_mul_right 64 (Nat.succ_le_succ hle)) hc
      clear hc hle ih hz hk ho hn
      generalize nodesRs (d.kids.take i) = out at *
      generalize nodesR d.kids[i] = new at *
      simp only [go_sem, g1, eN_cells, eN_fold]
      refine callW_pure q (by simp [go_sem]) (by simp [go_sem]) ?_
      simp only [go_sem]
      refine v_for (good := fun j => j ≤ new.length) (m := fun j => new.length - j)
        (E := fun j => [(1, .ptr 0 0), (3, .sl ((d :: (out ++ new.take j)).map eN) 3), (4, .int .i64 i), (5, .sl (new.map eN) 0), (6, .int .i64 j)]) (O := fun j => [.cells (eN d).cells, .tok (out.length + j + 1) 5])
        (by intro i _; simp [go_sem, Obj.idsB, eN_cells]) rfl ?_ 0 _ (by omega) (by simp [go_sem]) (by simp [eN_cells]) rfl rfl
      intro j hj
      simp only [go_sem, eN_cells]
      refine if_s (fun ht => ?_) (fun hf => ?_)
      · have hjt : j < new.length := by simpa using ht
        have g2 := get_map eN hjt
        have w : IntKind.i64.wrap ((j : Int) + 1) = ((j + 1 : Nat) : Int) := wrap_succ (Nat.lt_of_le_of_lt hjt (cap_lt hc0))
        have hlen : (out ++ new.take j).length = out.length + j := by simp; omega
        have hcap : (out.length + j + 1 + 1) * 64 ≤ 35184372088832 := Nat.le_trans (Nat.mul_le_mul_right 64 (add_two_le (a := out.length) hjt)) hc0
        simp only [go_sem, g2, eN_cells, eN_fold, hlen, hcap]
        exact ⟨j + 1, by omega, by simp only; omega, by simp only [go_sem, w, List.take_add_one, List.getElem?_eq_getElem hjt, Option.toList_some, List.map_append, List.append_assoc], by simp only [go_sem, eN_cells, Nat.add_assoc, Nat.add_comm 1 j], rfl, rfl⟩
      · have hge : j = new.length := by
          have : new.length ≤ j := by simpa using hf
          omega
        subst hge
        simp only [go_sem, eN_cells]
        exact ⟨i + 1, by omega, by simp only; omega, by simp [go_sem, wrap_len hlt hl, hs], by simp [hs, eN_cells], rfl, rfl⟩
    · have hge : i = d.kids.length := by
        have : d.kids.length ≤ i := by simpa using hf
        omega
      subst hge
      simp [go_sem, List.take_length]
end Go.Proofs

/- V, proofs: counting nodes, the bounds of the laws, Right. -/
set_option linter.unusedVariables false
set_option linter.unusedSimpArgs false
namespace Go.Proofs
open Go.V Go.RowKit

theorem wrap_id {x : Int} (h1 : 0 ≤ x) (h2 : x < 2 ^ 63) : IntKind.i64.wrap x = x := by
  obtain ⟨n, rfl⟩ := Int.eq_ofNat_of_zero_le h1
  exact wrap_nat (by omega)

theorem nodesR_pos (d : Nd) : 1 ≤ (nodesR d).length := by rw [nodesR_kids]; simp

theorem f26 : ∀ (n : Nat) (d : Nd), SizeOf.sizeOf d < n → okN d → ∀ lim : Int, 0 ≤ lim → lim < 2 ^ 62 → ∃ r : Int, (1 ≤ r ∧ r ≤ lim + 1 ∧ (r ≤ lim → r = (nodesR d).length)) ∧ PureC Try.prog 26 [eN d, .int .i64 lim] (.int .i64 r) := by
  intro n
  induction n with
  | zero => intro d h; omega
  | succ n ih =>
    intro d hn ho lim l0 l1
    have hl : d.kids.length ≤ maxLen := by obtain ⟨k, t, a, e, ks⟩ := d; exact ho.2.2.2.2.1
    have hk : ∀ x ∈ d.kids, okN x := by obtain ⟨k, t, a, e, ks⟩ := d; exact okNs_iff.1 ho.2.2.2.2.2
    have hz : ∀ x ∈ d.kids, SizeOf.sizeOf x < n := fun x hx => by
      obtain ⟨k, t, a, e, ks⟩ := d
      have := List.sizeOf_lt_of_mem (show x ∈ ks from hx)
      simp only [Nd.mk.sizeOf_spec] at hn
      omega
    clear hn ho
    obtain ⟨r, ⟨x, rfl, hx⟩, hp⟩ := pure_ex (R := fun r => ∃ x : Int, r = .int .i64 x ∧ (1 ≤ x ∧ x ≤ lim + 1 ∧ (x ≤ lim → x = (nodesR d).length))) m26 (args := [eN d, .int .i64 lim]) rfl (by simp [eN_argOk, argOk_int]) (by
      unfold v26
      simp only [go_sem]
      refine pv_for (α := Nat × Int) (good := fun p => p.1 ≤ d.kids.length ∧ 1 ≤ p.2 ∧ p.2 ≤ lim + 1 ∧ (p.2 ≤ lim → p.2 = 1 + (nodesRs (d.kids.take p.1)).length)) (m := fun p => d.kids.length - p.1)
        (E := fun p => [(1, .int .i64 lim), (2, .ptr 0 0), (5, .int .i64 p.2), (6, .int .i64 p.1)]) (O := fun _ => [.cells (eN d).cells])
        (by intro i _; simp [go_sem, Obj.idsB, eN_cells]) rfl ?_ (0, 1) _ ⟨by simp, by omega, by omega, fun _ => by simp [nodesRs]⟩ (by simp [go_sem]) (by simp [eN_cells]) rfl rfl
      rintro ⟨i, y⟩ ⟨hi, y1, y2, y3⟩
      simp only at hi y1 y2 y3
      simp only [go_sem, eN_cells]
      refine p_regm (E := fun b => [(1, .int .i64 lim), (2, .ptr 0 0), (5, .int .i64 y), (6, .int .i64 i), (16, .bool (decide ((i : Int) < d.kids.length) && decide (y ≤ lim)))]) (O := [.cells (eN d).cells]) (α := Unit) ?_ (fun _ => ?_)
      · simp only [go_sem, eN_cells]
        cases hb : decide ((i : Int) < d.kids.length) with
        | true => simp only [go_sem, hb]; exact ⟨(), rfl⟩
        | false => simp only [go_sem, hb]; exact ⟨(), rfl⟩
      · simp only [go_sem]
        refine pif_s (fun ht => ?_) (fun hf => ?_)
        · rw [Bool.and_eq_true] at ht
          have hlt : i < d.kids.length := by have := of_decide_eq_true ht.1; omega
          have hy : y ≤ lim := of_decide_eq_true ht.2
          have g1 := get_map eN hlt
          obtain ⟨z, ⟨z1, z2, z3⟩, hq⟩ := ih d.kids[i] (hz _ (List.getElem_mem hlt)) (hk _ (List.getElem_mem hlt)) (lim - y) (by omega) (by omega)
          have w1 : IntKind.i64.wrap (lim - y) = lim - y := wrap_id (by omega) (by omega)
          have w2 : IntKind.i64.wrap (y + z) = y + z := wrap_id (by omega) (by omega)
          have hs := nodesRs_take d.kids i hlt
          simp only [go_sem, g1, eN_cells, eN_fold, w1]
          refine pcall hq (by simp [go_sem]) (by simp [go_sem]) ?_
          simp only [go_sem, w2]
          refine ⟨(i + 1, y + z), ⟨by simp only; omega, by simp only; omega, by simp only; omega, fun h => ?_⟩, by simp only; omega, by simp only [go_sem, wrap_len hlt hl], by simp only [go_sem, eN_cells], rfl, rfl⟩
          simp only at h ⊢
          rw [hs, List.length_append]
          have := y3 hy
          have := z3 (by omega)
          omega
        · simp only [go_sem]
          refine ⟨_, rfl, rfl, y, rfl, y1, y2, fun h => ?_⟩
          have hy := y3 h
          have hge : d.kids.length ≤ i := by
            rw [Bool.and_eq_false_iff] at hf
            rcases hf with h1 | h1
            · have := of_decide_eq_false h1; omega
            · exact absurd h (of_decide_eq_false h1)
          rw [nodesR_kids, List.length_cons]
          rw [List.take_of_length_le hge] at hy
          omega)
    exact ⟨x, hx, hp⟩

def countR (d : Nd) (k : Int) : Nat := ((nodesR d).filter fun x => x.kind == k).length
theorem count_take (l : List Nd) (k : Int) (i : Nat) (h : i < l.length) : ((l.take (i + 1)).filter fun x => x.kind == k).length = ((l.take i).filter fun x => x.kind == k).length + (if l[i].kind == k then 1 else 0) := by
  rw [List.take_add_one, List.getElem?_eq_getElem h, List.filter_append, List.length_append]
  congr 1
  simp only [Option.toList_some, List.filter_cons, List.filter_nil]
  split <;> rfl
theorem count_le (l : List Nd) (k : Int) (i : Nat) : ((l.take i).filter fun x => x.kind == k).length ≤ i := by
  refine Nat.le_trans (List.length_filter_le _ _) ?_
  rw [List.length_take]
  omega

theorem f27 (d : Nd) (ho : okN d) (hc : (nodesR d).length * 64 ≤ 35184372088832) (k : Int) : PureC Try.prog 27 [eN d, .int .i64 k] (.int .i64 (countR d k)) := by
  refine pure_of_wp m27 rfl (by simp [eN_argOk, argOk_int]) ?_
  have q := f37 _ d (Nat.lt_succ_self _) ho hc
  have hb : (nodesR d).length < 2 ^ 62 := by clear q ho; omega
  clear hc ho
  unfold countR
  generalize nodesR d = l at *
  unfold FnW v27
  simp only [go_sem, eN_cells, eN_fold]
  refine callW_pure q (by simp [go_sem]) (by simp [go_sem]) ?_
  simp only [go_sem]
  refine v_for (good := fun i => i ≤ l.length) (m := fun i => l.length - i)
    (E := fun i => [(1, .int .i64 k), (5, .sl (l.map eN) 0), (6, .int .i64 ((l.take i).filter fun x => x.kind == k).length), (7, .int .i64 i)]) (O := fun _ => [.cells (eN d).cells])
    (by intro i _; simp [go_sem, Obj.idsB, eN_cells]) rfl ?_ 0 _ (by omega) (by simp [go_sem]) (by simp [eN_cells]) rfl rfl
  intro i hi
  simp only [go_sem, eN_cells]
  refine if_s (fun ht => ?_) (fun hf => ?_)
  · have hlt : i < l.length := by simpa using ht
    have g1 := get_map eN hlt
    have hs := count_take l k i hlt
    have hle := count_le l k i
    have w : IntKind.i64.wrap ((i : Int) + 1) = ((i + 1 : Nat) : Int) := wrap_succ (by omega)
    simp only [go_sem, g1, eN_cells]
    generalize ((l.take i).filter fun x => x.kind == k).length = c at *
    have w2 : IntKind.i64.wrap ((c : Int) + 1) = ((c + 1 : Nat) : Int) := wrap_succ (by omega)
    refine if_s (fun h => ?_) (fun h => ?_)
    · rw [h, if_pos rfl] at hs
      simp only [go_sem]
      exact ⟨i + 1, by omega, by simp only; omega, by simp only [go_sem, w, w2, hs], by simp only [go_sem, eN_cells], rfl, rfl⟩
    · rw [h, if_neg (by simp)] at hs
      simp only [go_sem]
      exact ⟨i + 1, by omega, by simp only; omega, by simp only [go_sem, w, hs], by simp only [go_sem, eN_cells], rfl, rfl⟩
  · have hge : i = l.length := by
      have : l.length ≤ i := by simpa using hf
      omega
    subst hge
    simp [go_sem, List.take_length]

def metaR (x : Nd) : Bool := x.kind == 25 || x.kind == 26
def bareR (d : Nd) : Bool := (nodesR d).all fun x => !(metaR x && decide ((x.kids.length : Int) > 0))
theorem all_false {α : Type} {p : α → Bool} {l : List α} {i : Nat} (h : i < l.length) (hp : p l[i] = false) : l.all p = false := by
  rw [List.all_eq_false]
  exact ⟨l[i], List.getElem_mem h, by simp [hp]⟩
theorem all_true {α : Type} {p : α → Bool} {l : List α} (h : ∀ j (hj : j < l.length), p l[j] = true) : l.all p = true := by
  rw [List.all_eq_true]
  intro x hx
  obtain ⟨j, hj, rfl⟩ := List.getElem_of_mem hx
  exact h j hj

theorem f33 (d : Nd) (ho : okN d) (hc : (nodesR d).length * 64 ≤ 35184372088832) : PureC Try.prog 33 [eN d] (.bool (bareR d)) := by
  refine pure_of_wp m33 rfl (by simp [eN_argOk, argOk_int]) ?_
  have q := f37 _ d (Nat.lt_succ_self _) ho hc
  have hb : (nodesR d).length < 2 ^ 62 := by clear q ho; omega
  clear hc ho
  unfold bareR
  generalize nodesR d = l at *
  unfold FnW v33
  simp only [go_sem, eN_cells, eN_fold]
  refine callW_pure q (by simp [go_sem]) (by simp [go_sem]) ?_
  simp only [go_sem]
  refine v_for (good := fun i => i ≤ l.length ∧ ∀ j (h : j < l.length), j < i → (!(metaR l[j] && decide ((l[j].kids.length : Int) > 0))) = true) (m := fun i => l.length - i)
    (E := fun i => [(3, .sl (l.map eN) 0), (4, .int .i64 i)]) (O := fun _ => [.cells (eN d).cells])
    (by intro i _; simp [go_sem, Obj.idsB, eN_cells]) rfl ?_ 0 _ ⟨by omega, by omega⟩ (by simp [go_sem]) (by simp [eN_cells]) rfl rfl
  rintro i ⟨hi, hn⟩
  simp only [go_sem, eN_cells]
  refine if_s (fun ht => ?_) (fun hf => ?_)
  · have hlt : i < l.length := by simpa using ht
    have g1 := get_map eN hlt
    have w : IntKind.i64.wrap ((i : Int) + 1) = ((i + 1 : Nat) : Int) := wrap_succ (by omega)
    have fin : (!(metaR l[i] && decide ((l[i].kids.length : Int) > 0))) = true → (i + 1 ≤ l.length ∧ ∀ j (h : j < l.length), j < i + 1 → (!(metaR l[j] && decide ((l[j].kids.length : Int) > 0))) = true) := fun hx => by
      refine ⟨by omega, fun j h hj => ?_⟩
      rcases Nat.lt_succ_iff_lt_or_eq.1 hj with q | rfl
      · exact hn j h q
      · exact hx
    cases h1 : (l[i].kind == 25) with
    | true =>
      cases h2 : decide ((l[i].kids.length : Int) > 0) with
      | true =>
        have hr := all_false (p := fun x => !(metaR x && decide ((x.kids.length : Int) > 0))) hlt (by simp only [metaR, h1, h2]; rfl)
        simp only [go_sem, g1, eN_cells, h1, h2, hr]
      | false =>
        simp only [go_sem, g1, eN_cells, h1, h2]
        exact ⟨i + 1, fin (by simp only [h2, Bool.and_false, Bool.not_false]), by simp only; omega, by simp only [go_sem, w], by simp only [go_sem, eN_cells], rfl, rfl⟩
    | false =>
    cases h3 : (l[i].kind == 26) with
    | false =>
      simp only [go_sem, g1, eN_cells, h1, h3]
      exact ⟨i + 1, fin (by simp [metaR, h1, h3]), by simp only; omega, by simp only [go_sem, w], by simp only [go_sem, eN_cells], rfl, rfl⟩
    | true =>
      cases h2 : decide ((l[i].kids.length : Int) > 0) with
      | true =>
        have hr := all_false (p := fun x => !(metaR x && decide ((x.kids.length : Int) > 0))) hlt (by simp only [metaR, h1, h2, h3]; rfl)
        simp only [go_sem, g1, eN_cells, h1, h2, h3, hr]
      | false =>
        simp only [go_sem, g1, eN_cells, h1, h2, h3]
        exact ⟨i + 1, fin (by simp only [h2, Bool.and_false, Bool.not_false]), by simp only; omega, by simp only [go_sem, w], by simp only [go_sem, eN_cells], rfl, rfl⟩
  · have hge : l.length ≤ i := by simpa using hf
    have hr := all_true (p := fun x => !(metaR x && decide ((x.kids.length : Int) > 0))) (l := l) fun j hj => hn j hj (by omega)
    simp only [go_sem, hr]

set_option maxHeartbeats 1000000 in
theorem f32 (d : Nd) (ho : okN d) (hc : (nodesR d).length * 64 ≤ 35184372088832) : EB 32 [eN d] := by
  refine eb_of m32 rfl (by simp [eN_argOk, argOk_int]) ?_
  have q := f37 _ d (Nat.lt_succ_self _) ho hc
  have e39 := f39 d ho
  have hb : (nodesR d).length < 2 ^ 62 := by clear q ho e39; omega
  clear hc ho
  generalize nodesR d = l at *
  unfold v32
  simp only [go_sem]
  refine p_regm (E := fun b => [(1, .ptr 0 0), (18, .bool b)]) (O := [.cells (eN d).cells]) ?_ (fun b => ?_)
  · simp only [go_sem, eN_cells, eN_fold]
    repeat' first
      | with_reducible exact ⟨_, rfl⟩
      | (with_reducible refine pg_s (fun h => ?_) (fun h => ?_) <;> simp only [go_sem, h, eN_cells, eN_fold])
      | (refine pcallE (by simp only [go_sem]; exact e39 _ _) (by simp [go_sem]) (fun b => ?_); simp only [go_sem, eN_cells, eN_fold])
  simp only [go_sem]
  refine pif_s (fun ht => ?_) (fun hf => ?_)
  · simp only [go_sem]; exact bo_ex
  simp only [go_sem, eN_cells, eN_fold]
  refine pcall q (by simp [go_sem]) (by simp [go_sem]) ?_
  simp only [go_sem]
  refine pif_s (fun ht => ?_) (fun hf => ?_)
  · simp only [go_sem]; exact bo_ex
  simp only [go_sem]
  refine pv_for (good := fun i => i ≤ l.length) (m := fun i => l.length - i)
    (E := fun i => [(3, .sl (l.map eN) 0), (4, .int .i64 i)]) (O := fun _ => [.cells (eN d).cells])
    (by intro i _; simp [go_sem, Obj.idsB, eN_cells]) rfl ?_ 0 _ (by omega) (by simp [go_sem]) (by simp [eN_cells]) rfl rfl
  intro i hi
  simp only [go_sem]
  refine pif_s (fun ht => ?_) (fun hf => ?_)
  · have hlt : i < l.length := by simpa using ht
    have g1 := get_map eN hlt
    have w : IntKind.i64.wrap ((i : Int) + 1) = ((i + 1 : Nat) : Int) := wrap_succ (by omega)
    simp only [go_sem]
    refine pv_for (good := fun j => j ≤ l.length) (m := fun j => l.length - j)
      (E := fun j => [(3, .sl (l.map eN) 0), (4, .int .i64 i), (5, .int .i64 j)]) (O := fun _ => [.cells (eN d).cells])
      (by intro i _; simp [go_sem, Obj.idsB, eN_cells]) rfl ?_ 0 _ (by omega) (by simp [go_sem]) (by simp [eN_cells]) rfl rfl
    intro j hj
    simp only [go_sem]
    refine pif_s (fun ht => ?_) (fun hf => ?_)
    · have hjt : j < l.length := by simpa using ht
      have g2 := get_map eN hjt
      have w2 : IntKind.i64.wrap ((j : Int) + 1) = ((j + 1 : Nat) : Int) := wrap_succ (by omega)
      simp only [go_sem]
      refine p_regm (E := fun b => [(3, .sl (l.map eN) 0), (4, .int .i64 i), (5, .int .i64 j), (70, .bool b)]) (O := [.cells (eN d).cells]) ?_ (fun b => ?_)
      · simp only [go_sem, g1, g2, eN_cells]
        repeat' first
          | with_reducible exact ⟨_, rfl⟩
          | (with_reducible refine pg_s (fun h => ?_) (fun h => ?_) <;> simp only [go_sem, h, g1, g2, eN_cells])
      · simp only [go_sem]
        refine pif_s (fun h => ?_) (fun h => ?_) <;> simp only [go_sem]
        · exact bo_ex
        · exact ⟨j + 1, by omega, by simp only; omega, by simp only [go_sem, w2], by simp only [go_sem, eN_cells], rfl, rfl⟩
    · simp only [go_sem]
      exact ⟨i + 1, by omega, by simp only; omega, by simp only [go_sem, w], by simp only [go_sem, eN_cells], rfl, rfl⟩
  · simp only [go_sem]
    exact bo_ex

/-- within the bounds of the laws -/
def fitR (p n : Nd) : Prop := (nodesR p).length ≤ 30 ∧ (nodesR n).length ≤ 150 ∧ bareR p = true ∧ (countR p 26 : Int) ≤ 3

theorem cap30 {n : Nat} (h : n ≤ 30) : n * 64 ≤ 35184372088832 := by omega
theorem f10 (p n : Nd) (hp : okN p) (hn : okN n) : ∃ b, (b = true → fitR p n) ∧ PureC Try.prog 10 [eN p, eN n] (.bool b) := by
  obtain ⟨r1, ⟨_, _, k1⟩, q1⟩ := f26 _ p (Nat.lt_succ_self _) hp 30 (by omega) (by omega)
  obtain ⟨r2, ⟨_, _, k2⟩, q2⟩ := f26 _ n (Nat.lt_succ_self _) hn 150 (by omega) (by omega)
  obtain ⟨r, ⟨b, rfl, hb⟩, hp⟩ := pure_ex (R := fun r => ∃ b, r = .bool b ∧ (b = true → fitR p n)) m10 (args := [eN p, eN n]) rfl (by simp [eN_argOk]) (by
    unfold v10
    simp only [go_sem, pe_regG, eN_cells, eN_fold]
    refine pcall q1 (by simp [go_sem]) (by simp [go_sem]) ?_
    simp only [go_sem]
    refine pg_s (fun h1 => ?_) (fun h1 => ?_) <;> simp only [go_sem, h1, eN_cells, eN_fold]
    rotate_left
    · exact ⟨_, rfl, rfl, _, rfl, nofun⟩
    have s1 : (nodesR p).length ≤ 30 := by
      have := of_decide_eq_true h1
      have := k1 this
      omega
    refine pcall q2 (by simp [go_sem]) (by simp [go_sem]) ?_
    simp only [go_sem, h1]
    refine pg_s (fun h2 => ?_) (fun h2 => ?_) <;> simp only [go_sem, h1, h2, eN_cells, eN_fold]
    rotate_left
    · exact ⟨_, rfl, rfl, _, rfl, nofun⟩
    have s2 : (nodesR n).length ≤ 150 := by
      have := of_decide_eq_true h2
      have := k2 this
      omega
    refine pcallE (by simp only [go_sem]; exact f32 p hp (cap30 s1)) (by simp [go_sem]) (fun b => ?_)
    simp only [go_sem]
    refine pg_s (fun h3 => ?_) (fun h3 => ?_) <;> simp only [go_sem, h1, h2, h3, eN_cells, eN_fold]
    rotate_left
    · exact ⟨_, rfl, rfl, _, rfl, nofun⟩
    refine pcall (f33 p hp (cap30 s1)) (by simp [go_sem]) (by simp [go_sem]) ?_
    simp only [go_sem]
    refine pg_s (fun h4 => ?_) (fun h4 => ?_) <;> simp only [go_sem, h1, h2, h3, h4, eN_cells, eN_fold]
    rotate_left
    · exact ⟨_, rfl, rfl, _, rfl, nofun⟩
    refine pcall (f27 p hp (cap30 s1) 26) (by simp [go_sem]) (by simp [go_sem]) ?_
    simp only [go_sem]
    exact ⟨_, rfl, rfl, _, rfl, fun h => ⟨s1, s2, h4, of_decide_eq_true h⟩⟩)
  exact ⟨b, hb, hp⟩
end Go.Proofs

/- V, proofs: Same, of the code and of the reference. -/
set_option linter.unusedVariables false
set_option linter.unusedSimpArgs false
namespace Go.Proofs
open Go.V Go.RowKit

mutual
/-- the same apart from positions -/
def eqN : Nd → Nd → Bool
  | .mk k t a e ks, .mk k' t' a' e' ks' => k == k' && t == t' && eqNs ks ks'
def eqNs : List Nd → List Nd → Bool
  | [], [] => true
  | x :: r, y :: s => eqN x y && eqNs r s
  | _, _ => false
end
theorem eqNs_allS : ∀ a b, eqNs a b = allS eqN a b
  | [], [] => by simp [eqNs, allS]
  | x :: r, y :: s => by simp [eqNs, allS, eqNs_allS r s]
  | [], y :: s => by simp [eqNs, allS]
  | x :: r, [] => by simp [eqNs, allS]
theorem eqN_eq (x y : Nd) : eqN x y = (x.kind == y.kind && x.text == y.text && allS eqN x.kids y.kids) := by
  obtain ⟨k, t, a, e, ks⟩ := x
  obtain ⟨k', t', a', e', ks'⟩ := y
  simp [eqN, eqNs_allS, Nd.kind, Nd.text, Nd.kids]
theorem kids_ok {d : Nd} (h : okN d) : d.kids.length ≤ maxLen ∧ ∀ x ∈ d.kids, okN x := by
  obtain ⟨k, t, a, e, ks⟩ := d
  exact ⟨h.2.2.2.2.1, okNs_iff.1 h.2.2.2.2.2⟩
theorem kids_lt {d x : Nd} (h : x ∈ d.kids) : SizeOf.sizeOf x < SizeOf.sizeOf d := by
  obtain ⟨k, t, a, e, ks⟩ := d
  have := List.sizeOf_lt_of_mem (show x ∈ ks from h)
  simp only [Nd.mk.sizeOf_spec]
  omega

theorem f24 : ∀ (n : Nat) (x y : Nd), SizeOf.sizeOf x < n → okN x → okN y → PureC Try.prog 24 [eN x, eN y] (.bool (eqN x y)) := by
  intro n
  induction n with
  | zero => intro x y h; omega
  | succ n ih =>
    intro x y hn hx hy
    obtain ⟨lx, ox⟩ := kids_ok hx
    obtain ⟨ly, oy⟩ := kids_ok hy
    have hz : ∀ z ∈ x.kids, SizeOf.sizeOf z < n := fun z h => by have := kids_lt h; omega
    clear hx hy hn
    refine pure_of_wp m24 rfl (by simp [eN_argOk]) ?_
    unfold FnW v24
    have kk := eqN_eq x y
    cases h1 : (x.kind != y.kind) with
    | true =>
      have h1' : (x.kind == y.kind) = false := by rw [bne] at h1; simpa using h1
      rw [h1', Bool.false_and, Bool.false_and] at kk
      simp only [go_sem, eN_cells, h1, kk]
    | false =>
    have h1' : (x.kind == y.kind) = true := by rw [bne] at h1; simpa using h1
    cases h2 : (x.text == y.text) with
    | false =>
      rw [h2, Bool.and_false, Bool.false_and] at kk
      simp only [go_sem, eN_cells, h1, h2, kk]
    | true =>
    rw [h1', h2, Bool.true_and, Bool.true_and] at kk
    by_cases h5 : x.kids.length = y.kids.length
    rotate_left
    · have h5' : ((x.kids.length : Int) != (y.kids.length : Int)) = true := by simp only [bne_iff_ne, ne_eq]; omega
      rw [allS_len h5] at kk
      simp only [go_sem, eN_cells, h1, h2, h5', kk]
    have h5' : ((x.kids.length : Int) != (y.kids.length : Int)) = false := by simp [h5]
    rw [kk]
    simp only [go_sem, eN_cells, h1, h2, h5']
    refine v_for (good := fun i => i ≤ x.kids.length ∧ ∀ j (h : j < x.kids.length) (h' : j < y.kids.length), j < i → eqN x.kids[j] y.kids[j] = true) (m := fun i => x.kids.length - i)
      (E := fun i => [(2, .ptr 0 0), (3, .ptr 1 0), (5, .int .i64 i)]) (O := fun _ => [.cells (eN x).cells, .cells (eN y).cells])
      (by intro i _; simp [go_sem, Obj.idsB, eN_cells]) rfl ?_ 0 _ ⟨by omega, by omega⟩ (by simp [go_sem]) (by simp [eN_cells]) rfl rfl
    rintro i ⟨hi, hs⟩
    simp only [go_sem, eN_cells]
    refine if_s (fun ht => ?_) (fun hf => ?_)
    · have hlt : i < x.kids.length := by simpa using ht
      have hlt' : i < y.kids.length := h5 ▸ hlt
      have g1 := get_map eN hlt
      have g2 := get_map eN hlt'
      simp only [go_sem, g1, g2, eN_cells, eN_fold]
      refine callD_pure (ih x.kids[i] y.kids[i] (hz _ (List.getElem_mem _)) (ox _ (List.getElem_mem _)) (oy _ (List.getElem_mem _))) (by simp [go_sem]) (by simp [go_sem]) ?_
      cases hb : eqN x.kids[i] y.kids[i] with
      | false =>
        simp only [go_sem, hb, allS_at hlt hlt' hb]
      | true =>
        simp only [go_sem, hb]
        refine ⟨i + 1, ⟨by omega, fun j h h' hj => ?_⟩, by simp only; omega, by simp only [go_sem, wrap_len hlt lx], by simp only [go_sem, eN_cells], rfl, rfl⟩
        rcases Nat.lt_succ_iff_lt_or_eq.1 hj with q | rfl
        · exact hs j h h' q
        · exact hb
    · have hge : x.kids.length ≤ i := by simpa using hf
      simp only [go_sem, allS_all h5 fun j h h' => hs j h h' (by omega)]

theorem f28 : ∀ (n : Nat) (x y : Nd), SizeOf.sizeOf x < n → okN x → okN y → PureC Try.prog 28 [eN x, eN y] (.bool (eqN x y)) := by
  intro n
  induction n with
  | zero => intro x y h; omega
  | succ n ih =>
    intro x y hn hx hy
    obtain ⟨lx, ox⟩ := kids_ok hx
    obtain ⟨ly, oy⟩ := kids_ok hy
    have hz : ∀ z ∈ x.kids, SizeOf.sizeOf z < n := fun z h => by have := kids_lt h; omega
    clear hx hy hn
    refine pure_of_wp m28 rfl (by simp [eN_argOk]) ?_
    unfold FnW v28
    have kk := eqN_eq x y
    cases h1 : (x.kind != y.kind) with
    | true =>
      have h1' : (x.kind == y.kind) = false := by rw [bne] at h1; simpa using h1
      rw [h1', Bool.false_and, Bool.false_and] at kk
      simp only [go_sem, eN_cells, h1, kk]
    | false =>
    have h1' : (x.kind == y.kind) = true := by rw [bne] at h1; simpa using h1
    cases h2 : (x.text == y.text) with
    | false =>
      rw [h2, Bool.and_false, Bool.false_and] at kk
      simp only [go_sem, eN_cells, h1, h2, kk]
    | true =>
    rw [h1', h2, Bool.true_and, Bool.true_and] at kk
    by_cases h5 : x.kids.length = y.kids.length
    rotate_left
    · have h5' : ((x.kids.length : Int) != (y.kids.length : Int)) = true := by simp only [bne_iff_ne, ne_eq]; omega
      rw [allS_len h5] at kk
      simp only [go_sem, eN_cells, h1, h2, h5', kk]
    have h5' : ((x.kids.length : Int) != (y.kids.length : Int)) = false := by simp [h5]
    rw [kk]
    simp only [go_sem, eN_cells, h1, h2, h5']
    refine v_for (good := fun i => i ≤ x.kids.length ∧ ∀ j (h : j < x.kids.length) (h' : j < y.kids.length), j < i → eqN x.kids[j] y.kids[j] = true) (m := fun i => x.kids.length - i)
      (E := fun i => [(2, .ptr 0 0), (3, .ptr 1 0), (29, .int .i64 x.kids.length), (30, .int .i64 i)]) (O := fun _ => [.cells (eN x).cells, .cells (eN y).cells])
      (by intro i _; simp [go_sem, Obj.idsB, eN_cells]) rfl ?_ 0 _ ⟨by omega, by omega⟩ (by simp [go_sem]) (by simp [eN_cells]) rfl rfl
    rintro i ⟨hi, hs⟩
    simp only [go_sem, eN_cells]
    refine if_s (fun ht => ?_) (fun hf => ?_)
    · have hlt : i < x.kids.length := by simpa using ht
      have hlt' : i < y.kids.length := h5 ▸ hlt
      have g1 := get_map eN hlt
      have g2 := get_map eN hlt'
      simp only [go_sem, g1, g2, eN_cells, eN_fold]
      refine callD_pure (ih x.kids[i] y.kids[i] (hz _ (List.getElem_mem _)) (ox _ (List.getElem_mem _)) (oy _ (List.getElem_mem _))) (by simp [go_sem]) (by simp [go_sem]) ?_
      cases hb : eqN x.kids[i] y.kids[i] with
      | false =>
        simp only [go_sem, hb, allS_at hlt hlt' hb]
      | true =>
        simp only [go_sem, hb]
        refine ⟨i + 1, ⟨by omega, fun j h h' hj => ?_⟩, by simp only; omega, by simp only [go_sem, wrap_len hlt lx], by simp only [go_sem, eN_cells], rfl, rfl⟩
        rcases Nat.lt_succ_iff_lt_or_eq.1 hj with q | rfl
        · exact hs j h h' q
        · exact hb
    · have hge : x.kids.length ≤ i := by simpa using hf
      simp only [go_sem, allS_all h5 fun j h h' => hs j h h' (by omega)]

theorem f55 (a b : List Nd) (la : a.length ≤ maxLen) (oa : ∀ d ∈ a, okN d) (ob : ∀ d ∈ b, okN d) : PureC Try.prog 55 [.sl (a.map eN) 0, .sl (b.map eN) 0] (.bool (allS eqN a b)) := by
  refine pure_of_wp m55 rfl (by simp [argOk_sl]) ?_
  unfold FnW v55
  by_cases h5 : a.length = b.length
  rotate_left
  · have h5' : ((a.length : Int) != (b.length : Int)) = true := by simp only [bne_iff_ne, ne_eq]; omega
    simp only [go_sem, h5', allS_len h5]
  have h5' : ((a.length : Int) != (b.length : Int)) = false := by simp [h5]
  simp only [go_sem, h5']
  refine v_for (good := fun i => i ≤ a.length ∧ ∀ j (h : j < a.length) (h' : j < b.length), j < i → eqN a[j] b[j] = true) (m := fun i => a.length - i)
    (E := fun i => [(0, .sl (a.map eN) 0), (1, .sl (b.map eN) 0), (5, .int .i64 i)]) (O := fun _ => [])
    (by intro i _; simp [go_sem, Obj.idsB]) rfl ?_ 0 _ ⟨by omega, by omega⟩ (by simp [go_sem]) rfl rfl rfl
  rintro i ⟨hi, hs⟩
  simp only [go_sem]
  refine if_s (fun ht => ?_) (fun hf => ?_)
  · have hlt : i < a.length := by simpa using ht
    have hlt' : i < b.length := h5 ▸ hlt
    have g1 := get_map eN hlt
    have g2 := get_map eN hlt'
    simp only [go_sem, g1, g2, eN_cells, eN_fold]
    refine callD_pure (f24 _ a[i] b[i] (Nat.lt_succ_self _) (oa _ (List.getElem_mem _)) (ob _ (List.getElem_mem _))) (by simp [go_sem]) (by simp [go_sem]) ?_
    cases hb : eqN a[i] b[i] with
    | false => simp only [go_sem, hb, allS_at hlt hlt' hb]
    | true =>
      simp only [go_sem, hb]
      refine ⟨i + 1, ⟨by omega, fun j h h' hj => ?_⟩, by simp only; omega, by simp only [go_sem, wrap_len hlt la], rfl, rfl, rfl⟩
      rcases Nat.lt_succ_iff_lt_or_eq.1 hj with q | rfl
      · exact hs j h h' q
      · exact hb
  · have hge : a.length ≤ i := by simpa using hf
    simp only [go_sem, allS_all h5 fun j h h' => hs j h h' (by omega)]

theorem f41 (a b : List Nd) (la : a.length ≤ maxLen) (oa : ∀ d ∈ a, okN d) (ob : ∀ d ∈ b, okN d) : PureC Try.prog 41 [.sl (a.map eN) 0, .sl (b.map eN) 0] (.bool (allS eqN a b)) := by
  refine pure_of_wp m41 rfl (by simp [argOk_sl]) ?_
  unfold FnW v41
  by_cases h5 : a.length = b.length
  rotate_left
  · have h5' : ((a.length : Int) != (b.length : Int)) = true := by simp only [bne_iff_ne, ne_eq]; omega
    simp only [go_sem, h5', allS_len h5]
  have h5' : ((a.length : Int) != (b.length : Int)) = false := by simp [h5]
  simp only [go_sem, h5']
  refine v_for (good := fun i => i ≤ a.length ∧ ∀ j (h : j < a.length) (h' : j < b.length), j < i → eqN a[j] b[j] = true) (m := fun i => a.length - i)
    (E := fun i => [(0, .sl (a.map eN) 0), (1, .sl (b.map eN) 0), (12, .int .i64 a.length), (13, .int .i64 i)]) (O := fun _ => [])
    (by intro i _; simp [go_sem, Obj.idsB]) rfl ?_ 0 _ ⟨by omega, by omega⟩ (by simp [go_sem]) rfl rfl rfl
  rintro i ⟨hi, hs⟩
  simp only [go_sem]
  refine if_s (fun ht => ?_) (fun hf => ?_)
  · have hlt : i < a.length := by simpa using ht
    have hlt' : i < b.length := h5 ▸ hlt
    have g1 := get_map eN hlt
    have g2 := get_map eN hlt'
    simp only [go_sem, g1, g2, eN_cells, eN_fold]
    refine callD_pure (f28 _ a[i] b[i] (Nat.lt_succ_self _) (oa _ (List.getElem_mem _)) (ob _ (List.getElem_mem _))) (by simp [go_sem]) (by simp [go_sem]) ?_
    cases hb : eqN a[i] b[i] with
    | false => simp only [go_sem, hb, allS_at hlt hlt' hb]
    | true =>
      simp only [go_sem, hb]
      refine ⟨i + 1, ⟨by omega, fun j h h' hj => ?_⟩, by simp only; omega, by simp only [go_sem, wrap_len hlt la], rfl, rfl, rfl⟩
      rcases Nat.lt_succ_iff_lt_or_eq.1 hj with q | rfl
      · exact hs j h h' q
      · exact hb
  · have hge : a.length ≤ i := by simpa using hf
    simp only [go_sem, allS_all h5 fun j h h' => hs j h h' (by omega)]
end Go.Proofs
