/- V, proofs: the law StructuralFills' answer on data. -/
import Derived.Test.YtfhkgkijljfcfaaP1
import Derived.Test.YtfhkgkijljfcfaaB2
import Derived.Test.YtfhkgkijljfcfaaT1
set_option linter.unusedVariables false
set_option linter.unusedSimpArgs false
namespace Go.Proofs
open Go.V Go.RowKit

theorem eN_stripT (d : Nd) : (eN d).stripT = eN d := by rw [eN_agg]; simp [VV.stripT, VV.strip, VV.strip0]
attribute [go_sem] eN_stripT
def namedR (d : Nd) : Bool := (nodesR d).all fun x => !(metaR x && (x.text == [95]))
theorem f23 (d : Nd) (ho : okN d) (hc : (nodesR d).length * 64 ≤ 35184372088832) : PureC Try.prog 23 [eN d] (.bool (namedR d)) := by
  refine pure_of_wp m23 rfl (by simp [eN_argOk, argOk_int]) ?_
  have q := f37 _ d (Nat.lt_succ_self _) ho hc
  have hb : (nodesR d).length < 2 ^ 62 := by clear q ho; omega
  clear hc ho
  unfold namedR
  generalize nodesR d = l at *
  unfold FnW v23
  simp only [go_sem, eN_cells, eN_fold]
  refine callW_pure q (by simp [go_sem]) (by simp [go_sem]) ?_
  simp only [go_sem]
  refine v_for (good := fun i => i ≤ l.length ∧ ∀ j (h : j < l.length), j < i → (!(metaR l[j] && (l[j].text == [95]))) = true) (m := fun i => l.length - i)
    (E := fun i => [(3, .sl (l.map eN) 0), (4, .int .i64 i)]) (O := fun _ => [.cells (eN d).cells])
    (by intro i _; simp [go_sem, Obj.idsB, eN_cells]) rfl ?_ 0 _ ⟨by omega, by omega⟩ (by simp [go_sem]) (by simp [eN_cells]) rfl rfl
  rintro i ⟨hi, hn⟩
  simp only [go_sem, eN_cells]
  refine if_s (fun ht => ?_) (fun hf => ?_)
  · have hlt : i < l.length := by simpa using ht
    have g1 := get_map eN hlt
    have w : IntKind.i64.wrap ((i : Int) + 1) = ((i + 1 : Nat) : Int) := wrap_succ (by omega)
    have fin : (!(metaR l[i] && (l[i].text == [95]))) = true → (i + 1 ≤ l.length ∧ ∀ j (h : j < l.length), j < i + 1 → (!(metaR l[j] && (l[j].text == [95]))) = true) := fun hx => by
      refine ⟨by omega, fun j h hj => ?_⟩
      rcases Nat.lt_succ_iff_lt_or_eq.1 hj with q | rfl
      · exact hn j h q
      · exact hx
    cases h1 : (l[i].kind == 25) with
    | true =>
      cases h2 : (l[i].text == [95]) with
      | true =>
        have hr := all_false (p := fun x => !(metaR x && (x.text == [95]))) hlt (by simp only [metaR, h1, h2]; rfl)
        simp only [go_sem, g1, eN_cells, h1, h2, hr]
      | false =>
        simp only [go_sem, g1, eN_cells, h1, h2]
        exact ⟨i + 1, fin (by simp only [h2, Bool.and_false, Bool.not_false]), by simp only; omega, by simp only [go_sem, w], by simp only [go_sem, eN_cells], rfl, rfl⟩
    | false =>
    cases h3 : (l[i].kind == 26) with
    | false =>
      simp only [go_sem, g1, eN_cells, h1, h3]
      exact ⟨i + 1, fin (by simp [metaR, h1, h3]), by simp only; omega, by simp only [go_sem, w], by simp only [go_sem, eN_cells], rfl, rfl⟩
    | true =>
      cases h2 : (l[i].text == [95]) with
      | true =>
        have hr := all_false (p := fun x => !(metaR x && (x.text == [95]))) hlt (by simp only [metaR, h1, h2, h3]; rfl)
        simp only [go_sem, g1, eN_cells, h1, h2, h3, hr]
      | false =>
        simp only [go_sem, g1, eN_cells, h1, h2, h3]
        exact ⟨i + 1, fin (by simp only [h2, Bool.and_false, Bool.not_false]), by simp only; omega, by simp only [go_sem, w], by simp only [go_sem, eN_cells], rfl, rfl⟩
  · have hge : l.length ≤ i := by simpa using hf
    have hr := all_true (p := fun x => !(metaR x && (x.text == [95]))) (l := l) fun j hj => hn j hj (by omega)
    simp only [go_sem, hr]


theorem nodes_sub2 (p : Nd) : ∀ x ∈ p.kids, (nodesR x).length ≤ (nodesR p).length := by
  have key : ∀ l : List Nd, ∀ x ∈ l, (nodesR x).length ≤ (nodesRs l).length := by
    intro l
    induction l with
    | nil => exact fun x hx => by cases hx
    | cons d r ih =>
      intro x hx
      simp only [nodesRs, List.length_append]
      rcases List.mem_cons.1 hx with rfl | hx
      · omega
      · have := ih x hx; omega
  intro x hx
  have := key p.kids x hx
  rw [nodesR_kids p, List.length_cons]
  omega

theorem value_ok {b : List Bd} (h : ∀ x ∈ b, okB2 x) (name : List UInt8) : okB2 (name, (valueR b name).1) := by
  unfold valueR
  split
  · rename_i y hy
    exact h y (List.mem_of_find?_eq_some hy)
  · exact ⟨⟨Nat.zero_le _, nofun⟩, Nat.zero_le _⟩
theorem fillKs_len {b : List Bd} (h : ∀ x ∈ b, okB2 x) : ∀ l : List Nd, (fillKs b l).length ≤ l.length * 1000001
  | [] => Nat.le_refl _
  | x :: r => by
    have ih := fillKs_len h r
    have hv := (value_ok h x.text).2
    simp only [fillKs, List.length_append, List.length_cons]
    split
    · simp only [List.length_cons, List.length_nil]; omega
    · simp only at hv; omega
theorem fillKs_take (b : List Bd) (l : List Nd) (i : Nat) (h : i < l.length) : fillKs b (l.take (i + 1)) = fillKs b (l.take i) ++ (if l[i].kind != 26 || !(valueR b l[i].text).2 then [fillR b l[i]] else (valueR b l[i].text).1) := by
  rw [List.take_add_one, List.getElem?_eq_getElem h, fillKs_append]
  simp [fillKs]
theorem capF {n : Nat} (h : n ≤ 1001 * 1000001) : (n + 1) * 64 ≤ 35184372088832 := Nat.le_trans (Nat.mul_le_mul_right 64 (Nat.add_le_add_right h 1)) (by decide)

set_option maxHeartbeats 1000000 in
theorem f25 (b : List Bd) (hb : ∀ x ∈ b, okB2 x) (lb : b.length ≤ maxLen) : ∀ (n : Nat) (p : Nd), SizeOf.sizeOf p < n → okN p → (nodesR p).length ≤ 1000 → PureC Try.prog 25 [eN p, .sl (b.map eB) 0] (eN (fillR b p)) := by
  intro n
  induction n with
  | zero => intro p h; omega
  | succ n ih =>
    intro p hn ho hs
    obtain ⟨hl, hk⟩ := kids_ok ho
    have hz : ∀ x ∈ p.kids, SizeOf.sizeOf x < n := fun x hx => by have := kids_lt hx; omega
    have hsz : ∀ x ∈ p.kids, (nodesR x).length ≤ 1000 := fun x hx => by
      have h1 := nodes_sub2 p x hx
      omega
    have hkl : p.kids.length ≤ 1000 := by
      have := nodes_len p.kids
      rw [nodesR_kids, List.length_cons] at hs
      omega
    clear hn hs ho
    refine pure_of_wp m25 rfl (by simp [eN_argOk, argOk_sl]) ?_
    have q21 := fun name => f21 b name lb
    unfold FnW v25
    cases h25 : (p.kind == 25) with
    | true =>
      have hr := fillR_eq b p
      rw [if_pos h25] at hr
      simp only [go_sem, eN_cells, h25]
      refine callW_pure (q21 _) (by first | rfl | simp only [go_sem]) (by first | rfl | simp only [go_sem]) ?_
      simp only [go_sem, eV]
      cases hv : valueR b p.text with
      | mk v ok =>
      rw [hv] at hr
      cases ok with
      | false =>
        simp only at hr
        simp only [go_sem, eN_cells, eN_fold, hr]
      | true =>
        by_cases hl1 : v.length = 1
        · obtain ⟨y, rfl⟩ := List.length_eq_one_iff.1 hl1
          simp only at hr
          have h11 : (((1 : Nat) : Int) == 1) = true := rfl
          simp only [go_sem, eN_cells, eN_fold, hr, List.length_cons, List.length_nil, h11]
        · have hne : ((v.length : Int) == 1) = false := by rw [beq_eq_false_iff_ne]; omega
          have hr' : fillR b p = p := by
            rw [hr]
            split
            · rename_i y hy
              simp only [Prod.mk.injEq, and_true] at hy
              subst hy
              exact absurd rfl hl1
            · rfl
          simp only [go_sem, eN_cells, eN_fold, hr', hne]
    | false =>
    have hr := fillR_eq b p
    rw [if_neg (by rw [h25]; simp)] at hr
    rw [hr]
    simp only [go_sem, eN_cells, h25]
    refine v_for (good := fun i => i ≤ p.kids.length) (m := fun i => p.kids.length - i)
      (E := fun i => [(1, .sl (b.map eB) 0), (2, .ptr 0 0), (4, .ptr 1 0), (7, .ptr 2 0), (8, .int .i64 i)])
      (O := fun i => [.cells (eN p).cells, .cells [.int .i64 0, .str [], .int .i64 0, .int .i64 0, .nils], .cells [.int .i64 p.kind, .str p.text, .int .i64 0, .int .i64 0, .sl ((fillKs b (p.kids.take i)).map eN) 5], .tok (fillKs b (p.kids.take i)).length 5])
      (by intro i _; simp [go_sem, Obj.idsB, eN_cells]) rfl ?_ 0 _ (by omega) (by simp only [go_sem]) (by simp only [go_sem, eN_cells, fillKs]) rfl rfl
    intro i hi
    simp only [go_sem, eN_cells]
    refine if_s (fun ht => ?_) (fun hf => ?_)
    · have hlt : i < p.kids.length := by simpa using ht
      have g1 := get_map eN hlt
      have hsf := fillKs_take b p.kids i hlt
      have hle : (fillKs b (p.kids.take i)).length ≤ 1000 * 1000001 := by
        have h1 := fillKs_len hb (p.kids.take i)
        have h2 : (p.kids.take i).length ≤ 1000 := by rw [List.length_take]; omega
        exact Nat.le_trans h1 (Nat.mul_le_mul_right 1000001 h2)
      have w : IntKind.i64.wrap ((i : Int) + 1) = ((i + 1 : Nat) : Int) := wrap_len hlt hl
      have q25 := ih p.kids[i] (hz _ (List.getElem_mem hlt)) (hk _ (List.getElem_mem hlt)) (hsz _ (List.getElem_mem hlt))
      have hv2 := (value_ok hb p.kids[i].text).2
      simp only at hv2
      generalize fillKs b (p.kids.take i) = out at *
      have hcap : (out.length + 1) * 64 ≤ 35184372088832 := capF (by omega)
      simp only [go_sem, g1, eN_cells]
      refine callW_pure (q21 _) (by first | rfl | simp only [go_sem]) (by first | rfl | simp only [go_sem]) ?_
      simp only [go_sem, eV, g1, eN_cells]
      cases h26 : (p.kids[i].kind != 26) with
      | true =>
        rw [h26, Bool.true_or, if_pos rfl] at hsf
        simp only [go_sem, g1, eN_cells, eN_fold]
        refine callD_pure q25 (by first | rfl | simp only [go_sem]) (by first | rfl | simp only [go_sem]) ?_
        simp only [go_sem, hcap, eN_cells]
        exact ⟨i + 1, by omega, by simp only; omega, by simp only [go_sem, w], by simp only [go_sem, eN_cells, hsf, List.map_append, List.length_append], rfl, rfl⟩
      | false =>
      cases hok : (valueR b p.kids[i].text).2 with
      | false =>
        rw [h26, hok, Bool.false_or, Bool.not_false, if_pos rfl] at hsf
        simp only [go_sem, g1, eN_cells, eN_fold]
        refine callD_pure q25 (by first | rfl | simp only [go_sem]) (by first | rfl | simp only [go_sem]) ?_
        simp only [go_sem, hcap, eN_cells]
        exact ⟨i + 1, by omega, by simp only; omega, by simp only [go_sem, w], by simp only [go_sem, eN_cells, hsf, List.map_append, List.length_append], rfl, rfl⟩
      | true =>
        rw [h26, hok, Bool.false_or, Bool.not_true, if_neg (by simp)] at hsf
        generalize (valueR b p.kids[i].text).1 = v at *
        simp only [go_sem, g1, eN_cells, eN_fold]
        refine v_for (good := fun k => k ≤ v.length) (m := fun k => v.length - k)
          (E := fun k => [(1, .sl (b.map eB) 0), (2, .ptr 0 0), (4, .ptr 1 0), (7, .ptr 2 0), (8, .int .i64 i), (9, .sl (v.map eN) 0), (11, .int .i64 k)])
          (O := fun k => [.cells (eN p).cells, .cells [.int .i64 0, .str [], .int .i64 0, .int .i64 0, .nils], .cells [.int .i64 p.kind, .str p.text, .int .i64 0, .int .i64 0, .sl ((out ++ v.take k).map eN) 5], .tok (out.length + k) 5])
          (by intro i _; simp [-List.map_take, -List.map_append, go_sem, Obj.idsB, eN_cells]) rfl ?_ 0 _ (by omega) (by simp only [go_sem]) (by simp only [go_sem, eN_cells, List.append_nil, Nat.add_zero]) rfl rfl
        intro k hk'
        simp only [go_sem, eN_cells]
        refine if_s (fun ht => ?_) (fun hf => ?_)
        · have hkt : k < v.length := by simpa using ht
          have g2 := get_map eN hkt
          have hlen : (List.map eN out ++ List.map eN (List.take k v)).length = out.length + k := by rw [List.length_append, List.length_map, List.length_map, List.length_take]; omega
          have hcap2 : (out.length + k + 1) * 64 ≤ 35184372088832 := capF (by clear hcap; omega)
          have w2 : IntKind.i64.wrap ((k : Int) + 1) = ((k + 1 : Nat) : Int) := wrap_succ (by clear hcap hcap2; omega)
          simp only [go_sem, g2, eN_cells, eN_fold, List.map_append, hlen, hcap2]
          exact ⟨k + 1, by omega, by simp only; omega, by simp only [go_sem, w2], by simp only [go_sem, eN_cells, List.take_add_one, List.getElem?_eq_getElem hkt, Option.toList_some, List.map_append, List.append_assoc, Nat.add_assoc], rfl, rfl⟩
        · have hge : k = v.length := by
            have : v.length ≤ k := by simpa using hf
            clear hcap
            omega
          subst hge
          simp only [go_sem, List.take_length]
          exact ⟨i + 1, by omega, by simp only; omega, by simp only [go_sem, w], by simp only [go_sem, eN_cells, hsf, List.map_append, List.length_append], rfl, rfl⟩
    · have hge : i = p.kids.length := by
        have : p.kids.length ≤ i := by simpa using hf
        omega
      subst hge
      simp only [go_sem, List.take_length, eN_mk]

theorem match_len2 {p n : Nd} {c : List Bd} (hm : matchR p n = some c) (h1 : (nodesR p).length ≤ 30) (hb : bareR p = true) : c.length ≤ 30 := by
  obtain ⟨n1, n2⟩ := match_names hm hb
  have := foldN_len (nodesR p) []
  have e : c.length = (metasR p).length := by rw [← n1, List.length_map]
  simp only [metasR, List.length_nil] at this e
  omega
mutual
theorem fill_ok {b : List Bd} (hb : ∀ x ∈ b, okB2 x) : ∀ p : Nd, okN p → (nodesR p).length ≤ 1000 → okN (fillR b p)
  | .mk k t a e ks, ho, hs => by
    rw [fillR_eq]
    split
    · split
      · rename_i y hy
        have := (value_ok hb (Nd.mk k t a e ks).text).1.2
        rw [hy] at this
        exact this y (by simp)
      · exact ho
    · obtain ⟨i1, _, _, i4, i5, i6⟩ := ho
      have hl := fillKs_len hb ks
      simp only [nodesR, List.length_cons] at hs
      have hk := nodes_len ks
      have hm : ks.length * 1000001 ≤ 1000 * 1000001 := Nat.mul_le_mul_right _ (by omega)
      have hf := fills_ok hb ks i6 (by omega)
      show okN (.mk k t 0 0 (fillKs b ks))
      simp only [okN]
      exact ⟨i1, ⟨by decide, by decide⟩, ⟨by decide, by decide⟩, i4, Nat.le_trans hl (Nat.le_trans hm (by decide)), okNs_iff.2 hf⟩
theorem fills_ok {b : List Bd} (hb : ∀ x ∈ b, okB2 x) : ∀ l : List Nd, okNs l → (nodesRs l).length ≤ 1000 → ∀ x ∈ fillKs b l, okN x
  | [], _, _ => by simp [fillKs]
  | d :: r, ho, hs => by
    obtain ⟨o1, o2⟩ := ho
    simp only [nodesRs, List.length_append] at hs
    intro x hx
    simp only [fillKs, List.mem_append] at hx
    rcases hx with hx | hx
    · split at hx
      · rw [List.mem_singleton] at hx
        subst hx
        exact fill_ok hb d o1 (by omega)
      · exact (value_ok hb d.text).1.2 x hx
    · exact fills_ok hb r o2 (by omega) x hx
end

theorem f6 (p n : Nd) (hp : okN p) (hn : okN n) : PureC Try.prog 6 [eN p, eN n] (.bool true) := by
  refine pure_of_wp m6 rfl (by simp [eN_argOk]) ?_
  obtain ⟨bf, hbf, q10⟩ := f10 p n hp hn
  unfold FnW v6
  simp only [go_sem]
  refine callW_pure alive rfl rfl ?_
  simp only [go_sem, eN_cells, eN_fold]
  refine callW_pure q10 (by first | rfl | simp only [go_sem]) (by first | rfl | simp only [go_sem]) ?_
  cases bf with
  | false => simp only [go_sem, eN_cells, eN_fold]
  | true =>
  obtain ⟨s1, s2, s3, _⟩ := hbf rfl
  have q23 := f23 p hp (cap30 s1)
  have q11 := f11 p n hp hn s1 s2 s3
  simp only [go_sem, eN_cells, eN_fold]
  refine callW_pure q23 (by first | rfl | simp only [go_sem]) (by first | rfl | simp only [go_sem]) ?_
  cases hnm : namedR p with
  | false => simp only [go_sem, eN_cells, eN_fold]
  | true =>
  cases h26 : (p.kind == 26) with
  | true => simp only [go_sem, eN_cells, eN_fold, h26]
  | false =>
  simp only [go_sem, eN_cells, eN_fold, h26]
  refine callW_pure q11 (by first | rfl | simp only [go_sem]) (by first | rfl | simp only [go_sem]) ?_
  cases hm : matchR p n with
  | none =>
    have hz : (((0 : Nat) : Int) == 0) = true := rfl
    simp only [go_sem, eN_cells, eN_fold, eS, hz]
  | some c =>
    have bo := match_ok hm hp hn s2
    have cl := match_len2 hm s1 s3
    have he := match_fill hm (fun x hx hx2 => by
      have := List.all_eq_true.1 hnm x hx
      simp only [hx2, Bool.true_and, Bool.not_eq_true'] at this
      exact this) h26
    have q25 := f25 c bo (Nat.le_trans cl (by decide)) _ p (Nat.lt_succ_self _) hp (by omega)
    have q24 := f24 _ (fillR c p) n (Nat.lt_succ_self _) (fill_ok bo p hp (by omega)) hn
    rw [he] at q24
    simp only [go_sem, eN_cells, eN_fold, eS]
    refine callD_pure q25 (by first | rfl | simp only [go_sem]) (by first | rfl | simp only [go_sem]) ?_
    simp only [go_sem, eN_cells, eN_fold]
    refine callD_pure q24 (by first | rfl | simp only [go_sem]) (by first | rfl | simp only [go_sem]) ?_
    simp only [go_sem]
end Go.Proofs
