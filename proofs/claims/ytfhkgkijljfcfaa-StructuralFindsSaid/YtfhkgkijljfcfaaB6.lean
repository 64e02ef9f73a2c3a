/- V, proofs: the reference's matching. -/
import Derived.Test.YtfhkgkijljfcfaaB5
set_option linter.unusedVariables false
set_option linter.unusedSimpArgs false
namespace Go.Proofs
open Go.V Go.RowKit

def bindR (l : List Bd) (name : List UInt8) (part : List Nd) : List Bd × Bool :=
  if name == [95] then (l, true) else match l.find? (fun b => b.1 == name) with
    | some b => (l, allS eqN b.2 part)
    | none => (l ++ [(name, part)], true)
def eR (r : List Bd × Bool) : VV := .tup [.sl (r.1.map eB) 0, .bool r.2]

theorem bind_at {name : List UInt8} {part : List Nd} {l : List Bd} {i : Nat} (h0 : (name == [95]) = false) (h : i < l.length) (hn : ∀ j (hj : j < l.length), j < i → (l[j].1 == name) = false) (he : (l[i].1 == name) = true) : bindR l name part = (l, allS eqN l[i].2 part) := by
  have : l.find? (fun b => b.1 == name) = some l[i] := by
    rw [List.find?_eq_some_iff_getElem]
    exact ⟨he, i, h, rfl, fun j hj => by simpa using hn j (by omega) hj⟩
  simp only [bindR, h0, this, Bool.false_eq_true, if_false]
theorem bind_none {name : List UInt8} {part : List Nd} {l : List Bd} (h0 : (name == [95]) = false) (hn : ∀ j (hj : j < l.length), (l[j].1 == name) = false) : bindR l name part = (l ++ [(name, part)], true) := by
  have : l.find? (fun b => b.1 == name) = none := List.find?_eq_none.2 fun b hb => by
    obtain ⟨j, hj, rfl⟩ := List.getElem_of_mem hb
    simpa using hn j hj
  simp only [bindR, h0, this, Bool.false_eq_true, if_false]

theorem cap40 {i n : Nat} (h : i < n) (hc : (n + 1) * 40 ≤ 35184372088832) : (i + 1) * 40 ≤ 35184372088832 := by omega
theorem cap40b {n : Nat} (hc : (n + 1) * 40 ≤ 35184372088832) : n < 2 ^ 62 := by omega

theorem f48 (l : List Bd) (name : List UInt8) (part : List Nd) (lp : part.length ≤ maxLen) (op : ∀ d ∈ part, okN d) (ol : ∀ b ∈ l, okB b) (hc : (l.length + 1) * 40 ≤ 35184372088832) :
    PureC Try.prog 48 [.sl (l.map eB) 0, .str name, .sl (part.map eN) 0] (eR (bindR l name part)) := by
  refine pure_of_wp m48 rfl (by simp [argOk_sl, argOk_str]) ?_
  have ll := cap40b hc
  unfold FnW v48
  cases h0 : (name == [95]) with
  | true =>
    have hr : bindR l name part = (l, true) := by simp only [bindR, h0, if_true]
    simp only [go_sem, h0, hr, eR]
  | false =>
  simp only [go_sem, h0]
  refine v_for (good := fun i => i ≤ l.length ∧ ∀ j (h : j < l.length), j < i → (l[j].1 == name) = false) (m := fun i => l.length - i)
    (E := fun i => [(0, .sl (l.map eB) 0), (1, .str name), (2, .sl (part.map eN) 0), (8, .sl ((l.take i).map eB) 2), (9, .int .i64 i)]) (O := fun i => [.tok i 2])
    (by intro i _; simp [go_sem, Obj.idsB]) rfl ?_ 0 _ ⟨by omega, by omega⟩ (by simp [go_sem]) rfl rfl rfl
  rintro i ⟨hi, hn⟩
  simp only [go_sem]
  refine if_s (fun ht => ?_) (fun hf => ?_)
  · have hlt : i < l.length := by simpa using ht
    have g1 := get_map eB hlt
    cases hb : l[i].1 == name with
    | true =>
      have hr := bind_at (part := part) h0 hlt hn hb
      simp only [go_sem, g1, eB_cells, hb]
      refine callW_pure (f55 l[i].2 part (ol _ (List.getElem_mem hlt)).1 (ol _ (List.getElem_mem hlt)).2 op) (by simp [go_sem]) (by simp [go_sem]) ?_
      simp only [go_sem, hr, eR]
    | false =>
      have hc' := cap40 hlt hc
      have hlen : (l.take i).length = i := by simp; omega
      have w : IntKind.i64.wrap ((i : Int) + 1) = ((i + 1 : Nat) : Int) := wrap_succ (by omega)
      simp only [go_sem, g1, eB_cells, eB_fold, hb, hlen, hc']
      refine ⟨i + 1, ⟨by omega, fun j h hj => ?_⟩, by simp only; omega, by simp only [go_sem, w, List.take_add_one, List.getElem?_eq_getElem hlt, Option.toList_some, List.map_append], by simp only [go_sem], rfl, rfl⟩
      rcases Nat.lt_succ_iff_lt_or_eq.1 hj with q | rfl
      · exact hn j h q
      · exact hb
  · have hge : i = l.length := by
      have : l.length ≤ i := by simpa using hf
      omega
    subst hge
    have hr := bind_none (part := part) h0 (fun j hj => hn j hj hj)
    simp only [go_sem, List.take_length, hc, hr, eR, VV.canon, VV.canon0, List.map_append, eB]

abbrev Tk := List Nd × List Nd
def eT (t : Tk) : VV := .agg [.sl (t.1.map eN) 0, .sl (t.2.map eN) 0]
theorem eT_cells (m : Tk) : (eT m).cells = [.sl (m.1.map eN) 0, .sl (m.2.map eN) 0] := rfl
theorem eT_fold (m : Tk) : .agg [.sl (m.1.map eN) 0, .sl (m.2.map eN) 0] = eT m := rfl
theorem eT_ids (m : Tk) (n : Nat) : (eT m).ids n = true := by simp [eT, VV.ids, idsL]
theorem eT_strip (m : Tk) : (eT m).strip = eT m := by simp [eT, VV.strip, VV.strip0]
theorem eT_noTup (m : Tk) : (eT m).noTup = true := rfl
theorem eT_canon (m : Tk) : (eT m).canon = true := rfl
theorem eT_argOk (m : Tk) : argOk (eT m) = true := by simp [eT, argOk, VV.noHnd, VV.noHnd0, VV.ids, idsL]
theorem box_eT {m : Tk} {ob : List V.Obj} : boxV (eT m) ob = some (.ptr ob.length 0, ob ++ [.cells (eT m).cells]) := rfl
attribute [go_sem] eT_ids eT_strip eT_noTup eT_canon box_eT

def thenR (a b : Tk) (l : List Tk) (two : Bool) : List Tk := a :: ((if two then [b] else []) ++ l)
theorem cap48 {i n c : Nat} (h : i < n) (hc : (n + 2) * 48 ≤ 35184372088832) (h2 : c ≤ 1) : (c + 1 + i + 1) * 48 ≤ 35184372088832 := Nat.le_trans (Nat.mul_le_mul_right 48 (by omega)) hc
theorem cap48b {n : Nat} (hc : (n + 2) * 48 ≤ 35184372088832) : n < 2 ^ 62 := by omega
theorem cap48c : (1 + 1) * 48 ≤ 35184372088832 := by omega

theorem f49 (a b : Tk) (l : List Tk) (two : Bool) (hc : (l.length + 2) * 48 ≤ 35184372088832) :
    PureC Try.prog 49 [eT a, eT b, .sl (l.map eT) 0, .bool two] (.sl ((thenR a b l two).map eT) 0) := by
  refine pure_of_wp m49 rfl (by simp [argOk_sl, argOk_bool, eT_argOk]) ?_
  have ll := cap48b hc
  unfold FnW v49
  cases two with
  | false =>
    simp only [go_sem, eT_cells, eT_fold, cap48c]
    have hr : thenR a b l false = a :: (([] : List Tk) ++ l) := rfl
    refine v_for (good := fun i => i ≤ l.length) (m := fun i => l.length - i)
      (E := fun i => [(2, .sl (l.map eT) 0), (9, .sl ((a :: (([] : List Tk) ++ l.take i)).map eT) 4), (10, .int .i64 i)]) (O := fun i => [.cells (eT a).cells, .cells (eT b).cells, .tok (i + 1) 2])
      (by intro i _; simp [go_sem, Obj.idsB, eT_cells]) rfl ?_ 0 _ (by omega) (by simp [go_sem]) (by simp [eT_cells]) rfl rfl
    intro i hi
    simp only [go_sem, eT_cells]
    refine if_s (fun ht => ?_) (fun hf => ?_)
    · have hlt : i < l.length := by simpa using ht
      have g1 := get_map eT hlt
      have hlen : (l.take i).length = i := by simp; omega
      have hcap : (i + 1 + 1) * 48 ≤ 35184372088832 := Nat.le_trans (Nat.mul_le_mul_right 48 (by clear hc; omega)) hc
      have w : IntKind.i64.wrap ((i : Int) + 1) = ((i + 1 : Nat) : Int) := wrap_succ (by clear hc hcap; omega)
      simp only [go_sem, g1, eT_cells, eT_fold, hlen, hcap]
      exact ⟨i + 1, by simp only; omega, by simp only; omega, by simp only [go_sem, w, List.take_add_one, List.getElem?_eq_getElem hlt, Option.toList_some, List.map_append, List.append_assoc], by simp only [go_sem, eT_cells], rfl, rfl⟩
    · have hge : i = l.length := by
        have : l.length ≤ i := by simpa using hf
        clear hc; omega
      subst hge
      simp only [go_sem, List.take_length, hr]
  | true =>
    simp only [go_sem, eT_cells, eT_fold, cap48c]
    have hr : thenR a b l true = a :: ([b] ++ l) := rfl
    refine v_for (good := fun i => i ≤ l.length) (m := fun i => l.length - i)
      (E := fun i => [(2, .sl (l.map eT) 0), (9, .sl ((a :: ([b] ++ l.take i)).map eT) 4), (10, .int .i64 i)]) (O := fun i => [.cells (eT a).cells, .cells (eT b).cells, .tok (i + 1 + 1) 2])
      (by intro i _; simp [go_sem, Obj.idsB, eT_cells]) rfl ?_ 0 _ (by omega) (by simp [go_sem]) (by simp [eT_cells]) rfl rfl
    intro i hi
    simp only [go_sem, eT_cells]
    refine if_s (fun ht => ?_) (fun hf => ?_)
    · have hlt : i < l.length := by simpa using ht
      have g1 := get_map eT hlt
      have hlen : (l.take i).length = i := by simp; omega
      have hcap : (i + 1 + 1 + 1) * 48 ≤ 35184372088832 := Nat.le_trans (Nat.mul_le_mul_right 48 (by clear hc; omega)) hc
      have w : IntKind.i64.wrap ((i : Int) + 1) = ((i + 1 : Nat) : Int) := wrap_succ (by clear hc hcap; omega)
      simp only [go_sem, g1, eT_cells, eT_fold, hlen, hcap]
      exact ⟨i + 1, by simp only; omega, by simp only; omega, by simp only [go_sem, w, List.take_add_one, List.getElem?_eq_getElem hlt, Option.toList_some, List.map_append, List.append_assoc], by simp only [go_sem, eT_cells], rfl, rfl⟩
    · have hge : i = l.length := by
        have : l.length ≤ i := by simpa using hf
        clear hc; omega
      subst hge
      simp only [go_sem, List.take_length, hr]
end Go.Proofs

/- V, proofs: the reference's matching, as a function. -/
set_option linter.unusedVariables false
set_option linter.unusedSimpArgs false
namespace Go.Proofs
open Go.V Go.RowKit

theorem hdSz_map {α : Type} {f : α → VV} {n : Nat} (h : ∀ a, (f a).cells.length = n) (l : List α) : hdSz (l.map f) n = true := by
  cases l with
  | nil => rfl
  | cons a r => simp [hdSz, h]
theorem hdSz_eN {l : List Nd} : hdSz (l.map eN) 5 = true := hdSz_map (fun a => by rw [eN_cells]; rfl) l
theorem hdSz_eT {l : List Tk} : hdSz (l.map eT) 2 = true := hdSz_map (f := eT) (fun a => rfl) l
theorem take_eN {l : List Nd} {k : Nat} : (l.map eN).take k = (l.take k).map eN := List.map_take.symm
theorem drop_eN {l : List Nd} {k : Nat} : (l.map eN).drop k = (l.drop k).map eN := List.map_drop.symm
attribute [go_sem] hdSz_eN hdSz_eT take_eN drop_eN List.take_length

/-- the first that there is -/
def firstR {β : Type} (f : Nat → Option β) : Nat → Nat → Option β
  | 0, _ => none
  | c + 1, i => match f i with
    | some b => some b
    | none => firstR f c (i + 1)

def solveR : Nat → List Tk → List Bd → Option (List Bd)
  | 0, _, _ => none
  | _ + 1, [], b => some b
  | n + 1, ([], ns) :: T, b => if decide ((ns.length : Int) > 0) then none else solveR n T b
  | n + 1, (p :: ps, ns) :: T, b =>
    if p.kind == 26 then firstR (fun k => if (bindR b p.text (ns.take k)).2 then solveR n ((ps, ns.drop k) :: T) (bindR b p.text (ns.take k)).1 else none) (ns.length + 1) 0
    else match ns with
      | [] => none
      | m :: ms =>
        if p.kind == 25 then if (bindR b p.text [m]).2 then solveR n ((ps, ms) :: T) (bindR b p.text [m]).1 else none
        else if p.kind != m.kind then none
        else if p.text != m.text then none
        else solveR n ((p.kids, m.kids) :: (ps, ms) :: T) b

def eS : Option (List Bd) → VV
  | some b => .tup [.sl (b.map eB) 0, .bool true]
  | none => .tup [.sl [] 0, .bool false]

/-- how much there is to do -/
def wR : List Tk → Nat
  | [] => 0
  | t :: T => 2 * (nodesRs t.1).length + 1 + wR T
theorem wR_len : ∀ T, T.length ≤ wR T
  | [] => Nat.le_refl _
  | t :: T => by have := wR_len T; simp only [wR, List.length_cons]; omega
def okT (t : Tk) : Prop := (t.1.length ≤ maxLen ∧ ∀ d ∈ t.1, okN d) ∧ (nodesRs t.2).length ≤ 1000000 ∧ ∀ d ∈ t.2, okN d
theorem nodes_len : ∀ l : List Nd, l.length ≤ (nodesRs l).length
  | [] => Nat.le_refl _
  | d :: r => by
    have := nodes_len r
    have := nodesR_pos d
    simp only [nodesRs, List.length_append, List.length_cons]
    omega
theorem nodes_drop (l : List Nd) (k : Nat) : (nodesRs (l.drop k)).length ≤ (nodesRs l).length := by
  have := nodesRs_append (l.take k) (l.drop k)
  rw [List.take_append_drop] at this
  rw [this, List.length_append]
  omega

theorem bindR_ok {b : List Bd} {name : List UInt8} {part : List Nd} (hb : ∀ x ∈ b, okB x) (lp : part.length ≤ maxLen) (op : ∀ d ∈ part, okN d) : (∀ x ∈ (bindR b name part).1, okB x) ∧ (bindR b name part).1.length ≤ b.length + 1 := by
  unfold bindR
  split
  · exact ⟨hb, by simp⟩
  · split
    · exact ⟨hb, by simp⟩
    · refine ⟨fun x hx => ?_, by simp⟩
      rcases List.mem_append.1 hx with h | h
      · exact hb x h
      · rw [List.mem_singleton] at h; subst h; exact ⟨lp, op⟩

theorem firstR_some {β : Type} {f : Nat → Option β} {c i : Nat} {b : β} (h : f i = some b) : firstR f (c + 1) i = some b := by simp only [firstR, h]
theorem firstR_none {β : Type} {f : Nat → Option β} {c i : Nat} (h : f i = none) : firstR f (c + 1) i = firstR f c (i + 1) := by simp only [firstR, h]

theorem capB {b m : Nat} (h : b + m ≤ 1000000) : (b + 1) * 40 ≤ 35184372088832 := Nat.le_trans (Nat.mul_le_mul_right 40 (show b + 1 ≤ 1000001 by omega)) (by decide)
theorem capT {b m t : Nat} (h : b + m ≤ 1000000) (ht : t ≤ m) : (t + 2) * 48 ≤ 35184372088832 := Nat.le_trans (Nat.mul_le_mul_right 48 (show t + 2 ≤ 1000002 by omega)) (by decide)

set_option maxHeartbeats 4000000 in
theorem f36 : ∀ (n : Nat) (T : List Tk) (b : List Bd), wR T < n → (∀ t ∈ T, okT t) → (∀ x ∈ b, okB x) → b.length + wR T ≤ 1000000 → PureC Try.prog 36 [.sl (T.map eT) 0, .sl (b.map eB) 0] (eS (solveR n T b)) := by
  intro n
  induction n with
  | zero => intro T b h; omega
  | succ n ih =>
    intro T b hn hT hb hw
    refine pure_of_wp m36 rfl (by simp [argOk_sl]) ?_
    unfold FnW v36
    match T, hn, hT, hw with
    | [], hn, hT, hw =>
      simp only [go_sem, solveR, eS]
    | ([], ns) :: T, hn, hT, hw =>
      have hw' : b.length + wR T ≤ 1000000 := by simp only [wR] at hw; omega
      have hn' : wR T < n := by simp only [wR] at hn; omega
      have hT' : ∀ t ∈ T, okT t := fun t ht => hT t (by simp [ht])
      have hlen : ((T.length + 1 : Nat) : Int) ≠ 0 := by omega
      have hl0 : (((T.length + 1 : Nat) : Int) == 0) = false := by simpa using hlen
      cases h1 : decide ((ns.length : Int) > 0) with
      | true =>
        have hr : solveR (n + 1) (([], ns) :: T) b = none := by simp only [solveR, h1, if_true]
        simp only [go_sem, eT_cells, hl0, h1, hr, eS]
      | false =>
        have hr : solveR (n + 1) (([], ns) :: T) b = solveR n T b := by simp only [solveR, h1, Bool.false_eq_true, if_false]
        simp only [go_sem, eT_cells, hl0, h1, hr]
        refine callW_pure (ih T b hn' hT' hb hw') (by first | rfl | simp only [go_sem]) (by first | rfl | simp only [go_sem]) ?_
        cases solveR n T b <;> simp only [go_sem, eS]
    | (p :: ps, ns) :: T, hn, hT, hw =>
      obtain ⟨⟨lps, ops⟩, lns, ons⟩ := hT _ (List.mem_cons_self ..)
      simp only at lps ops lns ons
      have lns0 : ns.length ≤ 1000000 := Nat.le_trans (nodes_len ns) lns
      have mx : maxLen = 9223372036854775807 := rfl
      have hT' : ∀ t ∈ T, okT t := fun t ht => hT t (by simp [ht])
      have op := ops p (by simp)
      have ops' : ∀ d ∈ ps, okN d := fun d hd => ops d (by simp [hd])
      have lps' : ps.length ≤ maxLen := by simp only [List.length_cons] at lps; omega
      have lT := wR_len T
      have np := nodesR_pos p
      have nk : (nodesR p).length = (nodesRs p.kids).length + 1 := by rw [nodesR_kids]; rfl
      have wv : wR ((p :: ps, ns) :: T) = 2 * ((nodesR p).length + (nodesRs ps).length) + 1 + wR T := by simp only [wR, nodesRs, List.length_append]
      rw [wv] at hn hw
      have hl0 : (((T.length + 1 : Nat) : Int) == 0) = false := by simp; omega
      have hp0 : (((ps.length + 1 : Nat) : Int) == 0) = false := by simp; omega
      have tB := capB (b := b.length) (m := 0) (by omega)
      have tT := capT (b := 0) (m := wR T) (t := T.length) (by omega) lT
      -- one more task in front, with one more binding
      have one : ∀ (ns' : List Nd) (b' : List Bd), (nodesRs ns').length ≤ 1000000 → (∀ d ∈ ns', okN d) → (∀ x ∈ b', okB x) → b'.length ≤ b.length + 1 → PureC Try.prog 36 [.sl (((ps, ns') :: T).map eT) 0, .sl (b'.map eB) 0] (eS (solveR n ((ps, ns') :: T) b')) := fun ns' b' l1 l2 l3 l4 => by
        refine ih _ _ ?_ (fun t ht => ?_) l3 ?_
        · simp only [wR]; omega
        · rcases List.mem_cons.1 ht with rfl | h
          · exact ⟨⟨lps', ops'⟩, l1, l2⟩
          · exact hT' t h
        · simp only [wR]; omega
      cases hk : (p.kind == 26) with
      | true =>
        have hr : solveR (n + 1) ((p :: ps, ns) :: T) b = firstR (fun k => if (bindR b p.text (ns.take k)).2 then solveR n ((ps, ns.drop k) :: T) (bindR b p.text (ns.take k)).1 else none) (ns.length + 1) 0 := by simp only [solveR, hk, if_true]
        rw [hr]
        generalize hF : (fun k => if (bindR b p.text (ns.take k)).2 then solveR n ((ps, ns.drop k) :: T) (bindR b p.text (ns.take k)).1 else none) = F
        simp only [go_sem, eT_cells, eN_cells, hl0, hp0, hk]
        refine v_for (good := fun k => k ≤ ns.length + 1 ∧ firstR F (ns.length + 1) 0 = firstR F (ns.length + 1 - k) k) (m := fun k => ns.length + 1 - k)
          (E := fun k => [(0, .sl (eT (p :: ps, ns) :: T.map eT) 0), (1, .sl (b.map eB) 0), (6, .sl (eN p :: ps.map eN) 0), (7, .sl (ns.map eN) 0), (8, .int .i64 k)]) (O := fun _ => [])
          (by intro i _; simp [go_sem, Obj.idsB]) rfl ?_ 0 _ ⟨by omega, rfl⟩ (by simp [go_sem]) rfl rfl rfl
        rintro k ⟨hk1, hk2⟩
        simp only [go_sem]
        refine if_s (fun ht => ?_) (fun hf => ?_)
        · have hle : k ≤ ns.length := by simpa using ht
          have w : IntKind.i64.wrap ((k : Int) + 1) = ((k + 1 : Nat) : Int) := wrap_succ (by clear tB tT mx; omega)
          have e1 : ns.length + 1 - k = (ns.length - k) + 1 := by omega
          have e2 : ns.length - k = ns.length + 1 - (k + 1) := by omega
          rw [e1] at hk2
          have lt : (ns.take k).length ≤ maxLen := by rw [List.length_take]; omega
          have ot : ∀ d ∈ ns.take k, okN d := fun d hd => ons d (List.mem_of_mem_take hd)
          have ld := Nat.le_trans (nodes_drop ns k) lns
          have od : ∀ d ∈ ns.drop k, okN d := fun d hd => ons d (List.mem_of_mem_drop hd)
          have q48 := f48 b p.text (ns.take k) lt ot hb tB
          obtain ⟨k1, k2⟩ := bindR_ok (name := p.text) hb lt ot
          have q := one _ _ ld od k1 k2
          have hFk : F k = if (bindR b p.text (ns.take k)).2 then solveR n ((ps, ns.drop k) :: T) (bindR b p.text (ns.take k)).1 else none := by rw [← hF]
          generalize bindR b p.text (ns.take k) = bb at *
          have q49 := f49 (ps, ns.drop k) ([], []) T false tT
          simp only [thenR, Bool.false_eq_true, if_false, List.nil_append] at q49
          simp only [go_sem, eN_cells, hle]
          refine callD_pure q48 (by first | rfl | simp only [go_sem]) (by first | rfl | simp only [go_sem]) ?_
          simp only [go_sem, eR]
          cases h2 : bb.2 with
          | false =>
            rw [h2, if_neg (by simp)] at hFk
            rw [firstR_none hFk] at hk2
            simp only [go_sem]
            exact ⟨k + 1, ⟨by omega, by rw [hk2, e2]⟩, by simp only; omega, by simp only [go_sem, w], rfl, rfl, rfl⟩
          | true =>
            rw [h2, if_pos rfl] at hFk
            simp only [go_sem, hle, eT_cells, eN_cells]
            refine callD_pure q49 (by first | rfl | simp only [go_sem, eT]) (by first | rfl | simp only [go_sem]) ?_
            simp only [go_sem]
            refine callD_pure q (by first | rfl | simp only [go_sem]) (by first | rfl | simp only [go_sem]) ?_
            cases hs : solveR n ((ps, ns.drop k) :: T) bb.1 with
            | none =>
              rw [hs] at hFk
              rw [firstR_none hFk] at hk2
              simp only [go_sem, eS]
              exact ⟨k + 1, ⟨by omega, by rw [hk2, e2]⟩, by simp only; omega, by simp only [go_sem, w], rfl, rfl, rfl⟩
            | some c =>
              rw [hs] at hFk
              rw [firstR_some hFk] at hk2
              simp only [go_sem, eS, hk2]
        · have hge : k = ns.length + 1 := by
            have : ¬ (k ≤ ns.length) := by simpa using hf
            clear tB tT
            omega
          subst hge
          rw [Nat.sub_self] at hk2
          simp only [go_sem]
          rw [hk2]
          simp only [go_sem, firstR, eS]
      | false =>
      match ns, lns, ons with
      | [], lns, ons =>
        have hr : solveR (n + 1) ((p :: ps, []) :: T) b = none := by simp only [solveR, hk, Bool.false_eq_true, if_false]
        have hz : (((0 : Nat) : Int) == 0) = true := rfl
        simp only [go_sem, eT_cells, eN_cells, hl0, hp0, hk, hz, hr, eS]
      | m :: ms, lns, ons =>
        have hm0 : (((ms.length + 1 : Nat) : Int) == 0) = false := by simp; omega
        have om := ons m (by simp)
        have oms : ∀ d ∈ ms, okN d := fun d hd => ons d (by simp [hd])
        have lns' : (nodesR m).length + (nodesRs ms).length ≤ 1000000 := by simpa only [nodesRs, List.length_append] using lns
        have lms : (nodesRs ms).length ≤ 1000000 := by omega
        have lmk : (nodesRs m.kids).length ≤ 1000000 := by rw [nodesR_kids, List.length_cons] at lns'; omega
        cases hk2 : (p.kind == 25) with
        | true =>
          have hr : solveR (n + 1) ((p :: ps, m :: ms) :: T) b = if (bindR b p.text [m]).2 then solveR n ((ps, ms) :: T) (bindR b p.text [m]).1 else none := by simp only [solveR, hk, hk2, Bool.false_eq_true, if_false, if_true]
          have lt : [m].length ≤ maxLen := by simp; omega
          have ot : ∀ d ∈ [m], okN d := fun d hd => by rw [List.mem_singleton] at hd; subst hd; exact om
          have q48 := f48 b p.text [m] lt ot hb tB
          obtain ⟨k1, k2⟩ := bindR_ok (name := p.text) hb lt ot
          have q := one _ _ lms oms k1 k2
          have q49 := f49 (ps, ms) ([], []) T false tT
          simp only [thenR, Bool.false_eq_true, if_false, List.nil_append] at q49
          rw [hr]
          generalize bindR b p.text [m] = bb at *
          simp only [go_sem, eT_cells, eN_cells, hl0, hp0, hk, hk2, hm0]
          refine callD_pure q48 (by first | rfl | simp only [go_sem]) (by first | rfl | simp only [go_sem]) ?_
          simp only [go_sem, eR]
          cases h2 : bb.2 with
          | false => simp only [go_sem, h2, eS]
          | true =>
            simp only [go_sem, h2, eT_cells, eN_cells]
            refine callD_pure q49 (by first | rfl | simp only [go_sem, eT]) (by first | rfl | simp only [go_sem]) ?_
            simp only [go_sem]
            refine callD_pure q (by first | rfl | simp only [go_sem]) (by first | rfl | simp only [go_sem]) ?_
            cases solveR n ((ps, ms) :: T) bb.1 <;> simp only [go_sem, eS]
        | false =>
        cases h3 : (p.kind != m.kind) with
        | true =>
          have hr : solveR (n + 1) ((p :: ps, m :: ms) :: T) b = none := by simp only [solveR, hk, hk2, h3, Bool.false_eq_true, if_false, if_true]
          simp only [go_sem, eT_cells, eN_cells, hl0, hp0, hk, hk2, hm0, h3, hr, eS]
        | false =>
        cases h4 : (p.text == m.text) with
        | false =>
          have h4' : (p.text != m.text) = true := by rw [bne, h4]; rfl
          have hr : solveR (n + 1) ((p :: ps, m :: ms) :: T) b = none := by simp only [solveR, hk, hk2, h3, h4', Bool.false_eq_true, if_false, if_true]
          simp only [go_sem, eT_cells, eN_cells, hl0, hp0, hk, hk2, hm0, h3, h4, hr, eS]
        | true =>
          have h4' : (p.text != m.text) = false := by rw [bne, h4]; rfl
          have hr : solveR (n + 1) ((p :: ps, m :: ms) :: T) b = solveR n ((p.kids, m.kids) :: (ps, ms) :: T) b := by simp only [solveR, hk, hk2, h3, h4', Bool.false_eq_true, if_false, if_true]
          have q : PureC Try.prog 36 [.sl (((p.kids, m.kids) :: (ps, ms) :: T).map eT) 0, .sl (b.map eB) 0] (eS (solveR n ((p.kids, m.kids) :: (ps, ms) :: T) b)) := by
            refine ih _ _ ?_ (fun t ht => ?_) hb ?_
            · simp only [wR]; omega
            · rcases List.mem_cons.1 ht with rfl | h
              · exact ⟨kids_ok op, lmk, (kids_ok om).2⟩
              · rcases List.mem_cons.1 h with rfl | h
                · exact ⟨⟨lps', ops'⟩, lms, oms⟩
                · exact hT' t h
            · simp only [wR]; omega
          have q49 := f49 (p.kids, m.kids) (ps, ms) T true tT
          simp only [thenR, if_true, List.cons_append, List.nil_append] at q49
          rw [hr]
          simp only [go_sem, eT_cells, eN_cells, hl0, hp0, hk, hk2, hm0, h3, h4]
          refine callD_pure q49 (by first | rfl | simp only [go_sem, eT]) (by first | rfl | simp only [go_sem]) ?_
          simp only [go_sem]
          refine callD_pure q (by first | rfl | simp only [go_sem]) (by first | rfl | simp only [go_sem]) ?_
          cases solveR n ((p.kids, m.kids) :: (ps, ms) :: T) b <;> simp only [go_sem, eS]
end Go.Proofs
