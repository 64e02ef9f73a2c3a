/- V, encodings and proofs: queries and saved searches: readable ones taken apart, Same with itself, nodes, Update twice. Conditions: the lists' lengths. -/
import Derived.Test.YtifahgjmdiandaaGreatDoorSB3
import Derived.Test.YtifahgjmdiandaaGreatDoorSA8
import Derived.Test.YtifahgjmdiandaaGreatDoorSD1
set_option linter.unusedVariables false
set_option linter.unusedSimpArgs false
namespace Go.Proofs
open Go.V Go.RowKit

/-- a query: kind, text, fold, two numbers, its subs -/
inductive Qy where
  | mk (kind : Int) (text : List UInt8) (fold : Bool) (a b : Int) (subs : List Qy)
mutual
def eQ : Qy → VV
  | .mk k t f a b s => .agg [.int .i64 k, .str t, .bool f, .int .i64 a, .int .i64 b, .sl (eQs s) 0]
def eQs : List Qy → List VV
  | [] => []
  | q :: r => eQ q :: eQs r
end
def Qy.kind : Qy → Int | .mk k _ _ _ _ _ => k
def Qy.text : Qy → List UInt8 | .mk _ t _ _ _ _ => t
def Qy.fold : Qy → Bool | .mk _ _ f _ _ _ => f
def Qy.a : Qy → Int | .mk _ _ _ a _ _ => a
def Qy.b : Qy → Int | .mk _ _ _ _ b _ => b
def Qy.subs : Qy → List Qy | .mk _ _ _ _ _ s => s
theorem eQs_map : ∀ l : List Qy, eQs l = l.map eQ
  | [] => by simp [eQs]
  | q :: r => by simp [eQs, eQs_map r]
theorem eQ_eq (q : Qy) : eQ q = .agg [.int .i64 q.kind, .str q.text, .bool q.fold, .int .i64 q.a, .int .i64 q.b, .sl (q.subs.map eQ) 0] := by
  cases q
  simp only [eQ, eQs_map, Qy.kind, Qy.text, Qy.fold, Qy.a, Qy.b, Qy.subs]
mutual
/-- sizes of readable queries -/
def okQ : Qy → Prop
  | .mk _ _ _ _ _ s => s.length ≤ maxLen ∧ okQs s
def okQs : List Qy → Prop
  | [] => True
  | q :: r => okQ q ∧ okQs r
end
theorem okQs_iff : ∀ {l : List Qy}, okQs l ↔ ∀ q ∈ l, okQ q
  | [] => by simp [okQs]
  | q :: r => by simp [okQs, okQs_iff (l := r)]
theorem okQ_subs {q : Qy} (h : okQ q) : q.subs.length ≤ maxLen ∧ ∀ x ∈ q.subs, okQ x := by
  cases q
  simp only [okQ, okQs_iff] at h
  exact h
theorem eQ_cells (q : Qy) : (eQ q).cells = [.int .i64 q.kind, .str q.text, .bool q.fold, .int .i64 q.a, .int .i64 q.b, .sl (q.subs.map eQ) 0] := by rw [eQ_eq]; rfl
theorem eQ_fold (q : Qy) : VV.agg [.int .i64 q.kind, .str q.text, .bool q.fold, .int .i64 q.a, .int .i64 q.b, .sl (q.subs.map eQ) 0] = eQ q := (eQ_eq q).symm
theorem eQ_strip (q : Qy) : (eQ q).strip = eQ q := by rw [eQ_eq]; rfl
theorem eQ_noTup (q : Qy) : (eQ q).noTup = true := by rw [eQ_eq]; rfl
theorem eQ_ids (q : Qy) (n : Nat) : (eQ q).ids n = true := by rw [eQ_eq]; simp [VV.ids, idsL]
theorem eQ_argOk (q : Qy) : argOk (eQ q) = true := by rw [eQ_eq]; simp [argOk, VV.noHnd, VV.noHnd0, VV.ids, idsL]
theorem hd_q (l : List Qy) : hdSz (l.map eQ) 6 = true := hd_maps (f := eQ) (n := 6) (fun q => by rw [eQ_cells]; rfl) l
attribute [go_sem] eQ_cells eQ_strip eQ_noTup eQ_ids hd_q
instance : Inhabited Qy := ⟨.mk 0 [] false 0 0 []⟩
theorem sz_sub {q : Qy} {i : Nat} (h : i < q.subs.length) : SizeOf.sizeOf q.subs[i] < SizeOf.sizeOf q := by
  have := List.sizeOf_lt_of_mem (List.getElem_mem h)
  cases q
  simp only [Qy.subs] at this ⊢
  simp only [Qy.mk.sizeOf_spec]
  omega

theorem c_R36_Same : ∀ (n : Nat) (q : Qy), SizeOf.sizeOf q < n → okQ q → PureC PR n_R36_Same [eQ q, eQ q] (.bool true)
  | 0, _, h, _ => absurd h (by omega)
  | n + 1, q, hn, hq => by
    refine pure_of_wp m_R36_Same rfl (by simp [eQ_argOk]) ?_
    unfold FnW v_R36_Same
    obtain ⟨hl, hs⟩ := okQ_subs hq
    have h1 : (q.kind != q.kind) = false := by simp
    have h2 : (q.text == q.text) = true := by simp
    have h3 : (q.fold == q.fold) = true := by simp
    have h4 : (q.a != q.a) = false := by simp
    have h5 : (q.b != q.b) = false := by simp
    have h6 : ((q.subs.length : Int) != (q.subs.length : Int)) = false := by simp
    have h7 : (q.fold != q.fold) = false := by simp
    simp only [go_sem, eQ_eq q, h1, h2, h3, h4, h5, h6, h7, Bool.not_true]
    refine v_for (α := Nat) (base := 0) (marks := []) (pu := true) (good := fun i => i ≤ q.subs.length) (m := fun i => q.subs.length - i)
      (E := fun i => [(2, .ptr 0 0), (3, .ptr 1 0), (5, .int .i64 i)]) (O := fun _ => [.cells [.int .i64 q.kind, .str q.text, .bool q.fold, .int .i64 q.a, .int .i64 q.b, .sl (q.subs.map eQ) 0], .cells [.int .i64 q.kind, .str q.text, .bool q.fold, .int .i64 q.a, .int .i64 q.b, .sl (q.subs.map eQ) 0]])
      (by intro i _; simp [go_sem, Obj.idsB]) rfl ?_ 0 _ (by omega) rfl rfl rfl rfl rfl
    intro i hi
    simp only [go_sem]
    refine if_s (fun ht => ?_) (fun hf => ?_)
    · have hlt := len_lt ht
      have gi := get_map eQ hlt
      have hsz := sz_sub hlt
      have hok := hs _ (List.getElem_mem hlt)
      generalize q.subs[i] = x at *
      simp only [go_sem, gi, eQ_fold]
      refine callD_pure (c_R36_Same n x (by omega) hok) (by simp only [go_sem]) (by simp only [go_sem]) ?_
      simp only [go_sem, Bool.not_true]
      exact ⟨i + 1, by omega, by simp only; omega, by simp only [go_sem, wrap_len hlt hl], rfl, rfl, rfl, rfl⟩
    · simp only [go_sem]
mutual
def nodesQ : Qy → Int → Int
  | .mk _ _ _ _ _ s, m => nodesL s m 1
def nodesL : List Qy → Int → Int → Int
  | [], _, n => n
  | q :: r, m, n => if decide (n ≤ m) = true then nodesL r m (IntKind.i64.wrap (n + nodesQ q (IntKind.i64.wrap (m - n)))) else n
end
theorem nodesQ_eq (q : Qy) (m : Int) : nodesQ q m = nodesL q.subs m 1 := by
  cases q
  rw [nodesQ]; rfl
theorem nodesL_get {l : List Qy} {m n : Int} {i : Nat} (h : i < l.length) : nodesL (l.drop i) m n = if decide (n ≤ m) = true then nodesL (l.drop (i + 1)) m (IntKind.i64.wrap (n + nodesQ l[i] (IntKind.i64.wrap (m - n)))) else n := by
  rw [List.drop_eq_getElem_cons h, nodesL]
theorem c_nodes : ∀ (n : Nat) (q : Qy) (m : Int), SizeOf.sizeOf q < n → okQ q → PureC PR n_L48_nodes [eQ q, .int .i64 m] (.int .i64 (nodesQ q m))
  | 0, _, _, h, _ => absurd h (by omega)
  | n + 1, q, m, hn, hq => by
    refine pure_of_wp m_L48_nodes rfl (by simp [eQ_argOk, argOk_int]) ?_
    unfold FnW v_L48_nodes
    obtain ⟨hl, hs⟩ := okQ_subs hq
    rw [nodesQ_eq]
    simp only [go_sem, eQ_eq q]
    refine v_for (α := Nat × Int) (base := 0) (marks := []) (pu := true) (good := fun x => x.1 ≤ q.subs.length ∧ nodesL (q.subs.drop x.1) m x.2 = nodesL q.subs m 1) (m := fun x => q.subs.length - x.1)
      (E := fun x => [(1, .int .i64 m), (2, .ptr 0 0), (5, .int .i64 x.2), (6, .int .i64 x.1)]) (O := fun _ => [.cells [.int .i64 q.kind, .str q.text, .bool q.fold, .int .i64 q.a, .int .i64 q.b, .sl (q.subs.map eQ) 0]])
      (by intro i _; simp [go_sem, Obj.idsB]) rfl ?_ (0, 1) _ ⟨by simp, rfl⟩ rfl rfl rfl rfl rfl
    rintro ⟨i, c⟩ ⟨hi, hp⟩
    simp only at hi hp
    simp only [go_sem]
    cases ht : decide ((i : Int) < (q.subs.length : Int)) with
    | true =>
      have hlt := len_lt ht
      rw [nodesL_get hlt] at hp
      have gi := get_map eQ hlt
      have hsz := sz_sub hlt
      have hok := hs _ (List.getElem_mem hlt)
      generalize q.subs[i] = x at *
      simp only [go_sem]
      refine if_s (fun h2 => ?_) (fun h2 => ?_)
      · rw [if_pos h2] at hp
        simp only [go_sem, gi, eQ_fold]
        refine callW_pure (c_nodes n x (IntKind.i64.wrap (m - c)) (by omega) hok) (by simp only [go_sem]) (by simp only [go_sem]) ?_
        simp only [go_sem]
        exact ⟨(i + 1, IntKind.i64.wrap (c + nodesQ x (IntKind.i64.wrap (m - c)))), ⟨by simp only; omega, hp⟩, by simp only; omega, by simp only [go_sem, wrap_len hlt hl], rfl, rfl, rfl, rfl⟩
      · rw [if_neg (by rw [h2]; decide)] at hp
        simp only [go_sem, hp]
    | false =>
      have hil : i = q.subs.length := by have := len_ge ht; omega
      subst hil
      rw [List.drop_length, nodesL] at hp
      simp only [go_sem, hp]

/-! ### saved searches -/
structure Sv where
  id : Int
  user : Int
  q : Qy
  seen : List Ky
def eSv (s : Sv) : VV := .agg [.int .i64 s.id, .int .i64 s.user, .int .i64 s.q.kind, .str s.q.text, .bool s.q.fold, .int .i64 s.q.a, .int .i64 s.q.b, .sl (s.q.subs.map eQ) 0, .sl (s.seen.map eKy) 0]
theorem eSv_cells (s : Sv) : (eSv s).cells = [.int .i64 s.id, .int .i64 s.user, .int .i64 s.q.kind, .str s.q.text, .bool s.q.fold, .int .i64 s.q.a, .int .i64 s.q.b, .sl (s.q.subs.map eQ) 0, .sl (s.seen.map eKy) 0] := byRfl rfl
theorem eSv_strip (s : Sv) : (eSv s).strip = eSv s := byRfl rfl
theorem eSv_noTup (s : Sv) : (eSv s).noTup = true := byRfl rfl
theorem eSv_ids (s : Sv) (n : Nat) : (eSv s).ids n = true := by simp [eSv, VV.ids, idsL]
theorem eSv_argOk (s : Sv) : argOk (eSv s) = true := by simp [eSv, argOk, VV.noHnd, VV.noHnd0, VV.ids, idsL]
attribute [go_sem] eSv_cells eSv_strip eSv_noTup eSv_ids
theorem eSv_fold (s : Sv) : VV.agg [.int .i64 s.id, .int .i64 s.user, .int .i64 s.q.kind, .str s.q.text, .bool s.q.fold, .int .i64 s.q.a, .int .i64 s.q.b, .sl (s.q.subs.map eQ) 0, .sl (s.seen.map eKy) 0] = eSv s := byRfl rfl
theorem c_RSame (s : Sv) (hq : okQ s.q) (hl : s.seen.length ≤ maxLen) : PureC PR n_R48_Same [eSv s, eSv s] (.bool true) := by
  refine pure_of_wp m_R48_Same rfl (by simp [eSv_argOk]) ?_
  unfold FnW v_R48_Same
  have h1 : (s.id == s.id) = true := by simp
  have h2 : (s.user == s.user) = true := by simp
  simp only [go_sem, eSv, h1, h2, eQ_fold]
  refine callW_pure (c_R36_Same _ s.q (Nat.lt_succ_self _) hq) (by simp only [go_sem]) (by simp only [go_sem]) ?_
  simp only [go_sem]
  refine callW_pure (c_RSameKeys s.seen hl) (by simp only [go_sem]) (by simp only [go_sem]) ?_
  simp only [go_sem]
def updS (s : Sv) (found : List Ky) : Sv := ⟨s.id, s.user, s.q, sortK found⟩
theorem c_Update (s : Sv) (found : List Ky) (hs : s.seen.length ≤ 10000) (hf : found.length ≤ 10000) :
    PureC PR n_saved_Update [eSv s, .sl (found.map eKy) 0] (.tup [eSv (updS s found), .sl ((changesS s.id s.seen found).map eAl) 0]) := by
  refine pure_of_wp m_saved_Update rfl (by simp [eSv_argOk, argOk_sl]) ?_
  unfold FnW v_saved_Update
  simp only [go_sem, eSv]
  refine callW_pure (c_Changes s.id s.seen found (by omega) (by omega)) (by simp only [go_sem]) (by simp only [go_sem]) ?_
  simp only [go_sem]
  refine callW_pure (c_saved_Sort found (by omega)) (by simp only [go_sem]) (by simp only [go_sem]) ?_
  simp only [go_sem, VV.canon, VV.canon0, updS, eSv]
theorem c_RUpdate (s : Sv) (found : List Ky) (hs : s.seen.length ≤ 10000) (hf : found.length ≤ 10000) :
    PureC PR n_R48_Update [eSv s, .sl (found.map eKy) 0] (.tup [eSv (updS s found), .sl ((changesS s.id s.seen found).map eAl) 0]) := by
  refine pure_of_wp m_R48_Update rfl (by simp [eSv_argOk, argOk_sl]) ?_
  unfold FnW v_R48_Update
  simp only [go_sem, eSv, VV.canon, VV.canon0]
  refine callW_pure (c_RSort found (by omega)) (by simp only [go_sem]) (by simp only [go_sem]) ?_
  simp only [go_sem, VV.canon, VV.canon0]
  refine callD_pure (c_RChanges s.id s.seen found (by omega) (by omega)) (by simp only [go_sem]) (by simp only [go_sem]) ?_
  simp only [go_sem, VV.canon, VV.canon0, updS, eSv]
end Go.Proofs
