/- V, proofs: rules for calls of closures that are handed objects; the heap of a match. -/
import Derived.Test.YtfhkgkijljfcfaaB6
set_option linter.unusedVariables false
set_option linter.unusedSimpArgs false
namespace Go.V
open Go.RowKit
section
variable {P : Program} {st : St} {k : St → Prop} {d : Option Nat}

def CallvW (P : Program) (v : VV) (args : List VV) (own : Option (Option Nat × Nat)) (d : Option Nat) (st : St) (k : St → Prop) : Prop :=
  match fnOf v with
  | some (f, cap) => CallW P f (args ++ cap) own d st k
  | none => match yldOf v with
    | some o => args.all VV.noTup = true ∧ YldC P o (args.map VV.strip) st.ob fun r ob' => k { st with env := putD st.env d r, ob := ob' }
    | none => False
def CallvD (P : Program) (v : VV) (args : List VV) (own : Option (Option Nat × Nat)) (d : Option Nat) (st : St) (k : St → Prop) : Prop :=
  match fnOf v with
  | some (f, cap) => CallD P f (args ++ cap) own d st k
  | none => False
theorem ow_callv {x : Opd} {args : List Opd} {own : Option (Option Nat × Nat)} : OpW P ⟨d, none, .callv x args own⟩ st k = CallvW P (x.ev st.env) (args.map (Opd.ev st.env)) own d st k := byRfl rfl
theorem od_callv {x : Opd} {args : List Opd} {own : Option (Option Nat × Nat)} : OpD P ⟨d, none, .callv x args own⟩ st k = CallvD P (x.ev st.env) (args.map (Opd.ev st.env)) own d st k := byRfl rfl
theorem callvW_fn {f : Nat} {cap args : List VV} {own : Option (Option Nat × Nat)} : CallvW P (.fn f cap) args own d st k = CallW P f (args ++ cap) own d st k := byRfl rfl
theorem callvD_fn {f : Nat} {cap args : List VV} {own : Option (Option Nat × Nat)} : CallvD P (.fn f cap) args own d st k = CallD P f (args ++ cap) own d st k := byRfl rfl

theorem callW_det {f : Nat} {args args' : List VV} {own : Option (Option Nat × Nat)} {v : VV} {ob1 : List Obj} (h : ImpC P f args' st.ob fun r o => r = v ∧ o = ob1) (ha : args.map VV.strip = args') (hn : args.all VV.noTup = true) (ho : own = none ∨ (markOf own).isSome = true)
    (hk : k { st with env := putD st.env d v, ob := ob1 }) : CallW P f args own d st k := by
  subst ha
  refine Or.inr ⟨ho, hn, h.mono ?_⟩
  rintro r o ⟨rfl, rfl⟩
  exact hk
theorem callD_det {f : Nat} {args args' : List VV} {own : Option (Option Nat × Nat)} {v : VV} {ob1 : List Obj} {b : Bool} (h : ImpC P f args' st.ob fun r o => r = v ∧ o = ob1) (ha : args.map VV.strip = args') (hn : args.all VV.noTup = true) (hm : markOf own = some b) (hp : b = true → Keeps st.ob ob1)
    (hk : k { st with env := putD st.env d v, ob := ob1 }) : CallD P f args own d st k := by
  subst ha
  exact Or.inr ⟨b, hm, hn, v, ob1, h, hp, hk⟩

theorem endI_of {vf : VF} {n : Nat} {R : VV → List Obj → Prop} {env : List (Nat × VV)} {ob : List Obj} (m : Nat) (r : VV) (h1 : n ≤ m) (h2 : m ≤ ob.length) (h3 : (ob.take m).all (Obj.idsB m) = true) (h4 : (resOfL ⟨env, ob⟩ vf.results).bind outI = some r) (h5 : r.ids m = true) (h6 : R r (ob.take m)) :
    EndI vf n R .ret ⟨⟨env, ob⟩, n, []⟩ := ⟨trivial, rfl, ob, m, r, rfl, h1, h2, h3, h4, h5, h6⟩

theorem getD_app_add {r s : List Obj} {i : Nat} {x : Obj} : (r ++ s).getD (r.length + i) x = s.getD i x := by
  rw [List.getD_eq_getElem?_getD, List.getElem?_append_right (by omega), List.getD_eq_getElem?_getD]
  congr 3
  omega
theorem getD_app_len {r s : List Obj} {x : Obj} : (r ++ s).getD r.length x = s.getD 0 x := by
  have h := getD_app_add (r := r) (s := s) (i := 0) (x := x)
  rw [Nat.add_zero] at h
  exact h
theorem set_app_add {r s : List Obj} {i : Nat} {x : Obj} : (r ++ s).set (r.length + i) x = r ++ s.set i x := by
  rw [List.set_append_right _ _ (by omega)]
  congr 2
  omega
theorem set_app_len {r s : List Obj} {x : Obj} : (r ++ s).set r.length x = r ++ s.set 0 x := by
  have h := set_app_add (r := r) (s := s) (i := 0) (x := x)
  rw [Nat.add_zero] at h
  exact h
theorem nh_ptr {o i : Nat} : (VV.ptr o i).noHnd = true := byRfl rfl
theorem nh_int {k : IntKind} {n : Int} : (VV.int k n).noHnd = true := byRfl rfl
theorem nh_bool {b : Bool} : (VV.bool b).noHnd = true := byRfl rfl
theorem nh_str {s : List UInt8} : (VV.str s).noHnd = true := byRfl rfl
theorem nh_sl {l : List VV} : (VV.sl l 0).noHnd = true := byRfl rfl
theorem nh_fn {f : Nat} {l : List VV} : (VV.fn f l).noHnd = true := byRfl rfl
theorem nh_mp {o : Nat} : (VV.mp o).noHnd = true := byRfl rfl
theorem nh_yld {o : Nat} : (VV.yld o).noHnd = true := byRfl rfl
theorem getD_cells {r s : List Obj} {j : Nat} {cs : List VV} (h : r.getD j .gone = .cells cs) : (r ++ s).getD j .gone = .cells cs := by
  have hj : j < r.length := by
    apply Nat.lt_of_not_le
    intro hle
    rw [List.getD_eq_getElem?_getD, List.getElem?_eq_none hle] at h
    cases h
  rw [List.getD_eq_getElem?_getD, List.getElem?_append_left hj, ← List.getD_eq_getElem?_getD]
  exact h
theorem getD_lt {r : List Obj} {j : Nat} {cs : List VV} (h : r.getD j .gone = .cells cs) : j < r.length := by
  apply Nat.lt_of_not_le
  intro hle
  rw [List.getD_eq_getElem?_getD, List.getElem?_eq_none hle] at h
  cases h
theorem idsB_mono {n m : Nat} (hn : n ≤ m) {o : Obj} (h : o.idsB n = true) : o.idsB m = true := by
  cases o with
  | cells cs => exact (ids_mono hn).2 _ h
  | loop nt env ps a b s p =>
    simp only [Obj.idsB, List.all_eq_true] at h ⊢
    exact fun p hp => (ids_mono hn).1 _ (h p hp)
  | _ => rfl
theorem idsA_mono {n m : Nat} (hn : n ≤ m) {l : List Obj} (h : l.all (Obj.idsB n) = true) : l.all (Obj.idsB m) = true := by
  rw [List.all_eq_true] at h ⊢
  exact fun o ho => idsB_mono hn (h o ho)
theorem keeps_app {ob r : List Obj} : Keeps ob (ob ++ r) := fun o h => by
  unfold nthO at h ⊢
  by_cases ho : o < ob.length
  · rw [List.getD_eq_getElem?_getD, List.getElem?_append_left ho, ← List.getD_eq_getElem?_getD]
  · rw [List.getD_eq_getElem?_getD, List.getElem?_eq_none (by omega)] at h
    cases h
end
end Go.V

namespace Go.Proofs
open Go.V Go.RowKit
attribute [go_sem] nh_ptr nh_int nh_bool nh_str nh_sl nh_fn nh_mp nh_yld ow_callv od_callv callvW_fn callvD_fn

def eE (x : Bd) : VV × VV := (.str x.1, .sl (x.2.map eN) 0)
/-- the heap of a match: what lies ahead, and the map of the values -/
structure Hp (L : Nat) (O : List Bd → List V.Obj) : Prop where
  len : ∀ b, (O b).length = L + 6
  gm : ∀ b r, (O b ++ r).getD (L + 2) .gone = .map (b.map eE)
  gv : ∀ b r, (O b ++ r).getD (L + 3) .gone = .cells [.mp (L + 2)]
  gb : ∀ b r, (O b ++ r).getD (L + 4) .gone = .cells [.fn 40 [.ptr (L + 3) 0]]
  gs : ∀ b r, (O b ++ r).getD (L + 5) .gone = .cells [.fn 42 [.ptr (L + 5) 0, .ptr (L + 4) 0]]
  st : ∀ b b' r, (O b ++ r).set (L + 2) (.map (List.map eE b')) = O b' ++ r
  ids : ∀ b, (O b).all (Obj.idsB (L + 6)) = true

section
variable {L : Nat} {O : List Bd → List V.Obj} (H : Hp L O)
include H
theorem Hp.gr (b : List Bd) (r : List V.Obj) (j : Nat) : (O b ++ r).getD (L + 6 + j) .gone = r.getD j .gone := by
  rw [← H.len b]
  exact getD_app_add
theorem Hp.sr (b : List Bd) (r : List V.Obj) (j : Nat) (x : V.Obj) : (O b ++ r).set (L + 6 + j) x = O b ++ r.set j x := by
  rw [← H.len b]
  exact set_app_add
theorem Hp.gr0 (b : List Bd) (r : List V.Obj) : (O b ++ r).getD (L + 6) .gone = r.getD 0 .gone := H.gr b r 0
theorem Hp.lenA (b : List Bd) (r : List V.Obj) : (O b ++ r).length = L + 6 + r.length := by rw [List.length_append, H.len]
theorem Hp.good (b : List Bd) {r : List V.Obj} (h : r.all (Obj.idsB (L + 6 + r.length)) = true) : (O b ++ r).all (Obj.idsB (L + 6 + r.length)) = true := by
  rw [List.all_append, h, Bool.and_true]
  exact idsA_mono (by omega) (H.ids b)
theorem Hp.takeA (b : List Bd) (r s : List V.Obj) : (O b ++ (r ++ s)).take (L + 6 + r.length) = O b ++ r := by
  rw [← List.append_assoc, ← H.lenA b r, List.take_left']
  rfl
theorem Hp.take0 (b : List Bd) (r : List V.Obj) : (O b ++ r).take (L + 6 + r.length) = O b ++ r := by
  rw [← H.lenA b r, List.take_length]
end

/-- what is left to do, as a closure -/
inductive RestOk (L : Nat) : List V.Obj → VV → List Tk → Prop
  | nil {r : List V.Obj} : RestOk L r (.fn 45 []) []
  | cons {r : List V.Obj} {jp jn jk jr : Nat} {q : Nd} {p ns : List Nd} {k : Nat} {rest : VV} {T : List Tk} : r.getD jp .gone = .cells [.sl (eN q :: p.map eN) 0] → r.getD jn .gone = .cells [.sl (ns.map eN) 0] → r.getD jk .gone = .cells [.int .i64 k] → k ≤ ns.length →
      r.getD jr .gone = .cells [rest] → RestOk L r rest T → RestOk L r (.fn 44 [.ptr (L + 5) 0, .ptr (L + 6 + jp) 0, .ptr (L + 6 + jn) 0, .ptr (L + 6 + jk) 0, .ptr (L + 6 + jr) 0]) ((p, ns.drop k) :: T)
theorem RestOk.app {L : Nat} {r s : List V.Obj} {v : VV} {T : List Tk} (h : RestOk L r v T) : RestOk L (r ++ s) v T := by
  induction h with
  | nil => exact .nil
  | cons h1 h2 h3 h4 h5 _ ih => exact .cons (getD_cells h1) (getD_cells h2) (getD_cells h3) h4 (getD_cells h5) ih
theorem RestOk.fn {L : Nat} {r : List V.Obj} {v : VV} {T : List Tk} (h : RestOk L r v T) : ∃ f cap, v = .fn f cap := by
  cases h with
  | nil => exact ⟨_, _, rfl⟩
  | cons => exact ⟨_, _, rfl⟩
theorem RestOk.strip {L : Nat} {r : List V.Obj} {f : Nat} {cap : List VV} {T : List Tk} (h : RestOk L r (.fn f cap) T) : cap.map VV.strip = cap ∧ cap.all VV.noTup = true := by
  cases h with
  | nil => exact ⟨rfl, rfl⟩
  | cons => exact ⟨rfl, rfl⟩
theorem RestOk.ids {L : Nat} {r : List V.Obj} {v : VV} {T : List Tk} (h : RestOk L r v T) : v.ids (L + 6 + r.length) = true := by
  cases h with
  | nil => simp [VV.ids, idsL]
  | cons h1 h2 h3 h4 h5 _ =>
    have := getD_lt h1
    have := getD_lt h2
    have := getD_lt h3
    have := getD_lt h5
    simp [VV.ids, idsL]
    omega

def okB' (s : Option (List Bd)) : VV := .bool s.isSome
def outO (O : List Bd → List V.Obj) (s : Option (List Bd)) (b : List Bd) : List Bd := s.getD b

/-- the closure of what is left answers as solveR does -/
def RestSp (n L : Nat) (O : List Bd → List V.Obj) : Prop := ∀ (T : List Tk) (b : List Bd) (r : List V.Obj) (f : Nat) (cap : List VV), wR T < n → (∀ t ∈ T, okT t) → (∀ x ∈ b, okB x) → b.length + wR T ≤ 1000000 → r.all (Obj.idsB (L + 6 + r.length)) = true → RestOk L r (.fn f cap) T →
  ImpC Try.prog f cap (O b ++ r) fun v o => v = .bool (solveR n T b).isSome ∧ o = O ((solveR n T b).getD b) ++ r
/-- sequence answers as solveR does -/
def SeqSp (n L : Nat) (O : List Bd → List V.Obj) : Prop := ∀ (p ns : List Nd) (T : List Tk) (b : List Bd) (r : List V.Obj) (rest : VV), wR ((p, ns) :: T) < n → (∀ t ∈ (p, ns) :: T, okT t) → (∀ x ∈ b, okB x) → b.length + wR ((p, ns) :: T) ≤ 1000000 → r.all (Obj.idsB (L + 6 + r.length)) = true → RestOk L r rest T →
  ImpC Try.prog 42 [.sl (p.map eN) 0, .sl (ns.map eN) 0, rest, .ptr (L + 5) 0, .ptr (L + 4) 0] (O b ++ r) fun v o => v = .bool (solveR n ((p, ns) :: T) b).isSome ∧ o = O ((solveR n ((p, ns) :: T) b).getD b) ++ r

theorem restSp {n L : Nat} {O : List Bd → List V.Obj} (H : Hp L O) (hs : SeqSp n L O) : RestSp n L O := by
  intro T b r f cap hn hT hb hw hr hk
  cases hk with
  | nil =>
    refine imp_of_wp m45 rfl ?_
    cases n with
    | zero => simp [wR] at hn
    | succ n =>
    unfold FnI v45
    simp only [go_sem, H.lenA]
    refine endI_of (L + 6 + r.length) (.bool true) (Nat.le_refl _) (by rw [H.lenA]; omega) (by rw [H.take0]; exact H.good b hr) rfl (by simp [VV.ids]) ?_
    rw [H.take0]
    exact ⟨rfl, rfl⟩
  | @cons jp jn jk jr q p ns k rest T h1 h2 h3 h4 h5 h6 =>
    refine imp_of_wp m44 rfl ?_
    have hseq := hs p (ns.drop k) T b r rest hn hT hb hw hr h6
    obtain ⟨g, cp, rfl⟩ := h6.fn
    unfold FnI v44
    simp only [go_sem, H.lenA, H.gr, H.gs, h1, h2, h3, h4, h5, eN_cells]
    refine callD_det hseq (by simp only [go_sem]) (by simp only [go_sem]) rfl nofun ?_
    simp only [go_sem]
    refine endI_of (L + 6 + r.length) (.bool (solveR n ((p, ns.drop k) :: T) b).isSome) (Nat.le_refl _) (by rw [H.lenA]; omega) (by rw [H.take0]; exact H.good _ hr) rfl (by simp [VV.ids]) ?_
    rw [H.take0]
    exact ⟨rfl, rfl⟩

theorem mfind_eE {name : List UInt8} : ∀ b : List Bd, mfind (.str name) (b.map eE) = some ((b.find? (fun x => name == x.1)).map fun x => .sl (x.2.map eN) 0)
  | [] => rfl
  | x :: r => by
    simp only [List.map_cons, eE, mfind, eqV, eq0, List.find?_cons]
    cases h : (name == x.1) with
    | true => rfl
    | false => exact mfind_eE r
theorem mput_eE {name : List UInt8} {part : List Nd} : ∀ {b : List Bd}, b.find? (fun x => name == x.1) = none → mput (.str name) (.sl (part.map eN) 0) (b.map eE) = some ((b ++ [(name, part)]).map eE)
  | [], _ => rfl
  | x :: r, h => by
    rw [List.find?_cons] at h
    cases hx : (name == x.1) with
    | true => rw [hx] at h; cases h
    | false =>
      rw [hx] at h
      have := mput_eE (name := name) (part := part) h
      simp only [List.map_cons, List.cons_append, mput, eE, eqV, eq0, hx] at this ⊢
      rw [this]
      rfl
theorem mrem_eE {name : List UInt8} {part : List Nd} : ∀ {b : List Bd}, b.find? (fun x => name == x.1) = none → mrem (.str name) ((b ++ [(name, part)]).map eE) = some (b.map eE)
  | [], _ => by simp [mrem, eE, eqV, eq0]
  | x :: r, h => by
    rw [List.find?_cons] at h
    cases hx : (name == x.1) with
    | true => rw [hx] at h; cases h
    | false =>
      rw [hx] at h
      have := mrem_eE (name := name) (part := part) h
      simp only [List.map_cons, List.cons_append, mrem, eE, eqV, eq0, hx] at this ⊢
      rw [this]
      rfl
theorem find_flip {name : List UInt8} (b : List Bd) : b.find? (fun x => name == x.1) = b.find? (fun x => x.1 == name) := by
  congr 1
  funext x
  exact Bool.eq_iff_iff.2 ⟨fun h => by simpa using (beq_iff_eq.1 h).symm, fun h => by simpa using (beq_iff_eq.1 h).symm⟩

/-- bind, with what is left -/
def bindS (n : Nat) (T : List Tk) (b : List Bd) (name : List UInt8) (part : List Nd) : Option (List Bd) := if (bindR b name part).2 then solveR n T (bindR b name part).1 else none

theorem bindSp {n L : Nat} {O : List Bd → List V.Obj} (H : Hp L O) (hr : RestSp n L O) (T : List Tk) (b : List Bd) (r : List V.Obj) (name : List UInt8) (part : List Nd) (rest : VV) (hn : wR T < n) (hT : ∀ t ∈ T, okT t) (hb : ∀ x ∈ b, okB x) (lp : part.length ≤ maxLen) (op : ∀ d ∈ part, okN d) (hw : b.length + 1 + wR T ≤ 1000000) (hg : r.all (Obj.idsB (L + 6 + r.length)) = true) (hk : RestOk L r rest T) :
    ImpC Try.prog 40 [.str name, .sl (part.map eN) 0, rest, .ptr (L + 3) 0] (O b ++ r) fun v o => v = .bool (bindS n T b name part).isSome ∧ o = O ((bindS n T b name part).getD b) ++ r := by
  obtain ⟨f, cap, rfl⟩ := hk.fn
  refine imp_of_wp m40 rfl ?_
  have fin : ∀ (b' : List Bd) (env : List (Nat × VV)) (x : Bool), get env 7 = .bool x → x = (bindS n T b name part).isSome → b' = (bindS n T b name part).getD b → EndI v40 (L + 6 + r.length) (fun v o => v = .bool (bindS n T b name part).isSome ∧ o = O ((bindS n T b name part).getD b) ++ r) .ret ⟨⟨env, O b' ++ r⟩, L + 6 + r.length, []⟩ := fun b' env x h1 h2 h3 => by
    refine endI_of (L + 6 + r.length) (.bool x) (Nat.le_refl _) (by rw [H.lenA]; omega) (by rw [H.take0]; exact H.good _ hg) ?_ (by simp [VV.ids]) ?_
    · simp only [v40, resOfL, resOf, h1, outI]; rfl
    · rw [H.take0, h2, h3]; exact ⟨rfl, rfl⟩
  unfold FnI
  unfold v40
  cases h0 : (name == [95]) with
  | true =>
    have hbr : bindR b name part = (b, true) := by simp only [bindR, h0, if_true]
    have q := hr T b r f cap hn hT hb (by omega) hg hk
    have hbs : bindS n T b name part = solveR n T b := by simp only [bindS, hbr, if_true]
    simp only [go_sem, h0, H.lenA]
    refine callW_det q hk.strip.1 hk.strip.2 (.inl rfl) ?_
    simp only [go_sem]
    exact fin _ _ _ rfl (by rw [hbs]) (by rw [hbs])
  | false =>
  have hfl := find_flip (name := name) b
  cases hf : b.find? (fun x => name == x.1) with
  | some x =>
    have hx : okB x := hb x (List.mem_of_find?_eq_some hf)
    have hbr : bindR b name part = (b, allS eqN x.2 part) := by rw [hf] at hfl; simp only [bindR, h0, ← hfl, Bool.false_eq_true, if_false]
    have q := hr T b r f cap hn hT hb (by omega) hg hk
    have hmf := mfind_eE (name := name) b
    rw [hf, Option.map_some] at hmf
    simp only [go_sem, h0, H.lenA, H.gv, H.gm, hmf, Option.getD_some, Option.isSome_some]
    refine callW_pure (f41 x.2 part hx.1 hx.2 op) (by first | rfl | simp only [go_sem]) (by first | rfl | simp only [go_sem]) ?_
    simp only [go_sem]
    cases h2 : allS eqN x.2 part with
    | false =>
      have hbs : bindS n T b name part = none := by simp only [bindS, hbr, h2, Bool.false_eq_true, if_false]
      simp only [go_sem]
      exact fin _ _ _ rfl (by rw [hbs]; rfl) (by rw [hbs]; rfl)
    | true =>
      have hbs : bindS n T b name part = solveR n T b := by simp only [bindS, hbr, h2, if_true]
      simp only [go_sem]
      refine callW_det q hk.strip.1 hk.strip.2 (.inl rfl) ?_
      simp only [go_sem]
      exact fin _ _ _ rfl (by rw [hbs]) (by rw [hbs])
  | none =>
    have hbr : bindR b name part = (b ++ [(name, part)], true) := by rw [hf] at hfl; simp only [bindR, h0, ← hfl, Bool.false_eq_true, if_false]
    have hb2 : ∀ x ∈ b ++ [(name, part)], okB x := fun x hx => by
      rcases List.mem_append.1 hx with h | h
      · exact hb x h
      · rw [List.mem_singleton] at h; subst h; exact ⟨lp, op⟩
    have q := hr T (b ++ [(name, part)]) r f cap hn hT hb2 (by simp; omega) hg hk
    have hmf := mfind_eE (name := name) b
    rw [hf, Option.map_none] at hmf
    have hbs : bindS n T b name part = solveR n T (b ++ [(name, part)]) := by simp only [bindS, hbr, if_true]
    simp only [go_sem, h0, H.lenA, H.gv, H.gm, hmf, Option.getD_none, Option.isSome_none, mput_eE hf, H.st, VV.canon, VV.canon0]
    refine callW_det q hk.strip.1 hk.strip.2 (.inl rfl) ?_
    simp only [go_sem]
    cases hs : solveR n T (b ++ [(name, part)]) with
    | some c =>
      simp only [go_sem, Option.isSome_some]
      exact fin _ _ _ rfl (by rw [hbs, hs]; rfl) (by rw [hbs, hs]; rfl)
    | none =>
      simp only [go_sem, Option.isSome_none, Option.getD_none, H.gv, H.gm, H.st, mrem_eE hf]
      exact fin _ _ _ rfl (by rw [hbs, hs]; rfl) (by rw [hbs, hs]; rfl)
end Go.Proofs

/- V, proofs: sequence, with closures. -/
set_option linter.unusedVariables false
set_option linter.unusedSimpArgs false
namespace Go.Proofs
open Go.V Go.RowKit

theorem app3 {α : Type} (r c s : List α) : r ++ (c ++ s) = (r ++ c) ++ s := (List.append_assoc r c s).symm
theorem afterSp {ob : List V.Obj} {k : Int} {a b c e : Nat} (hg : ob.all (Obj.idsB ob.length) = true) (ha : a < ob.length) (hb : b < ob.length) (hc : c < ob.length) (he : e < ob.length) :
    ImpC Try.prog 43 [.int .i64 k, .ptr a 0, .ptr b 0, .ptr c 0, .ptr e 0] ob fun v o => v = .fn 44 [.ptr a 0, .ptr b 0, .ptr c 0, .ptr ob.length 0, .ptr e 0] ∧ o = ob ++ [.cells [.int .i64 k]] := by
  refine imp_of_wp m43 rfl ?_
  unfold FnI v43
  simp only [go_sem]
  have ht : (ob ++ [V.Obj.cells [.int .i64 k]]).take (ob.length + 1) = ob ++ [V.Obj.cells [.int .i64 k]] := List.take_of_length_le (by simp)
  refine endI_of (ob.length + 1) (.fn 44 [.ptr a 0, .ptr b 0, .ptr c 0, .ptr ob.length 0, .ptr e 0]) (by omega) (by simp) ?_ rfl (by simp [VV.ids, idsL]; omega) ?_
  · rw [ht, List.all_append, idsA_mono (by omega) hg]
    simp [Obj.idsB, idsL, VV.ids]
  · rw [ht]; exact ⟨rfl, rfl⟩

theorem seqSp {n L : Nat} {O : List Bd → List V.Obj} (H : Hp L O) (hr : RestSp n L O) (hs : SeqSp n L O) : SeqSp (n + 1) L O := by
  intro p ns T b r rest hn hT hb hw hg hk
  obtain ⟨f, cap, rfl⟩ := hk.fn
  refine imp_of_wp m42 rfl ?_
  obtain ⟨⟨lps, ops⟩, lns, ons⟩ := hT _ (List.mem_cons_self ..)
  simp only at lps ops lns ons
  have lns0 : ns.length ≤ 1000000 := Nat.le_trans (nodes_len ns) lns
  have mx : maxLen = 9223372036854775807 := rfl
  have hT' : ∀ t ∈ T, okT t := fun t ht => hT t (by simp [ht])
  have hi : ∀ m, L + 6 + r.length ≤ m → idsL m cap = true := fun m hm => by
    have := hk.ids
    simp only [VV.ids] at this
    exact (ids_mono hm).2 _ this
  generalize hR : solveR (n + 1) ((p, ns) :: T) b = R
  have fin : ∀ (b' : List Bd) (s : List V.Obj) (env : List (Nat × VV)) (x : Bool), get env 8 = .bool x → x = R.isSome → b' = R.getD b → EndI v42 (L + 6 + r.length) (fun v o => v = .bool R.isSome ∧ o = O (R.getD b) ++ r) .ret ⟨⟨env, O b' ++ (r ++ s)⟩, L + 6 + r.length, []⟩ := fun b' s env x h1 h2 h3 => by
    refine endI_of (L + 6 + r.length) (.bool x) (Nat.le_refl _) (by rw [H.lenA, List.length_append]; omega) (by rw [H.takeA]; exact H.good _ hg) ?_ (by simp [VV.ids]) ?_
    · simp only [v42, resOfL, resOf, h1, outI]; rfl
    · rw [H.takeA, h2, h3]; exact ⟨rfl, rfl⟩
  unfold FnI
  unfold v42
  match p, hn, hT, hw, lps, ops, hR with
  | [], hn, hT, hw, lps, ops, hR =>
    have hn' : wR T < n := by simp only [wR] at hn; omega
    have hw' : b.length + wR T ≤ 1000000 := by simp only [wR] at hw; omega
    have q := fun s hs' => hr T b (r ++ s) f cap hn' hT' hb hw' hs' hk.app
    have hgs : ∀ (s : List V.Obj), s.all (Obj.idsB (L + 6 + (r ++ s).length)) = true → (r ++ s).all (Obj.idsB (L + 6 + (r ++ s).length)) = true := fun s h => by
      rw [List.all_append, h, Bool.and_true]
      exact idsA_mono (by rw [List.length_append]; omega) hg
    cases h1 : ((ns.length : Int) == 0) with
    | false =>
      have hpos : decide ((ns.length : Int) > 0) = true := by have := beq_eq_false_iff_ne.1 h1; rw [decide_eq_true_eq]; omega
      simp only [solveR, hpos, if_true] at hR
      subst hR
      simp only [go_sem, List.append_assoc, H.lenA, H.gr, List.length_append, getD_app_len, getD_app_add, h1]
      exact fin b _ _ _ rfl rfl rfl
    | true =>
      have hz : decide ((ns.length : Int) > 0) = false := by have := beq_iff_eq.1 h1; rw [decide_eq_false_iff_not]; omega
      simp only [solveR, hz, Bool.false_eq_true, if_false] at hR
      subst hR
      simp only [go_sem, List.append_assoc, H.lenA, H.gr, List.length_append, getD_app_len, getD_app_add, h1]
      refine callW_det (q _ (hgs _ ?_)) hk.strip.1 hk.strip.2 (.inl rfl) ?_
      · have := hi (L + 6 + (r.length + 3)) (by omega)
        simpa [Obj.idsB, idsL, VV.ids] using this
      · simp only [go_sem]
        exact fin _ _ _ _ rfl rfl rfl
  | q :: ps, hn, hT, hw, lps, ops, hR =>
    have hl0 : (((ps.length + 1 : Nat) : Int) == 0) = false := by simp; omega
    have op := ops q (by simp)
    have ops' : ∀ d ∈ ps, okN d := fun d hd => ops d (by simp [hd])
    have lps' : ps.length ≤ maxLen := by simp only [List.length_cons] at lps; omega
    have np := nodesR_pos q
    have nk : (nodesR q).length = (nodesRs q.kids).length + 1 := by rw [nodesR_kids]; rfl
    have wv : wR ((q :: ps, ns) :: T) = 2 * ((nodesR q).length + (nodesRs ps).length) + 1 + wR T := by simp only [wR, nodesRs, List.length_append]
    rw [wv] at hn hw
    -- the frame's own cells
    generalize hC : [V.Obj.cells [.sl (eN q :: ps.map eN) 0], .cells [.sl (ns.map eN) 0], .cells [.fn f cap], .cells [.int .i64 q.kind, .str q.text, .int .i64 q.at', .int .i64 q.en, .sl (q.kids.map eN) 0]] = C
    have lC : C.length = 4 := by rw [← hC]; rfl
    have hgC : (r ++ C).all (Obj.idsB (L + 6 + (r ++ C).length)) = true := by
      rw [List.all_append, idsA_mono (by rw [List.length_append]; omega) hg]
      have := hi (L + 6 + (r ++ C).length) (by rw [List.length_append]; omega)
      rw [← hC] at this ⊢
      simp [Obj.idsB, idsL, VV.ids] at this ⊢
      exact this
    have c0 : ∀ s, (r ++ (C ++ s)).getD r.length .gone = .cells [.sl (eN q :: ps.map eN) 0] := fun s => by rw [getD_app_len, ← hC]; rfl
    have c1 : ∀ s, (r ++ (C ++ s)).getD (r.length + 1) .gone = .cells [.sl (ns.map eN) 0] := fun s => by rw [getD_app_add, ← hC]; rfl
    have c2 : ∀ s, (r ++ (C ++ s)).getD (r.length + 2) .gone = .cells [.fn f cap] := fun s => by rw [getD_app_add, ← hC]; rfl
    have c3 : ∀ s, (r ++ (C ++ s)).getD (r.length + 3) .gone = .cells [.int .i64 q.kind, .str q.text, .int .i64 q.at', .int .i64 q.en, .sl (q.kids.map eN) 0] := fun s => by rw [getD_app_add, ← hC]; rfl
    have c4 : ∀ x, (r ++ (C ++ [x])).getD (r.length + 4) .gone = x := fun s => by rw [getD_app_add, ← hC]; rfl
    have c0' := c0 []
    have c1' := c1 []
    have c2' := c2 []
    have c3' := c3 []
    rw [List.append_nil] at c0' c1' c2' c3'
    -- what is left, behind the k-th node
    have rest : ∀ k, k ≤ ns.length → RestOk L (r ++ (C ++ [.cells [.int .i64 k]])) (.fn 44 [.ptr (L + 5) 0, .ptr (L + 6 + r.length) 0, .ptr (L + 6 + (r.length + 1)) 0, .ptr (L + 6 + (r.length + 4)) 0, .ptr (L + 6 + (r.length + 2)) 0]) ((ps, ns.drop k) :: T) := fun k hle =>
      .cons (c0 _) (c1 _) (c4 _) hle (c2 _) hk.app
    have hg5 : ∀ k : Nat, (r ++ (C ++ [V.Obj.cells [.int .i64 k]])).all (Obj.idsB (L + 6 + (r ++ (C ++ [V.Obj.cells [.int .i64 k]])).length)) = true := fun k => by
      have hm : L + 6 + (r ++ C).length ≤ L + 6 + (r ++ (C ++ [V.Obj.cells [.int .i64 k]])).length := by simp only [List.length_append]; omega
      rw [List.all_eq_true]
      intro o ho
      rw [app3, List.mem_append] at ho
      rcases ho with ho | ho
      · exact idsB_mono hm (List.all_eq_true.1 hgC o ho)
      · rw [List.mem_singleton] at ho
        subst ho
        simp [Obj.idsB, idsL, VV.ids]
    have aft : ∀ k : Nat, ImpC Try.prog 43 [.int .i64 k, .ptr (L + 5) 0, .ptr (L + 6 + r.length) 0, .ptr (L + 6 + (r.length + 1)) 0, .ptr (L + 6 + (r.length + 2)) 0] (O b ++ (r ++ C)) fun v o => v = .fn 44 [.ptr (L + 5) 0, .ptr (L + 6 + r.length) 0, .ptr (L + 6 + (r.length + 1)) 0, .ptr (L + 6 + (r.length + 4)) 0, .ptr (L + 6 + (r.length + 2)) 0] ∧ o = O b ++ (r ++ (C ++ [.cells [.int .i64 k]])) := fun k => by
      have hl : (O b ++ (r ++ C)).length = L + 6 + (r.length + 4) := by rw [H.lenA, List.length_append, lC]
      have := afterSp (ob := O b ++ (r ++ C)) (k := k) (a := L + 5) (b := L + 6 + r.length) (c := L + 6 + (r.length + 1)) (e := L + 6 + (r.length + 2)) (by rw [H.lenA]; exact H.good b hgC) (by omega) (by omega) (by omega) (by omega)
      rw [hl] at this
      simpa only [List.append_assoc] using this
    cases hk1 : (q.kind == 26) with
    | true =>
      simp only [go_sem, List.append_assoc, H.lenA, H.gr, H.sr, List.length_append, getD_app_len, getD_app_add, set_app_len, set_app_add, hl0, eN_cells, hk1]
      simp only [hC]
      simp only [solveR, hk1, if_true] at hR
      generalize hF : (fun k => if (bindR b q.text (ns.take k)).2 then solveR n ((ps, ns.drop k) :: T) (bindR b q.text (ns.take k)).1 else none) = F at hR
      have hFk : ∀ k, F k = bindS n ((ps, ns.drop k) :: T) b q.text (ns.take k) := fun k => by rw [← hF]; rfl
      refine v_for (good := fun k => k ≤ ns.length + 1 ∧ R = firstR F (ns.length + 1 - k) k) (m := fun k => ns.length + 1 - k)
        (E := fun k => [(4, .ptr (L + 4) 0), (6, .ptr (L + 6 + (r.length + 1)) 0), (9, .fn 43 [.ptr (L + 5) 0, .ptr (L + 6 + r.length) 0, .ptr (L + 6 + (r.length + 1)) 0, .ptr (L + 6 + (r.length + 2)) 0]), (10, .ptr (L + 6 + (r.length + 3)) 0), (11, .int .i64 k)])
        (O := fun _ => O b ++ (r ++ C))
        (base := L + 6 + r.length) ?_ rfl ?_ 0 _ ⟨by omega, hR.symm⟩ (by simp only [go_sem]) ?_ rfl rfl
      · intro k _
        have hl : L + 6 + (r ++ C).length = L + 6 + r.length + 4 := by rw [List.length_append, lC]; omega
        refine ⟨by simp [VV.ids, idsL]; omega, ?_, by rw [H.lenA, hl]⟩
        rw [← hl]
        exact H.good b hgC
      · rintro k ⟨k1, k2⟩
        simp only [go_sem, H.lenA, H.gr, H.gb, c1', c3']
        refine if_s (fun ht => ?_) (fun hf => ?_)
        · have hle : k ≤ ns.length := by simpa using ht
          have w : IntKind.i64.wrap ((k : Int) + 1) = ((k + 1 : Nat) : Int) := wrap_succ (by clear mx; omega)
          have e1 : ns.length + 1 - k = (ns.length - k) + 1 := by omega
          have e2 : ns.length - k = ns.length + 1 - (k + 1) := by omega
          rw [e1] at k2
          have q2 := bindSp H hr ((ps, ns.drop k) :: T) b (r ++ (C ++ [.cells [.int .i64 k]])) q.text (ns.take k) _ (by simp only [wR]; omega) (fun t ht => by
            rcases List.mem_cons.1 ht with rfl | h
            · exact ⟨⟨lps', ops'⟩, Nat.le_trans (nodes_drop ns k) lns, fun d hd => ons d (List.mem_of_mem_drop hd)⟩
            · exact hT' t h) hb (by rw [List.length_take]; omega) (fun d hd => ons d (List.mem_of_mem_take hd)) (by simp only [wR]; omega) (hg5 k) (rest k hle)
          rw [← hFk] at q2
          simp only [go_sem, H.lenA, H.gr, H.gb, c1', c3', hle]
          refine callD_det (aft k) (by first | rfl | simp only [go_sem]) (by first | rfl | simp only [go_sem]) rfl (fun _ => by rw [app3 r C, app3 (O b) (r ++ C)]; exact keeps_app) ?_
          simp only [go_sem]
          refine callD_det q2 (by first | rfl | simp only [go_sem]) (by first | rfl | simp only [go_sem]) rfl nofun ?_
          cases hFv : F k with
          | some c =>
            rw [firstR_some hFv] at k2
            simp only [go_sem, Option.isSome_some, Option.getD_some]
            exact fin c _ _ _ rfl (by rw [k2]; rfl) (by rw [k2]; rfl)
          | none =>
            rw [firstR_none hFv] at k2
            simp only [go_sem, Option.isSome_none, Option.getD_none]
            refine ⟨k + 1, ⟨by omega, by rw [k2, e2]⟩, by simp only; omega, by simp only [go_sem, w], ?_, rfl, rfl⟩
            have hl : L + 6 + r.length + 4 = L + 6 + (r ++ C).length := by rw [List.length_append, lC]; omega
            simp only
            rw [hl, app3 r, H.takeA]
        · have hge : k = ns.length + 1 := by
            have : ¬ (k ≤ ns.length) := by simpa using hf
            omega
          subst hge
          rw [Nat.sub_self] at k2
          simp only [go_sem]
          exact fin b _ _ _ rfl (by rw [k2]; rfl) (by rw [k2]; rfl)
      · have hl : L + 6 + r.length + 4 = L + 6 + (r ++ C).length := by rw [List.length_append, lC]; omega
        simp only
        rw [hl, H.take0]
    | false =>
    match ns, lns, ons, hR, c1', rest, hC with
    | [], lns, ons, hR, c1', rest, hC =>
      have hz : (((0 : Nat) : Int) == 0) = true := rfl
      simp only [solveR, hk1, Bool.false_eq_true, if_false] at hR
      subst hR
      simp only [go_sem, List.append_assoc, H.lenA, H.gr, H.sr, List.length_append, getD_app_len, getD_app_add, set_app_len, set_app_add, hl0, eN_cells, hk1, hz]
      exact fin b _ _ _ rfl rfl rfl
    | m :: ms, lns, ons, hR, c1', rest, hC =>
      have hm0 : (((ms.length + 1 : Nat) : Int) == 0) = false := by simp; omega
      have om := ons m (by simp)
      have oms : ∀ d ∈ ms, okN d := fun d hd => ons d (by simp [hd])
      have lns' : (nodesR m).length + (nodesRs ms).length ≤ 1000000 := by simpa only [nodesRs, List.length_append] using lns
      have lms : (nodesRs ms).length ≤ 1000000 := by omega
      have lmk : (nodesRs m.kids).length ≤ 1000000 := by rw [nodesR_kids, List.length_cons] at lns'; omega
      have hT1 : ∀ t ∈ (ps, ms) :: T, okT t := fun t ht => by
        rcases List.mem_cons.1 ht with rfl | h
        · exact ⟨⟨lps', ops'⟩, lms, oms⟩
        · exact hT' t h
      have rest1 := rest 1 (by simp)
      simp only [List.drop_succ_cons, List.drop_zero] at rest1
      simp only [List.map_cons] at hC
      cases hk2 : (q.kind == 25) with
      | true =>
        simp only [solveR, hk1, hk2, Bool.false_eq_true, if_false, if_true] at hR
        have q2 := bindSp H hr ((ps, ms) :: T) b (r ++ (C ++ [.cells [.int .i64 1]])) q.text [m] _ (by simp only [wR]; omega) hT1 hb (by simp only [List.length_cons, List.length_nil]; omega) (fun d hd => by rw [List.mem_singleton] at hd; subst hd; exact om) (by simp only [wR]; omega) (hg5 1) rest1
        have hb' : bindS n ((ps, ms) :: T) b q.text [m] = R := hR
        rw [hb'] at q2
        simp only [go_sem, List.append_assoc, H.lenA, H.gr, H.gb, H.sr, List.length_append, getD_app_len, getD_app_add, set_app_len, set_app_add, hl0, eN_cells, hk1, hk2, hm0]
        simp only [hC]
        refine callD_det (aft 1) (by first | rfl | simp only [go_sem]) (by first | rfl | simp only [go_sem]) rfl (fun _ => by rw [app3 r C, app3 (O b) (r ++ C)]; exact keeps_app) ?_
        simp only [go_sem]
        refine callD_det q2 (by first | rfl | simp only [go_sem]) (by first | rfl | simp only [go_sem]) rfl nofun ?_
        simp only [go_sem]
        exact fin _ _ _ _ rfl rfl rfl
      | false =>
      cases h3 : (q.kind == m.kind) with
      | false =>
        have h3' : (q.kind != m.kind) = true := by rw [bne, h3]; rfl
        simp only [solveR, hk1, hk2, h3', Bool.false_eq_true, if_false, if_true] at hR
        subst hR
        simp only [go_sem, List.append_assoc, H.lenA, H.gr, H.gb, H.sr, List.length_append, getD_app_len, getD_app_add, set_app_len, set_app_add, hl0, eN_cells, hk1, hk2, hm0, h3]
        exact fin b _ _ _ rfl rfl rfl
      | true =>
      have h3' : (q.kind != m.kind) = false := by rw [bne, h3]; rfl
      cases h4 : (q.text == m.text) with
      | false =>
        have h4' : (q.text != m.text) = true := by rw [bne, h4]; rfl
        simp only [solveR, hk1, hk2, h3', h4', Bool.false_eq_true, if_false, if_true] at hR
        subst hR
        simp only [go_sem, List.append_assoc, H.lenA, H.gr, H.gb, H.sr, List.length_append, getD_app_len, getD_app_add, set_app_len, set_app_add, hl0, eN_cells, hk1, hk2, hm0, h3, h4]
        exact fin b _ _ _ rfl rfl rfl
      | true =>
        have h4' : (q.text != m.text) = false := by rw [bne, h4]; rfl
        simp only [solveR, hk1, hk2, h3', h4', Bool.false_eq_true, if_false] at hR
        have q2 := hs q.kids m.kids ((ps, ms) :: T) b (r ++ (C ++ [.cells [.int .i64 1]])) _ (by simp only [wR]; omega) (fun t ht => by
          rcases List.mem_cons.1 ht with rfl | h
          · exact ⟨kids_ok op, lmk, (kids_ok om).2⟩
          · exact hT1 t h) hb (by simp only [wR]; omega) (hg5 1) rest1
        rw [hR] at q2
        simp only [go_sem, List.append_assoc, H.lenA, H.gr, H.gb, H.gs, H.sr, List.length_append, getD_app_len, getD_app_add, set_app_len, set_app_add, hl0, eN_cells, hk1, hk2, hm0, h3, h4]
        simp only [hC]
        refine callD_det (aft 1) (by first | rfl | simp only [go_sem]) (by first | rfl | simp only [go_sem]) rfl (fun _ => by rw [app3 r C, app3 (O b) (r ++ C)]; exact keeps_app) ?_
        simp only [go_sem]
        refine callD_det q2 (by first | rfl | simp only [go_sem]) (by first | rfl | simp only [go_sem]) rfl nofun ?_
        simp only [go_sem]
        exact fin _ _ _ _ rfl rfl rfl
end Go.Proofs

/- V, proofs: a match; the names of a pattern's metavariables. -/
set_option linter.unusedVariables false
set_option linter.unusedSimpArgs false
namespace Go.Proofs
open Go.V Go.RowKit

def heapM (ob0 : List V.Obj) (P N : Nd) (b : List Bd) : List V.Obj := ob0 ++ [.cells (eN P).cells, .cells (eN N).cells, .map (b.map eE), .cells [.mp (ob0.length + 2)], .cells [.fn 40 [.ptr (ob0.length + 3) 0]], .cells [.fn 42 [.ptr (ob0.length + 5) 0, .ptr (ob0.length + 4) 0]]]

theorem heapHp {ob0 : List V.Obj} (hg : ob0.all (Obj.idsB ob0.length) = true) (P N : Nd) : Hp ob0.length (heapM ob0 P N) where
  len b := by simp [heapM]
  gm b r := by rw [heapM, List.append_assoc, getD_app_add]; rfl
  gv b r := by rw [heapM, List.append_assoc, getD_app_add]; rfl
  gb b r := by rw [heapM, List.append_assoc, getD_app_add]; rfl
  gs b r := by rw [heapM, List.append_assoc, getD_app_add]; rfl
  st b b' r := by rw [heapM, heapM, List.append_assoc, List.append_assoc, set_app_add]; rfl
  ids b := by
    rw [heapM, List.all_append, idsA_mono (by omega) hg]
    simp [Obj.idsB, idsL, VV.ids, eN_cells]

theorem specs {L : Nat} {O : List Bd → List V.Obj} (H : Hp L O) : ∀ n, SeqSp n L O ∧ RestSp n L O
  | 0 => by
    have h0 : SeqSp 0 L O := fun p ns T b r rest h => absurd h (Nat.not_lt_zero _)
    exact ⟨h0, restSp H h0⟩
  | n + 1 => by
    obtain ⟨h1, h2⟩ := specs H n
    have h := seqSp H h2 h1
    exact ⟨h, restSp H h⟩

def matchR (p n : Nd) : Option (List Bd) := solveR 1000 [([p], [n])] []

theorem f34g {ob0 : List V.Obj} (hg : ob0.all (Obj.idsB ob0.length) = true) (P N : Nd) (hP : okN P) (hN : okN N) (h1 : (nodesR P).length ≤ 30) (h2 : (nodesR N).length ≤ 100000) :
    ImpC Try.prog 34 [eN P, eN N] ob0 fun v o => v = .tup [.mp (ob0.length + 2), .bool (matchR P N).isSome] ∧ o = ob0 ++ [.cells (eN P).cells, .cells (eN N).cells, .map (((matchR P N).getD []).map eE)] := by
  have H := heapHp hg P N
  have q := (specs H 1000).1 [P] [N] [] [] [] (.fn 45 []) (by simp only [wR, nodesRs, List.append_nil]; omega) (fun t ht => by
    rw [List.mem_singleton] at ht
    subst ht
    refine ⟨⟨show 1 ≤ maxLen by decide, ?_⟩, ?_, ?_⟩
    · intro d hd; rw [List.mem_singleton] at hd; subst hd; exact hP
    · simp only [nodesRs, List.append_nil]; omega
    · intro d hd; rw [List.mem_singleton] at hd; subst hd; exact hN) nofun (by simp only [wR, nodesRs, List.append_nil, List.length_nil]; omega) rfl .nil
  refine imp_of_wp m34 rfl ?_
  unfold FnI v34
  simp only [go_sem, List.append_assoc, List.length_append, getD_app_len, getD_app_add, set_app_len, set_app_add, eN_cells, eN_fold]
  have hm : solveR 1000 [([P], [N])] [] = matchR P N := rfl
  rw [hm] at q
  generalize matchR P N = R at *
  simp only [heapM, List.append_nil, List.map_nil, List.map_cons, eN_cells] at q
  refine callW_det q (by first | rfl | simp only [go_sem]) (by first | rfl | simp only [go_sem]) (.inl rfl) ?_
  simp only [go_sem, getD_app_add]
  have ht : ∀ x y z : V.Obj, ∀ s, (ob0 ++ (x :: y :: z :: s)).take (ob0.length + 3) = ob0 ++ [x, y, z] := fun x y z s => by
    rw [List.take_append, List.take_of_length_le (by omega)]; simp
  refine endI_of (ob0.length + 3) (.tup [.mp (ob0.length + 2), .bool R.isSome]) (by omega) (by simp) ?_ rfl (by simp [VV.ids, idsL]) ?_
  · rw [ht, List.all_append, idsA_mono (by omega) hg]
    simp [Obj.idsB, idsL, VV.ids]
  · rw [ht]; exact ⟨rfl, rfl⟩

theorem f34 {ob0 : List V.Obj} (hg : ob0.all (Obj.idsB ob0.length) = true) (P N : Nd) (hP : okN P) (hN : okN N) (h1 : (nodesR P).length ≤ 30) (h2 : (nodesR N).length ≤ 150) :
    ImpC Try.prog 34 [eN P, eN N] ob0 fun v o => v = .tup [.mp (ob0.length + 2), .bool (matchR P N).isSome] ∧ o = ob0 ++ [.cells (eN P).cells, .cells (eN N).cells, .map (((matchR P N).getD []).map eE)] :=
  f34g hg P N hP hN h1 (Nat.le_trans h2 (by decide))

def indexB (l : List (List UInt8)) (v : List UInt8) : Bool := l.any (fun x => v == x)
theorem f54 (l : List (List UInt8)) (v : List UInt8) (ll : l.length ≤ maxLen) : ∃ i : Int, decide (i ≥ 0) = indexB l v ∧ PureC Try.prog 54 [.sl (l.map .str) 0, .str v] (.int .i64 i) := by
  obtain ⟨r, ⟨i, rfl, hi⟩, hp⟩ := pure_ex (R := fun r => ∃ i : Int, r = .int .i64 i ∧ decide (i ≥ 0) = indexB l v) m54 (args := [.sl (l.map .str) 0, .str v]) rfl (by simp [argOk_sl, argOk_str]) (by
    unfold v54
    simp only [go_sem]
    refine pv_for (good := fun i => i ≤ l.length ∧ ∀ j (h : j < l.length), j < i → (v == l[j]) = false) (m := fun i => l.length - i)
      (E := fun i => [(0, .sl (l.map .str) 0), (1, .str v), (7, .int .i64 l.length), (8, .int .i64 i)]) (O := fun _ => [])
      (by intro i _; simp [go_sem, Obj.idsB]) rfl ?_ 0 _ ⟨by omega, by omega⟩ (by simp only [go_sem]) rfl rfl rfl
    rintro i ⟨hi, hn⟩
    simp only [go_sem]
    refine pif_s (fun ht => ?_) (fun hf => ?_)
    · have hlt : i < l.length := by simpa using ht
      have g1 := get_map VV.str hlt
      simp only [go_sem, g1]
      refine pif_s (fun h => ?_) (fun h => ?_)
      · simp only [go_sem]
        refine ⟨_, rfl, by simp [VV.ids], _, rfl, ?_⟩
        have : indexB l v = true := List.any_eq_true.2 ⟨l[i], List.getElem_mem _, h⟩
        rw [this, decide_eq_true_eq]; omega
      · simp only [go_sem]
        refine ⟨i + 1, ⟨by omega, fun j hj hji => ?_⟩, by simp only; omega, by simp only [go_sem, wrap_len hlt ll], rfl, rfl, rfl⟩
        rcases Nat.lt_succ_iff_lt_or_eq.1 hji with q | rfl
        · exact hn j hj q
        · exact h
    · have hge : l.length ≤ i := by simpa using hf
      simp only [go_sem]
      refine ⟨_, rfl, by simp [VV.ids], _, rfl, ?_⟩
      have : indexB l v = false := by
        rw [indexB, List.any_eq_false]
        intro x hx
        obtain ⟨j, hj, rfl⟩ := List.getElem_of_mem hx
        simpa using hn j hj (by omega)
      rw [this]; decide)
  exact ⟨i, hi, hp⟩

theorem f47 (l : List (List UInt8)) (v : List UInt8) (ll : l.length ≤ maxLen) : PureC Try.prog 47 [.sl (l.map .str) 0, .str v] (.bool (indexB l v)) := by
  obtain ⟨i, hi, hp⟩ := f54 l v ll
  refine pure_of_wp m47 rfl (by simp [argOk_sl, argOk_str]) ?_
  unfold FnW v47
  simp only [go_sem]
  refine callW_pure hp (by first | rfl | simp only [go_sem]) (by first | rfl | simp only [go_sem]) ?_
  simp only [go_sem, hi]

end Go.Proofs

/- V, proofs: the names of a pattern's metavariables. -/
set_option linter.unusedVariables false
set_option linter.unusedSimpArgs false
namespace Go.V
open Go.RowKit
section
variable {P : Program} {st : St} {K : Ex → St → Prop}
def OwnFE (P : Program) (e : Option VV) (o i sz : Nat) (cs : List VV) (c : VC) (st : St) (K : Ex → St → Prop) : Prop := match e with
  | some .nils => Wp P c { st with ob := (st.ob ++ [Obj.tok 0 sz]).set o (.cells (cs.set i (.sl [] (st.ob.length + 2)))) } K
  | _ => False
def OwnFC (P : Program) (x : Obj) (o i sz : Nat) (c : VC) (st : St) (K : Ex → St → Prop) : Prop := match x with
  | .cells cs => OwnFE P cs[i]? o i sz cs c st K
  | _ => False
def OwnFK (P : Program) (v : VV) (j sz : Nat) (c : VC) (st : St) (K : Ex → St → Prop) : Prop := match v with
  | .ptr o off => OwnFC P (nthO st.ob o) o (off + j) sz c st K
  | _ => False
theorem e_ownf {s j sz : Nat} {c : VC} : Wp P (.own s (some j) (sz + 1) c) st K = OwnFK P (get st.env s) j (sz + 1) c st K := by
  simp only [Wp, ownW, OwnFK]
  rw [if_neg (by omega)]
  cases get st.env s <;> try rfl
  simp only [OwnFC]
  rename_i o off
  cases nthO st.ob o <;> try rfl
  simp only [OwnFE]
  rename_i cs
  cases cs[off + j]? <;> try rfl
  rename_i v
  cases v <;> rfl
theorem ownf_ptr {o off j sz : Nat} {c : VC} : OwnFK P (.ptr o off) j sz c st K = OwnFC P (nthO st.ob o) o (off + j) sz c st K := byRfl rfl
theorem ownf_cells {o i sz : Nat} {cs : List VV} {c : VC} : OwnFC P (.cells cs) o i sz c st K = OwnFE P cs[i]? o i sz cs c st K := byRfl rfl
theorem ownf_nils {o i sz : Nat} {cs : List VV} {c : VC} : OwnFE P (some .nils) o i sz cs c st K = Wp P c { st with ob := (st.ob ++ [Obj.tok 0 sz]).set o (.cells (cs.set i (.sl [] (st.ob.length + 2)))) } K := byRfl rfl

def RfnK (P : Program) (v : VV) (nt : Nat) (ps : List Nat) (a b : VC) (st : St) (K : Ex → St → Prop) : Prop := match fnOf v with
  | some (g, cap) => ImpC P g ((VV.yld (st.ob.length + 1) :: cap).map VV.strip) (st.ob ++ [.dfr] ++ [.loop nt st.env ps a b 0 .nrm]) fun r ob2 => EndL st K ob2
  | none => False
theorem e_rfn {nest : Bool} {nt : Nat} {f : Opd} {ps : List Nat} {a b : VC} : Wp P (.rfn nest nt f ps a b) st K = RfnK P (f.ev st.env) nt ps a b st K := byRfl rfl
theorem rfn_fn {g : Nat} {cap : List VV} {nt : Nat} {ps : List Nat} {a b : VC} : RfnK P (.fn g cap) nt ps a b st K = ImpC P g ((VV.yld (st.ob.length + 1) :: cap).map VV.strip) (st.ob ++ [.dfr] ++ [.loop nt st.env ps a b 0 .nrm]) fun r ob2 => EndL st K ob2 := byRfl rfl
theorem callvW_yld {o : Nat} {args args' : List VV} {own : Option (Option Nat × Nat)} {d : Option Nat} {k : St → Prop} {v : VV} {ob1 : List Obj} (h : YldC P o args' st.ob fun r o => r = v ∧ o = ob1) (ha : args.map VV.strip = args') (hn : args.all VV.noTup = true) (hk : k { st with env := putD st.env d v, ob := ob1 }) : CallvW P (.yld o) args own d st k := by
  subst ha
  refine ⟨hn, h.mono ?_⟩
  rintro r o ⟨rfl, rfl⟩
  exact hk
end
end Go.V
namespace Go.Proofs
open Go.V Go.RowKit
attribute [go_sem] e_ownf ownf_ptr ownf_cells ownf_nils e_rfn rfn_fn

/-! ### the names of the metavariables -/
def addN (l : List (List UInt8)) (x : Nd) : List (List UInt8) := if metaR x && x.text != [95] && !indexB l x.text then l ++ [x.text] else l
def metasR (p : Nd) : List (List UInt8) := (nodesR p).foldl addN []

def a35 : VC := ((.reg [⟨some 4, none, .alloc [.int .i64 0, .str [], .int .i64 0, .int .i64 0, .nils]⟩, ⟨none, none, .store 5 (.t 4) (.t 8)⟩] none))
def b35 : VC := (.block 1 (.seq (.reg [⟨some 9, none, .faddr 0 (.t 4)⟩, ⟨some 10, none, .load 0 (.t 9)⟩, ⟨some 11, none, .bin .eql (.sc .i) (.t 10) (.c (.int .i64 25))⟩, ⟨some 12, none, .mov (.t 11)⟩, ⟨some 13, (some (12, false)), .faddr 0 (.t 4)⟩, ⟨some 14, (some (12, false)), .load 0 (.t 13)⟩, ⟨some 15, (some (12, false)), .bin .eql (.sc .i) (.t 14) (.c (.int .i64 26))⟩, ⟨some 16, none, .pick (.t 12) (.c (.bool true)) (.t 15)⟩, ⟨some 5, none, .mov (.t 16)⟩] none) (.drop [3, 4, 5] none (.seq (.reg [⟨some 17, none, .mov (.t 5)⟩, ⟨some 18, none, .mov (.t 17)⟩, ⟨some 19, (some (18, true)), .faddr 1 (.t 4)⟩, ⟨some 20, (some (18, true)), .load 0 (.t 19)⟩, ⟨some 21, (some (18, true)), .bin .neq (.sc .s) (.t 20) (.c (.str [95]))⟩, ⟨some 22, none, .pick (.t 18) (.t 21) (.c (.bool false))⟩, ⟨some 23, none, .mov (.t 22)⟩, ⟨some 24, (some (23, true)), .load 0 (.t 3)⟩, ⟨some 25, (some (23, true)), .faddr 1 (.t 4)⟩, ⟨some 26, (some (23, true)), .load 0 (.t 25)⟩, ⟨some 27, (some (23, true)), .call 47 [(.t 24), (.t 26)] none⟩, ⟨some 28, (some (23, true)), .un .not (.t 27)⟩, ⟨some 29, none, .pick (.t 23) (.t 28) (.c (.bool false))⟩] none) (.drop [3, 4, 29] none (.cond (.t 29) ((.reg [⟨some 30, none, .load 0 (.t 3)⟩, ⟨some 31, none, .faddr 1 (.t 4)⟩, ⟨some 32, none, .load 0 (.t 31)⟩, ⟨some 33, none, .bsl false 1 (.str []) 1 [(0, (.t 32))]⟩, ⟨some 34, none, .app 1 16 (.t 30) (.t 33)⟩, ⟨none, none, .store 1 (.t 3) (.t 34)⟩] none)) (.skip)))))))
def envL : List (Nat × VV) := [(2, .nils), (3, .ptr 1 0), (7, .fn 52 [.ptr 3 0])]
def heapN (p : Nd) (l : List (List UInt8)) : List V.Obj := [.cells (eN p).cells, .cells [.sl (l.map .str) 4], .tok l.length 1, .cells (eN p).cells, .dfr, .loop 36 envL [8] a35 b35 0 .nrm]
theorem heapN_len {p : Nd} {l : List (List UInt8)} : (heapN p l).length = 6 := rfl
theorem heapN_ids {p : Nd} {l : List (List UInt8)} : (heapN p l).all (Obj.idsB 6) = true := by simp [heapN, Obj.idsB, idsL, VV.ids, eN_cells, envL]
theorem heapN_good {p : Nd} {l : List (List UInt8)} {r : List V.Obj} (h : r.all (Obj.idsB (r.length + 6)) = true) : (heapN p l ++ r).all (Obj.idsB (r.length + 6)) = true := by
  rw [List.all_append, h, Bool.and_true]
  exact idsA_mono (by omega) heapN_ids

theorem roundSp {p d : Nd} {l : List (List UInt8)} {r : List V.Obj} (hd : okN d) (hl : l.length < 1000) (hg : r.all (Obj.idsB (r.length + 6)) = true) :
    YldC Try.prog 5 [eN d] (heapN p l ++ r) fun v o => v = .bool true ∧ o = heapN p (addN l d) ++ r := by
  refine yld_of_wp ?_
  have q47 := f47 l d.text (by have : maxLen = 9223372036854775807 := rfl; omega)
  have hc : (l.length + 1) * 16 ≤ 35184372088832 := Nat.le_trans (Nat.mul_le_mul_right 16 hl) (by decide)
  have fin : ∀ (l' : List (List UInt8)) (env : List (Nat × VV)) (x : V.Obj), l' = addN l d → EndR 5 (r.length + 6) (fun v o => v = .bool true ∧ o = heapN p (addN l d) ++ r) .nrm ⟨⟨env, [.cells (eN p).cells, .cells [.sl (l'.map .str) 4], .tok l'.length 1, .cells (eN p).cells, .dfr, .loop 36 envL [8] a35 b35 1 .nrm] ++ (r ++ [x])⟩, r.length + 6, []⟩ := fun l' env x he => by
    have ht : (heapN p l' ++ (r ++ [x])).take (r.length + 6) = heapN p l' ++ r := by
      rw [app3]
      exact List.take_left' (by simp [heapN])
    refine ⟨rfl, rfl, heapN p l' ++ (r ++ [x]), r.length + 6, rfl, Nat.le_refl _, by simp [heapN], ?_, ?_⟩
    · rw [ht]; exact heapN_good hg
    · rw [ht, he]; exact ⟨rfl, rfl⟩
  unfold RndW
  show 0 = 0 ∧ _
  refine ⟨rfl, rfl, rfl, ?_⟩
  simp only [heapN, a35, envL, bindP]
  simp only [go_sem, List.length_append, getD_app_len, set_app_len, eN_cells, eN_fold]
  refine ⟨_, rfl, ?_⟩
  have ha : ∀ x, addN l d = x ↔ (if metaR d && d.text != [95] && !indexB l d.text then l ++ [d.text] else l) = x := fun x => by rw [addN]
  simp only [b35]
  cases hk : metaR d with
  | false =>
    have hx := (ha l).2 (by simp [hk])
    simp only [metaR, Bool.or_eq_false_iff] at hk
    simp only [go_sem, List.length_append, getD_app_len, set_app_len, eN_cells, eN_fold, hk.1, hk.2]
    have q := fin l
    simp only [heapN, eN_cells, envL, a35, b35, List.cons_append, List.nil_append] at q
    exact q _ _ hx.symm
  | true =>
    have kk : ((d.kind == 25) = true ∧ True) ∨ ((d.kind == 25) = false ∧ (d.kind == 26) = true) := by
      simp only [metaR, Bool.or_eq_true] at hk
      cases h : (d.kind == 25) with
      | true => exact .inl ⟨rfl, trivial⟩
      | false => rw [h] at hk; exact .inr ⟨rfl, by simpa using hk⟩
    cases ht : (d.text == [95]) with
    | true =>
      have hx := (ha l).2 (by simp only [hk, bne, ht, Bool.not_true, Bool.and_false, Bool.false_and, Bool.false_eq_true, if_false])
      have q := fin l
      simp only [heapN, eN_cells, envL, a35, b35, List.cons_append, List.nil_append] at q
      rcases kk with ⟨h25, h26⟩ | ⟨h25, h26⟩ <;>
      · simp only [go_sem, List.length_append, getD_app_len, set_app_len, eN_cells, eN_fold, h25, h26, ht]
        exact q _ _ hx.symm
    | false =>
      cases hi : indexB l d.text with
      | true =>
        have hx := (ha l).2 (by simp only [hk, bne, ht, hi, Bool.not_true, Bool.and_false, Bool.false_eq_true, if_false])
        have q := fin l
        simp only [heapN, eN_cells, envL, a35, b35, List.cons_append, List.nil_append] at q
        rw [hi] at q47
        rcases kk with ⟨h25, h26⟩ | ⟨h25, h26⟩ <;>
        · simp only [go_sem, List.length_append, getD_app_len, set_app_len, eN_cells, eN_fold, h25, h26, ht]
          refine callW_pure q47 (by first | rfl | simp only [go_sem]) (by first | rfl | simp only [go_sem]) ?_
          simp only [go_sem, List.length_append, getD_app_len, set_app_len, eN_cells, eN_fold, h25, h26, ht]
          exact q _ _ hx.symm
      | false =>
        have hx := (ha (l ++ [d.text])).2 (by simp only [hk, bne, ht, hi, Bool.not_false, Bool.and_true, if_true])
        have q := fin (l ++ [d.text])
        simp only [heapN, eN_cells, envL, a35, b35, List.cons_append, List.nil_append, List.map_append, List.map_cons, List.map_nil, List.length_append, List.length_cons, List.length_nil, Nat.zero_add] at q
        rw [hi] at q47
        rcases kk with ⟨h25, h26⟩ | ⟨h25, h26⟩ <;>
        · simp only [go_sem, List.length_append, getD_app_len, set_app_len, eN_cells, eN_fold, h25, h26, ht]
          refine callW_pure q47 (by first | rfl | simp only [go_sem]) (by first | rfl | simp only [go_sem]) ?_
          simp only [go_sem, List.length_append, getD_app_len, set_app_len, eN_cells, eN_fold, h25, h26, ht, hc, VV.canon, VV.canon0]
          exact q _ _ hx.symm

theorem f46 (p : Nd) {ob : List V.Obj} (hg : ob.all (Obj.idsB ob.length) = true) : ImpC Try.prog 46 [eN p] ob fun v o => v = .fn 52 [.ptr ob.length 0] ∧ o = ob ++ [.cells (eN p).cells] := by
  refine imp_of_wp m46 rfl ?_
  unfold FnI v46
  simp only [go_sem]
  have ht : (ob ++ [V.Obj.cells (eN p).cells]).take (ob.length + 1) = ob ++ [V.Obj.cells (eN p).cells] := List.take_of_length_le (by simp)
  refine endI_of (ob.length + 1) (.fn 52 [.ptr ob.length 0]) (by omega) (by simp) ?_ rfl (by simp [VV.ids, idsL]) ?_
  · rw [ht, List.all_append, idsA_mono (by omega) hg]
    simp [Obj.idsB, idsL, VV.ids, eN_cells]
  · rw [ht]; exact ⟨rfl, rfl⟩

theorem addN_len (l : List (List UInt8)) (x : Nd) : (addN l x).length ≤ l.length + 1 := by
  unfold addN; split <;> simp
theorem foldN_len : ∀ (xs : List Nd) (l : List (List UInt8)), (xs.foldl addN l).length ≤ l.length + xs.length
  | [], l => Nat.le_refl _
  | x :: r, l => by
    have := foldN_len r (addN l x)
    have := addN_len l x
    simp only [List.foldl_cons, List.length_cons]
    omega

theorem hN_len {p : Nd} {l : List (List UInt8)} {s : List V.Obj} : (heapN p l ++ s).length = s.length + 6 := by simp [heapN]
theorem hN_get {p : Nd} {l : List (List UInt8)} {s : List V.Obj} {j : Nat} : (heapN p l ++ s).getD (j + 6) .gone = s.getD j .gone := by
  have := getD_app_add (r := heapN p l) (s := s) (i := j) (x := Obj.gone)
  rw [heapN_len, Nat.add_comm] at this
  exact this
theorem hN_set {p : Nd} {l : List (List UInt8)} {s : List V.Obj} {j : Nat} {x : V.Obj} : (heapN p l ++ s).set (j + 6) x = heapN p l ++ s.set j x := by
  have := set_app_add (r := heapN p l) (s := s) (i := j) (x := x)
  rw [heapN_len, Nat.add_comm] at this
  exact this

theorem visSp {p : Nd} : ∀ (n : Nat) (d : Nd), SizeOf.sizeOf d < n → okN d → ∀ (l : List (List UInt8)) (r : List V.Obj), l.length + (nodesR d).length < 1000 → r.all (Obj.idsB (r.length + 6)) = true →
    ImpC Try.prog 53 [eN d, .yld 5] (heapN p l ++ r) fun v o => v = .bool true ∧ o = heapN p ((nodesR d).foldl addN l) ++ r := by
  intro n
  induction n with
  | zero => intro d h; omega
  | succ n ih =>
    intro d hn ho l r hw hg
    have hz : ∀ z ∈ d.kids, SizeOf.sizeOf z < n := fun z h => by have := kids_lt h; omega
    obtain ⟨ld, od⟩ := kids_ok ho
    rw [nodesR_kids] at hw ⊢
    simp only [List.length_cons, List.foldl_cons] at hw ⊢
    have hg1 : (r ++ [V.Obj.cells (eN d).cells]).all (Obj.idsB ((r ++ [V.Obj.cells (eN d).cells]).length + 6)) = true := by
      rw [List.all_append, idsA_mono (by simp) hg]
      simp [Obj.idsB, idsL, VV.ids, eN_cells]
    have rs := roundSp (p := p) (d := d) (l := l) (r := r ++ [.cells (eN d).cells]) ho (by omega) hg1
    have a1 := addN_len l d
    refine imp_of_wp m53 rfl ?_
    have hL : ∀ l', (heapN p l' ++ r).length = r.length + 6 := fun l' => by simp [heapN]
    have ht : ∀ l' s, (heapN p l' ++ (r ++ s)).take (r.length + 6) = heapN p l' ++ r := fun l' s => by
      rw [app3]; exact List.take_left' (by simp [heapN])
    have fin : ∀ (l' : List (List UInt8)) (s : List V.Obj) (env : List (Nat × VV)), get env 4 = .bool true → l' = (nodesRs d.kids).foldl addN (addN l d) → EndI v53 (r.length + 6) (fun v o => v = .bool true ∧ o = heapN p ((nodesRs d.kids).foldl addN (addN l d)) ++ r) .ret ⟨⟨env, heapN p l' ++ (r ++ s)⟩, r.length + 6, []⟩ := fun l' s env h1 h2 => by
      refine endI_of (r.length + 6) (.bool true) (Nat.le_refl _) (by simp [heapN]) (by rw [ht]; exact heapN_good hg) ?_ (by simp [VV.ids]) ?_
      · simp only [v53, resOfL, resOf, h1, outI]; rfl
      · rw [ht, h2]; exact ⟨rfl, rfl⟩
    generalize hfin : (nodesRs d.kids).foldl addN (addN l d) = final at fin
    unfold FnI
    rw [hL]
    unfold v53
    simp only [go_sem, List.append_assoc, hN_len, hN_get, hN_set, getD_app_len, eN_cells, eN_fold]
    simp only [eN_cells] at rs hg1
    refine callvW_yld rs (by first | rfl | simp only [go_sem]) (by first | rfl | simp only [go_sem]) ?_
    simp only [go_sem, List.append_assoc, hN_len, hN_get, hN_set, getD_app_len, eN_cells, eN_fold]
    refine v_for (good := fun i => i ≤ d.kids.length) (m := fun i => d.kids.length - i)
      (E := fun i => [(1, .yld 5), (12, .sl (d.kids.map eN) 0), (13, .int .i64 d.kids.length), (14, .int .i64 i)]) (O := fun i => heapN p ((nodesRs (d.kids.take i)).foldl addN (addN l d)) ++ (r ++ [.cells (eN d).cells])) (base := r.length + 6)
      ?_ rfl ?_ 0 _ (by omega) (by simp only [go_sem]) ?_ rfl rfl
    · intro i _
      refine ⟨by simp [VV.ids, idsL], ?_, by simp [heapN]⟩
      have := heapN_good (p := p) (l := (nodesRs (d.kids.take i)).foldl addN (addN l d)) (r := r ++ [.cells (eN d).cells]) (by simp only [eN_cells]; exact hg1)
      simp only [List.length_append, List.length_cons, List.length_nil] at this
      rw [show r.length + 6 + 1 = r.length + (0 + 1) + 6 by omega]
      exact this
    · intro i hi
      simp only [go_sem]
      refine if_s (fun ht => ?_) (fun hf => ?_)
      · have hlt : i < d.kids.length := by simpa using ht
        have g1 := get_map eN hlt
        have hs := nodesRs_take d.kids i hlt
        have hle := nodesRs_len d.kids (i + 1)
        have fl := foldN_len (nodesRs (d.kids.take i)) (addN l d)
        rw [hs, List.length_append] at hle
        have q := ih d.kids[i] (hz _ (List.getElem_mem hlt)) (od _ (List.getElem_mem hlt)) ((nodesRs (d.kids.take i)).foldl addN (addN l d)) (r ++ [.cells (eN d).cells, .cells (eN d.kids[i]).cells]) (by omega) (by
          rw [List.all_append, idsA_mono (by simp) hg]
          simp [Obj.idsB, idsL, VV.ids, eN_cells])
        rw [← List.foldl_append, ← hs] at q
        generalize hl0 : (nodesRs (d.kids.take i)).foldl addN (addN l d) = l0 at *
        simp only [go_sem, g1, List.append_assoc, hN_len, hN_get, hN_set, List.length_append, getD_app_len, getD_app_add, set_app_add, eN_cells, eN_fold]
        simp only [eN_cells] at q
        refine callW_det q (by first | rfl | simp only [go_sem]) (by first | rfl | simp only [go_sem]) (.inl rfl) ?_
        simp only [go_sem]
        refine ⟨i + 1, by omega, by simp only; omega, by simp only [go_sem, wrap_len hlt ld], ?_, rfl, rfl⟩
        simp only [eN_cells]
        have e2 : ∀ x y : V.Obj, r ++ [x, y] = (r ++ [x]) ++ [y] := fun x y => by simp
        rw [e2, app3]
        exact List.take_left' (by simp [heapN])
      · have hge : i = d.kids.length := by
          have : d.kids.length ≤ i := by simpa using hf
          omega
        subst hge
        simp only [go_sem, eN_cells, List.take_length]
        exact fin _ _ _ rfl hfin
    · simp only [eN_cells, List.take_zero, nodesRs, List.foldl_nil]
      exact List.take_of_length_le (by simp [heapN])

theorem f52 (p : Nd) (hp : okN p) (h1 : (nodesR p).length ≤ 30) : ImpC Try.prog 52 [.yld 5, .ptr 3 0] (heapN p []) fun v o => v = .tup [] ∧ o = heapN p (metasR p) := by
  have q := visSp (p := p) _ p (Nat.lt_succ_self _) hp [] [] (by simp only [List.length_nil]; omega) rfl
  simp only [List.append_nil] at q
  have hm : (nodesR p).foldl addN [] = metasR p := rfl
  rw [hm] at q
  refine imp_of_wp m52 rfl ?_
  have fin : ∀ env, EndI v52 6 (fun v o => v = .tup [] ∧ o = heapN p (metasR p)) .nrm ⟨⟨env, heapN p (metasR p)⟩, 6, []⟩ := fun env =>
    ⟨trivial, rfl, heapN p (metasR p), 6, .tup [], rfl, Nat.le_refl _, by simp [heapN], by
      rw [List.take_of_length_le (by simp [heapN])]; exact heapN_ids, rfl, by simp [VV.ids, idsL], rfl, List.take_of_length_le (by simp [heapN])⟩
  unfold FnI
  rw [heapN_len]
  unfold v52
  generalize metasR p = M at *
  simp only [heapN, eN_cells, List.map_nil] at q fin ⊢
  simp only [go_sem, eN_cells, eN_fold]
  refine callW_det q (by first | rfl | simp only [go_sem]) (by first | rfl | simp only [go_sem]) (.inl rfl) ?_
  simp only [go_sem]
  exact fin _

theorem f35 (p : Nd) (hp : okN p) (h1 : (nodesR p).length ≤ 30) : PureC Try.prog 35 [eN p] (.sl ((metasR p).map .str) 0) := by
  refine pure_of_wp m35 rfl (by simp [eN_argOk]) ?_
  unfold FnW v35
  simp only [go_sem, eN_cells, eN_fold]
  have q46 := f46 p (ob := [.cells (eN p).cells, .cells [.sl [] 4], .tok 0 1]) (by simp [Obj.idsB, idsL, VV.ids, eN_cells])
  simp only [eN_cells, List.length_cons, List.length_nil, List.cons_append, List.nil_append] at q46
  refine callW_det q46 (by first | rfl | simp only [go_sem]) (by first | rfl | simp only [go_sem]) (.inr rfl) ?_
  simp only [go_sem]
  have q := f52 p hp h1
  generalize metasR p = M at *
  simp only [heapN, eN_cells, List.map_nil, a35, b35, envL] at q
  refine q.mono ?_
  rintro v o ⟨rfl, rfl⟩
  unfold EndL
  simp only [go_sem, eN_cells]
end Go.Proofs

/- V, proofs: the program's Match is the reference's. -/
set_option linter.unusedVariables false
set_option linter.unusedSimpArgs false
namespace Go.V
open Go.RowKit
def nextN {α : Type} (s : List Nat) (base : Nat) (marks : List Nat) (good : α → Prop) (m : α → Nat) (E : α → List (Nat × VV)) (O : α → List Obj) (a : α) (st : St) : Prop :=
  ∃ a', good a' ∧ m a' < m a ∧ keepE st.env s = E a' ∧ st.ob = O a' ∧ st.base = base ∧ st.marks = marks
/-- a loop that keeps all its objects -/
theorem v_forN {P : Program} {c : VC} {K : Ex → St → Prop} {s : List Nat} {α : Type} {base : Nat} {marks : List Nat} (good : α → Prop) (m : α → Nat) (E : α → List (Nat × VV)) (O : α → List Obj)
    (h : ∀ a, good a → Wp P c ⟨⟨E a, O a⟩, base, marks⟩ (loopK K (nextN s base marks good m E O a))) :
    ∀ a st, good a → keepE st.env s = E a → st.ob = O a → st.base = base → st.marks = marks → Wp P (.loop (.drop s none c)) st K := by
  intro a st g h1 h2 h3 h4
  refine v_loop (fun a st => good a ∧ keepE st.env s = E a ∧ st.ob = O a ∧ st.base = base ∧ st.marks = marks) m ?_ a st ⟨g, h1, h2, h3, h4⟩
  rintro a ⟨⟨env, ob⟩, base', marks'⟩ ⟨g, h1, rfl, rfl, rfl⟩
  simp only at h1 h ⊢
  show Wp P c ⟨⟨keepE env s, O a⟩, base', marks'⟩ _
  rw [h1]
  refine wp_mono _ _ _ (fun e s' hs => ?_) (h a g)
  cases e with
  | nrm => obtain ⟨a', q1, q2, q3, q4, q5, q6⟩ := hs; exact ⟨a', ⟨q1, q3, q4, q5, q6⟩, q2⟩
  | ext id => exact hs
  | ret => exact hs
end Go.V
namespace Go.Proofs
open Go.V Go.RowKit

def okB2 (x : Bd) : Prop := okB x ∧ x.2.length ≤ 1000000
theorem bindR_ok2 {b : List Bd} {name : List UInt8} {part : List Nd} (hb : ∀ x ∈ b, okB2 x) (lp : part.length ≤ 1000000) (op : ∀ d ∈ part, okN d) : ∀ x ∈ (bindR b name part).1, okB2 x := by
  unfold bindR
  split
  · exact hb
  · split
    · exact hb
    · intro x hx
      rcases List.mem_append.1 hx with h | h
      · exact hb x h
      · rw [List.mem_singleton] at h; subst h; exact ⟨⟨Nat.le_trans lp (by decide), op⟩, lp⟩
theorem indexB_map (name : List UInt8) : ∀ b : List Bd, indexB (b.map (·.1)) name = (b.find? (fun x => x.1 == name)).isSome
  | [] => rfl
  | x :: r => by
    have ih := indexB_map name r
    have e : (name == x.1) = (x.1 == name) := Bool.eq_iff_iff.2 ⟨fun h => by simpa using (beq_iff_eq.1 h).symm, fun h => by simpa using (beq_iff_eq.1 h).symm⟩
    unfold indexB at ih ⊢
    rw [List.map_cons, List.any_cons, ih, List.find?_cons, e]
    cases (x.1 == name) <;> rfl

theorem bindR_names {b : List Bd} {x : Nd} {part : List Nd} (hm : metaR x = true) : (bindR b x.text part).1.map (·.1) = addN (b.map (·.1)) x := by
  have hi := indexB_map x.text b
  unfold bindR addN
  cases h0 : (x.text == [95]) with
  | true => simp [hm, bne, h0]
  | false =>
    simp only [Bool.false_eq_true, if_false]
    cases hf : b.find? (fun y => y.1 == x.text) with
    | some y => rw [hf] at hi; simp [hm, hi]
    | none => rw [hf] at hi; simp [hm, bne, h0, hi]

def patsR : List Tk → List Nd
  | [] => []
  | t :: T => nodesRs t.1 ++ patsR T
def bareX (x : Nd) : Prop := metaR x = true → x.kids = []
theorem addN_no {l : List (List UInt8)} {x : Nd} (h : metaR x = false) : addN l x = l := by simp [addN, h]

theorem firstR_ex {β : Type} {f : Nat → Option β} {b : β} : ∀ c i, firstR f c i = some b → ∃ k, i ≤ k ∧ k < i + c ∧ f k = some b
  | 0, i, h => by cases h
  | c + 1, i, h => by
    cases hf : f i with
    | some v => rw [firstR_some hf] at h; cases h; exact ⟨i, Nat.le_refl _, by omega, hf⟩
    | none =>
      rw [firstR_none hf] at h
      obtain ⟨k, h1, h2, h3⟩ := firstR_ex c (i + 1) h
      exact ⟨k, by omega, by omega, h3⟩

/-- what a solution is made of, step by step -/
theorem solve_ind {Q : List Tk → List Bd → List Bd → Prop} (h0 : ∀ b, Q [] b b) (h1 : ∀ T b b', Q T b b' → Q (([], []) :: T) b b')
    (h2 : ∀ p ps ns T b b' part rest, (p.kind == 26) = true → part ++ rest = ns → (bindR b p.text part).2 = true → Q ((ps, rest) :: T) (bindR b p.text part).1 b' → Q ((p :: ps, ns) :: T) b b')
    (h3 : ∀ p ps m ms T b b', (p.kind == 26) = false → (p.kind == 25) = true → (bindR b p.text [m]).2 = true → Q ((ps, ms) :: T) (bindR b p.text [m]).1 b' → Q ((p :: ps, m :: ms) :: T) b b')
    (h4 : ∀ p ps m ms T b b', (p.kind == 26) = false → (p.kind == 25) = false → p.kind = m.kind → p.text = m.text → Q ((p.kids, m.kids) :: (ps, ms) :: T) b b' → Q ((p :: ps, m :: ms) :: T) b b') :
    ∀ n T b b', solveR n T b = some b' → Q T b b' := by
  intro n
  induction n with
  | zero => intro T b b' h; cases h
  | succ n ih =>
    intro T b b' h
    match T, h with
    | [], h => simp only [solveR] at h; cases h; exact h0 b
    | ([], ns) :: T, h =>
      simp only [solveR] at h
      split at h
      · cases h
      · rename_i hz
        have : ns = [] := by
          cases ns with
          | nil => rfl
          | cons a r => exact absurd (by simp) hz
        subst this
        exact h1 _ _ _ (ih _ _ _ h)
    | (p :: ps, ns) :: T, h =>
      cases hk : (p.kind == 26) with
      | true =>
        simp only [solveR, hk, if_true] at h
        obtain ⟨k, _, hk2, hf⟩ := firstR_ex _ _ h
        split at hf
        · rename_i hb
          exact h2 p ps ns T b b' (ns.take k) (ns.drop k) hk (List.take_append_drop _ _) hb (ih _ _ _ hf)
        · cases hf
      | false =>
        match ns, h with
        | [], h => simp only [solveR, hk, Bool.false_eq_true, if_false] at h; cases h
        | m :: ms, h =>
          cases hk2 : (p.kind == 25) with
          | true =>
            simp only [solveR, hk, hk2, Bool.false_eq_true, if_false, if_true] at h
            split at h
            · rename_i hb
              exact h3 p ps m ms T b b' hk hk2 hb (ih _ _ _ h)
            · cases h
          | false =>
            simp only [solveR, hk, hk2, Bool.false_eq_true, if_false] at h
            split at h
            · cases h
            · rename_i e1
              split at h
              · cases h
              · rename_i e2
                exact h4 p ps m ms T b b' hk hk2 (by simpa using e1) (by simpa using e2) (ih _ _ _ h)

theorem solve_names {n : Nat} {T : List Tk} {b b' : List Bd} (h : solveR n T b = some b') : (∀ x ∈ patsR T, bareX x) → b'.map (·.1) = (patsR T).foldl addN (b.map (·.1)) := by
  revert h
  refine solve_ind (Q := fun T b b' => (∀ x ∈ patsR T, bareX x) → b'.map (·.1) = (patsR T).foldl addN (b.map (·.1))) ?_ ?_ ?_ ?_ ?_ n T b b'
  · intro b _; rfl
  · intro T b b' ih hx; exact ih hx
  · intro p ps ns T b b' part rest hk _ _ ih hx
    have hm : metaR p = true := by simp [metaR, hk]
    have hkid : p.kids = [] := hx p (by simp [patsR, nodesRs, nodesR_kids]) hm
    have e : patsR ((p :: ps, ns) :: T) = p :: patsR ((ps, rest) :: T) := by simp [patsR, nodesRs, nodesR_kids, hkid]
    rw [e] at hx ⊢
    rw [List.foldl_cons, ← bindR_names (part := part) hm]
    exact ih fun x h => hx x (by simp [h])
  · intro p ps m ms T b b' hk hk2 _ ih hx
    have hm : metaR p = true := by simp [metaR, hk2]
    have hkid : p.kids = [] := hx p (by simp [patsR, nodesRs, nodesR_kids]) hm
    have e : patsR ((p :: ps, m :: ms) :: T) = p :: patsR ((ps, ms) :: T) := by simp [patsR, nodesRs, nodesR_kids, hkid]
    rw [e] at hx ⊢
    rw [List.foldl_cons, ← bindR_names (part := [m]) hm]
    exact ih fun x h => hx x (by simp [h])
  · intro p ps m ms T b b' hk hk2 _ _ ih hx
    have hm : metaR p = false := by simp [metaR, hk, hk2]
    have e : patsR ((p :: ps, m :: ms) :: T) = p :: patsR ((p.kids, m.kids) :: (ps, ms) :: T) := by simp [patsR, nodesRs, nodesR_kids]
    rw [e] at hx ⊢
    rw [List.foldl_cons, addN_no hm]
    exact ih fun x h => hx x (by simp [h])

theorem solve_ok {n : Nat} {T : List Tk} {b b' : List Bd} (h : solveR n T b = some b') : (∀ t ∈ T, okT t) → (∀ x ∈ b, okB2 x) → ∀ x ∈ b', okB2 x := by
  revert h
  refine solve_ind (Q := fun T b b' => (∀ t ∈ T, okT t) → (∀ x ∈ b, okB2 x) → ∀ x ∈ b', okB2 x) ?_ ?_ ?_ ?_ ?_ n T b b'
  · exact fun b _ h => h
  · exact fun T b b' ih hT => ih fun t ht => hT t (by simp [ht])
  · rintro p ps ns T b b' part rest hk rfl _ ih hT hb
    obtain ⟨⟨l1, o1⟩, l2, o2⟩ := hT _ (List.mem_cons_self ..)
    simp only [nodesRs_append, List.length_append] at l2
    refine ih (fun t ht => ?_) (bindR_ok2 hb (Nat.le_trans (nodes_len part) (by omega)) fun d hd => o2 d (by simp [hd]))
    rcases List.mem_cons.1 ht with rfl | h
    · exact ⟨⟨by simp only [List.length_cons] at l1; simp only; omega, fun d hd => o1 d (by simp [hd])⟩, by simp only; omega, fun d hd => o2 d (by simp [hd])⟩
    · exact hT t (by simp [h])
  · rintro p ps m ms T b b' hk hk2 _ ih hT hb
    obtain ⟨⟨l1, o1⟩, l2, o2⟩ := hT _ (List.mem_cons_self ..)
    simp only [nodesRs, List.length_append] at l2
    refine ih (fun t ht => ?_) (bindR_ok2 hb (by simp) fun d hd => o2 d (by rw [List.mem_singleton] at hd; simp [hd]))
    rcases List.mem_cons.1 ht with rfl | h
    · exact ⟨⟨by simp only [List.length_cons] at l1; simp only; omega, fun d hd => o1 d (by simp [hd])⟩, by simp only; omega, fun d hd => o2 d (by simp [hd])⟩
    · exact hT t (by simp [h])
  · rintro p ps m ms T b b' hk hk2 _ _ ih hT hb
    obtain ⟨⟨l1, o1⟩, l2, o2⟩ := hT _ (List.mem_cons_self ..)
    simp only [nodesRs, List.length_append] at l2
    have nm : (nodesR m).length = (nodesRs m.kids).length + 1 := by rw [nodesR_kids]; rfl
    refine ih (fun t ht => ?_) hb
    rcases List.mem_cons.1 ht with rfl | h
    · exact ⟨kids_ok (o1 p (by simp)), by simp only; omega, (kids_ok (o2 m (by simp))).2⟩
    · rcases List.mem_cons.1 h with rfl | h
      · exact ⟨⟨by simp only [List.length_cons] at l1; simp only; omega, fun d hd => o1 d (by simp [hd])⟩, by simp only; omega, fun d hd => o2 d (by simp [hd])⟩
      · exact hT t (by simp [h])
end Go.Proofs

/- V, proofs: Match, of the code and of the reference, answer alike. -/
set_option linter.unusedVariables false
set_option linter.unusedSimpArgs false
namespace Go.Proofs
open Go.V Go.RowKit

theorem cn_agg {cs : List VV} : (VV.agg cs).canon = cs.all VV.canon0 := rfl
theorem c0_sl {l : List VV} : (VV.sl l 0).canon0 = true := rfl
theorem c0_str {l : List UInt8} : (VV.str l).canon0 = true := rfl
theorem addN_nodup {l : List (List UInt8)} {x : Nd} (h : l.Nodup) : (addN l x).Nodup := by
  unfold addN
  split
  · rename_i hc
    simp only [Bool.and_eq_true, Bool.not_eq_true'] at hc
    rw [List.nodup_append]
    refine ⟨h, by simp, ?_⟩
    intro a ha b hb e
    rw [List.mem_singleton] at hb
    subst hb
    subst e
    have : indexB l x.text = true := List.any_eq_true.2 ⟨x.text, ha, by simp⟩
    rw [this] at hc
    cases hc.2
  · exact h
theorem foldN_nodup : ∀ (xs : List Nd) (l : List (List UInt8)), l.Nodup → (xs.foldl addN l).Nodup
  | [], _, h => h
  | x :: r, l, h => foldN_nodup r _ (addN_nodup h)

theorem bare_all {p : Nd} (h : bareR p = true) : ∀ x ∈ nodesR p, bareX x := fun x hx hm => by
  have := List.all_eq_true.1 h x hx
  simp only [hm, Bool.true_and, Bool.not_eq_true', decide_eq_false_iff_not] at this
  exact List.length_eq_zero_iff.1 (by omega)

theorem match_names {P N : Nd} {b : List Bd} (h : matchR P N = some b) (hb : bareR P = true) : b.map (·.1) = metasR P ∧ (b.map (·.1)).Nodup := by
  have e : patsR [([P], [N])] = nodesR P := by simp [patsR, nodesRs]
  have := solve_names h (by rw [e]; exact bare_all hb)
  rw [e] at this
  refine ⟨this, ?_⟩
  rw [this]
  exact foldN_nodup _ _ List.nodup_nil
theorem match_okg {P N : Nd} {b : List Bd} (h : matchR P N = some b) (hP : okN P) (hN : okN N) (h2 : (nodesR N).length ≤ 100000) : ∀ x ∈ b, okB2 x := by
  refine solve_ok h (fun t ht => ?_) nofun
  rw [List.mem_singleton] at ht
  subst ht
  refine ⟨⟨show 1 ≤ maxLen by decide, ?_⟩, ?_, ?_⟩
  · intro d hd; rw [List.mem_singleton] at hd; subst hd; exact hP
  · simp only [nodesRs, List.append_nil]; omega
  · intro d hd; rw [List.mem_singleton] at hd; subst hd; exact hN
theorem match_ok {P N : Nd} {b : List Bd} (h : matchR P N = some b) (hP : okN P) (hN : okN N) (h2 : (nodesR N).length ≤ 150) : ∀ x ∈ b, okB2 x := match_okg h hP hN (Nat.le_trans h2 (by decide))
theorem find_self {b : List Bd} (hn : (b.map (·.1)).Nodup) {i : Nat} (hi : i < b.length) : b.find? (fun x => b[i].1 == x.1) = some b[i] := by
  rw [List.find?_eq_some_iff_getElem]
  refine ⟨by simp, i, hi, rfl, fun j hj => ?_⟩
  have := List.pairwise_iff_getElem.1 hn j i (by simp; omega) (by simp; omega) hj
  simp only [List.getElem_map] at this
  simpa using fun e => this e.symm

theorem f12 (P N : Nd) (hP : okN P) (hN : okN N) (h1 : (nodesR P).length ≤ 30) (h2 : (nodesR N).length ≤ 150) : PureC Try.prog 12 [eN P, eN N] (eS (matchR P N)) := by
  refine pure_of_wp m12 rfl (by simp [eN_argOk]) ?_
  have q := f36 1000 [([P], [N])] [] (by simp only [wR, nodesRs, List.append_nil]; omega) (fun t ht => by
    rw [List.mem_singleton] at ht
    subst ht
    refine ⟨⟨show 1 ≤ maxLen by decide, ?_⟩, ?_, ?_⟩
    · intro d hd; rw [List.mem_singleton] at hd; subst hd; exact hP
    · simp only [nodesRs, List.append_nil]; omega
    · intro d hd; rw [List.mem_singleton] at hd; subst hd; exact hN) nofun (by simp only [wR, nodesRs, List.append_nil, List.length_nil]; omega)
  have hm : solveR 1000 [([P], [N])] [] = matchR P N := rfl
  rw [hm] at q
  unfold FnW v12
  simp only [go_sem, eN_cells, eN_fold, cn_agg, c0_sl]
  refine callW_pure q (by simp only [go_sem, eT]) (by first | rfl | simp only [go_sem]) ?_
  cases matchR P N <;> simp only [go_sem, eS]

theorem capN {i n : Nat} (h : i < n) (hn : n ≤ 30) : (i + 1) * 40 ≤ 35184372088832 := Nat.le_trans (Nat.mul_le_mul_right 40 (show i + 1 ≤ 30 by omega)) (by decide)
theorem capP {n : Nat} (hn : n ≤ 1000000) : n * 64 ≤ 35184372088832 := Nat.le_trans (Nat.mul_le_mul_right 64 hn) (by decide)

theorem f11g (P N : Nd) (hP : okN P) (hN : okN N) (h1 : (nodesR P).length ≤ 30) (h2 : (nodesR N).length ≤ 100000) (hb : bareR P = true) : PureC Try.prog 11 [eN P, eN N] (eS (matchR P N)) := by
  refine pure_of_wp m11 rfl (by simp [eN_argOk]) ?_
  have q34 := f34g (ob0 := [.cells (eN P).cells, .cells (eN N).cells]) (by simp [Obj.idsB, idsL, VV.ids, eN_cells]) P N hP hN h1 h2
  have q35 := f35 P hP h1
  have ml : (metasR P).length ≤ 30 := by
    have := foldN_len (nodesR P) []
    simp only [metasR, List.length_nil] at this ⊢
    omega
  simp only [eN_cells, List.length_cons, List.length_nil, List.cons_append, List.nil_append, Nat.reduceAdd] at q34
  unfold FnW v11
  simp only [go_sem, eN_cells, eN_fold]
  refine callW_det q34 (by first | rfl | simp only [go_sem]) (by first | rfl | simp only [go_sem]) (.inr rfl) ?_
  cases hm : matchR P N with
  | none => simp only [go_sem, Option.isSome_none, eS]
  | some b =>
  obtain ⟨n1, n2⟩ := match_names hm hb
  have bo := match_okg hm hP hN h2
  rw [← n1] at q35 ml
  rw [List.length_map] at ml
  simp only [go_sem, Option.isSome_some, Option.getD_some, eN_cells, eN_fold]
  refine callW_pure q35 (by first | rfl | simp only [go_sem]) (by first | rfl | simp only [go_sem]) ?_
  simp only [go_sem]
  refine v_forN (α := Nat × List V.Obj) (good := fun a => a.1 ≤ b.length) (m := fun a => b.length - a.1)
    (E := fun a => [(6, .mp 4), (8, .sl ((b.take a.1).map eB) 7), (20, .sl (List.map VV.str (b.map (·.1))) 0), (21, .int .i64 b.length), (22, .int .i64 a.1)])
    (O := fun a => [.cells (eN P).cells, .cells (eN N).cells, .cells (eN P).cells, .cells (eN N).cells, .map (b.map eE), .tok a.1 2] ++ a.2) ?_ (0, []) _ (by simp) (by simp only [go_sem]) (by simp only [eN_cells, List.append_nil]) rfl rfl
  rintro ⟨i, junk⟩ hi
  simp only at hi
  simp only [go_sem, eN_cells]
  refine if_s (fun ht => ?_) (fun hf => ?_)
  · have hlt : i < b.length := by simpa using ht
    have g1 : (List.map VV.str (b.map (·.1)))[i]? = some (.str b[i].1) := by simp [hlt]
    have hf : mfind (.str b[i].1) (b.map eE) = some (some (.sl (b[i].2.map eN) 0)) := by rw [mfind_eE, find_self n2 hlt]; rfl
    have hc := capN hlt ml
    have hq := capP (bo _ (List.getElem_mem hlt)).2
    have hlen : (b.take i).length = i := by simp; omega
    have w : IntKind.i64.wrap ((i : Int) + 1) = ((i + 1 : Nat) : Int) := wrap_succ (by omega)
    simp only [go_sem, g1, hf, eN_cells, Option.getD_some, hq, hc, hlen, VV.canon, VV.canon0]
    exact ⟨(i + 1, junk ++ [.tok b[i].2.length 5]), by simp only; omega, by simp only; omega, by simp only [go_sem, w, List.take_add_one, List.getElem?_eq_getElem hlt, Option.toList_some, List.map_append, eB], by simp only [eN_cells, List.cons_append, List.nil_append], rfl, rfl⟩
  · have hge : i = b.length := by
      have : b.length ≤ i := by simpa using hf
      omega
    subst hge
    simp only [go_sem, List.take_length, eS]
theorem f11 (P N : Nd) (hP : okN P) (hN : okN N) (h1 : (nodesR P).length ≤ 30) (h2 : (nodesR N).length ≤ 150) (hb : bareR P = true) : PureC Try.prog 11 [eN P, eN N] (eS (matchR P N)) := f11g P N hP hN h1 (Nat.le_trans h2 (by decide)) hb
end Go.Proofs
