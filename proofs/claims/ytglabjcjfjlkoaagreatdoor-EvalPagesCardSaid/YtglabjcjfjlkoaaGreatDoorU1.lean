/- V, proofs: small laws that the answers of functions want, whatever the program. -/
import Derived.Test.YtglabjcjfjlkoaaGreatDoorA4
set_option linter.unusedVariables false
set_option linter.unusedSimpArgs false
namespace Go.Proofs
open Go.V Go.RowKit

theorem wrap_nat {n : Nat} (h : n < 2 ^ 63) : IntKind.i64.wrap n = n := by
  have h1 : (n : Int) % (2 ^ 64 : Int) = n := Int.emod_eq_of_lt (by omega) (by omega)
  unfold IntKind.wrap
  simp only [IntKind.bits, h1]
  rw [if_neg]
  simp only [IntKind.signed, Bool.true_and, decide_eq_true_eq]
  omega
theorem wrap_succ {n : Nat} (h : n + 1 < 2 ^ 63) : IntKind.i64.wrap ((n : Int) + 1) = ((n + 1 : Nat) : Int) := by
  have e : ((n : Int) + 1) = ((n + 1 : Nat) : Int) := by omega
  rw [e, wrap_nat h]
theorem wrap_len {i n : Nat} (h : i < n) (hn : n ≤ maxLen) : IntKind.i64.wrap ((i : Int) + 1) = ((i + 1 : Nat) : Int) :=
  wrap_succ (by have : maxLen = 9223372036854775807 := rfl; omega)
theorem wrap_int {n : Int} (h1 : -9223372036854775808 ≤ n) (h2 : n < 9223372036854775808) : IntKind.i64.wrap n = n := by
  have h : ∀ m : Int, (m = n ∧ 0 ≤ n) ∨ (m = n + 18446744073709551616 ∧ n < 0) → n % (2 ^ 64 : Int) = m → IntKind.i64.wrap n = n := by
    intro m hm e
    unfold IntKind.wrap
    simp only [IntKind.bits, e]
    rcases hm with ⟨rfl, h⟩ | ⟨rfl, h⟩
    · rw [if_neg]
      simp only [IntKind.signed, Bool.true_and, decide_eq_true_eq]
      omega
    · rw [if_pos]
      · omega
      · simp only [IntKind.signed, Bool.true_and, decide_eq_true_eq]
        omega
  rcases Int.lt_or_le n 0 with q | q
  · refine h (n + 18446744073709551616) (.inr ⟨rfl, q⟩) ?_
    rw [← Int.add_emod_right, Int.emod_eq_of_lt (by omega) (by omega)]
    rfl
  · exact h n (.inl ⟨rfl, q⟩) (Int.emod_eq_of_lt q (by omega))

theorem argOk_sl {l : List VV} : argOk (.sl l 0) = true := by simp [argOk, VV.noHnd, VV.noHnd0, VV.ids]
theorem argOk_str {l : List UInt8} : argOk (.str l) = true := by simp [argOk, VV.noHnd, VV.noHnd0, VV.ids]
theorem argOk_int {k : IntKind} {n : Int} : argOk (.int k n) = true := by simp [argOk, VV.noHnd, VV.noHnd0, VV.ids]
theorem argOk_bool {b : Bool} : argOk (.bool b) = true := by simp [argOk, VV.noHnd, VV.noHnd0, VV.ids]
theorem get_map {α : Type} (f : α → VV) {l : List α} {i : Nat} (h : i < l.length) : (l.map f)[i]? = some (f l[i]) := by
  simp [h]
theorem str_get {s : List UInt8} {i : Nat} (h : i < s.length) : s[i]? = some s[i] := List.getElem?_eq_getElem h
theorem take_succ {α : Type} {l : List α} {i : Nat} (h : i < l.length) : l.take (i + 1) = l.take i ++ [l[i]] := by
  rw [List.take_add_one, List.getElem?_eq_getElem h]; rfl
theorem cons_of_get {α : Type} {l : List α} {i : Nat} (h : i < l.length) : l.drop i = l[i] :: l.drop (i + 1) := List.drop_eq_getElem_cons h
theorem len_lt {i n : Nat} (h : decide ((i : Int) < (n : Int)) = true) : i < n := by simpa using h
theorem len_ge {i n : Nat} (h : decide ((i : Int) < (n : Int)) = false) : n ≤ i := by simpa using h
theorem maxLen_eq : maxLen = 9223372036854775807 := rfl

theorem cast2 : ((2 : Nat) : Int) = 2 := byRfl rfl
attribute [go_sem] cast2 Int.reduceNeg
theorem sbool {a b : Bool} (h : a = true ↔ b = true) : some (VV.bool a) = some (VV.bool b) := by
  have : a = b := by cases a <;> cases b <;> simp_all
  rw [this]
theorem sboolT {b : Bool} (h : b = true) : some (VV.bool true) = some (VV.bool b) := by rw [h]
theorem sboolF {b : Bool} (h : ¬ (b = true)) : some (VV.bool false) = some (VV.bool b) := by
  have : b = false := by simpa using h
  rw [this]
/-- one function alone -/
def tabOf (f : Nat) (vf : VF) : Nat → Option VF := fun k => if k = f then some vf else none
theorem tabOf_ok {P : Program} {f : Nat} {vf : VF} (h : mFn P f vf = true) : TabOk P (tabOf f vf) (fun _ _ => none) := by
  refine ⟨fun k v e => ?_, fun f args r h => by cases h⟩
  unfold tabOf at e
  split at e
  · rename_i q; subst q; cases e; exact h
  · cases e
def isV (r : Option VV) (v : VV) : Bool := match r with | some x => eqVV x v | none => false
theorem isV_eq {r : Option VV} {v : VV} (h : isV r v = true) : r = some v := by
  unfold isV at h
  split at h
  · rename_i x; rw [eqVV_ok _ _ h]
  · cases h
/-- a function of one byte, run at every byte -/
theorem pure_byte {P : Program} {f : Nat} {vf : VF} (hm : mFn P f vf = true) (n : Nat) (r : Nat → VV) (h : ((List.range 256).all fun c => isV (runF (tabOf f vf) (fun _ _ => none) n f [.int .u8 c]) (r c)) = true) (c : UInt8) :
    PureC P f [byteInt c] (r c.toNat) := by
  refine runF_ok (tabOf_ok hm) (n := n) (isV_eq ?_)
  exact List.all_eq_true.1 h c.toNat (List.mem_range.2 c.toNat_lt)
end Go.Proofs
namespace Go.Proofs
open Go.V Go.RowKit
section
variable {α : Type} {p : α → Bool} {l : List α} {i : Nat}
theorem all_step (h : i < l.length) (hp : (l.take i).all p = true) (hx : p l[i] = true) : (l.take (i + 1)).all p = true := by
  rw [take_succ h, List.all_append, hp]; simp [hx]
theorem all_stop (h : i < l.length) (hx : p l[i] = false) : l.all p = false := by
  rw [List.all_eq_false]; exact ⟨l[i], List.getElem_mem h, by simp [hx]⟩
theorem all_end (h : l.length ≤ i) (hp : (l.take i).all p = true) : l.all p = true := by
  rwa [List.take_of_length_le h] at hp
theorem any_step (h : i < l.length) (hp : (l.take i).any p = false) (hx : p l[i] = false) : (l.take (i + 1)).any p = false := by
  rw [take_succ h, List.any_append, hp]; simp [hx]
theorem any_stop (h : i < l.length) (hx : p l[i] = true) : l.any p = true := by
  rw [List.any_eq_true]; exact ⟨l[i], List.getElem_mem h, hx⟩
theorem any_end (h : l.length ≤ i) (hp : (l.take i).any p = false) : l.any p = false := by
  rwa [List.take_of_length_le h] at hp
theorem any_take (h : i < l.length) : (l.take (i + 1)).any p = ((l.take i).any p || p l[i]) := by
  rw [take_succ h, List.any_append]; simp
end
end Go.Proofs
namespace Go.V
open Go.RowKit
/-- where ways meet: what is kept -/
def joinK {α : Type} (K : Ex → St → Prop) (slots : List Nat) (base : Nat) (marks : List Nat) (pu : Bool) (good : α → Prop) (E : α → List (Nat × VV)) (O : α → List Obj) : Ex → St → Prop
  | .nrm, s => ∃ x, good x ∧ keepE s.env slots = E x ∧ s.ob = O x ∧ s.base = base ∧ s.marks = marks ∧ s.pure = pu
  | .ext id, s => K (.ext id) s
  | .ret, s => K .ret s
section
variable {α : Type} {P : Program} {K : Ex → St → Prop} {slots : List Nat} {base : Nat} {marks : List Nat} {pu : Bool} {good : α → Prop} {E : α → List (Nat × VV)} {O : α → List Obj} {st : St} {c : VC}
theorem joinK_ext {id : Nat} : joinK K slots base marks pu good E O (.ext id) st = K (.ext id) st := byRfl rfl
theorem joinK_ret : joinK K slots base marks pu good E O .ret st = K .ret st := byRfl rfl
theorem joinK_nrm : joinK K slots base marks pu good E O .nrm st = ∃ x, good x ∧ keepE st.env slots = E x ∧ st.ob = O x ∧ st.base = base ∧ st.marks = marks ∧ st.pure = pu := byRfl rfl
attribute [go_sem] joinK_ext joinK_ret joinK_nrm
theorem join_on (h : ∀ x, good x → Wp P c ⟨⟨E x, O x⟩, base, marks, pu⟩ K) : ∀ e s, joinK K slots base marks pu good E O e s → contS P (.drop slots none c) K e s := by
  intro e s hs
  cases e with
  | nrm =>
    obtain ⟨x, hg, h1, h2, h3, h4, h5⟩ := hs
    obtain ⟨⟨env, ob⟩, b, m, p⟩ := s
    simp only at h1 h2 h3 h4 h5
    subst h2; subst h3; subst h4; subst h5
    show Wp P c _ K
    simp only
    rw [h1]
    exact h x hg
  | ext id => exact hs
  | ret => exact hs
theorem if_cut {t : Bool} {a b : VC} (good : α → Prop) (E : α → List (Nat × VV)) (O : α → List Obj) (h1 : t = true → Wp P a st (joinK K slots base marks pu good E O)) (h2 : t = false → Wp P b st (joinK K slots base marks pu good E O))
    (h : ∀ x, good x → Wp P c ⟨⟨E x, O x⟩, base, marks, pu⟩ K) : CondK P (.bool t) a b st (contS P (.drop slots none c) K) :=
  ⟨fun e => wp_mono _ _ _ (join_on h) (h1 e), fun e => wp_mono _ _ _ (join_on h) (h2 e)⟩
theorem g_cut {gv : VV} {b : Bool} {d : Option Nat} {o : VOp} {r : List VI} (good : α → Prop) (E : α → List (Nat × VV)) (O : α → List Obj) (h1 : GuardW P gv b d o st (opsK P r (nrmK (joinK K slots base marks pu good E O))))
    (h : ∀ x, good x → Wp P c ⟨⟨E x, O x⟩, base, marks, pu⟩ K) : GuardW P gv b d o st (opsK P r (nrmK (contS P (.drop slots none c) K))) := by
  have m : ∀ s, opsK P r (nrmK (joinK K slots base marks pu good E O)) s → opsK P r (nrmK (contS P (.drop slots none c) K)) s := fun s hs => ops_mono (fun s h' => join_on h _ _ h') r s hs
  unfold GuardW at h1 ⊢
  split at h1
  · exact h1
  · exact m _ h1
  · exact opW_mono m h1
end
theorem beq_cons {a : UInt8} {r : List UInt8} : ((a :: r) == ([] : List UInt8)) = false := byRfl rfl
theorem beq_nil : (([] : List UInt8) == []) = true := byRfl rfl
attribute [go_sem] beq_cons beq_nil
end Go.V
namespace Go.V
open Go.RowKit
section
variable {P : Program} {st : St} {k : St → Prop} {d : Option Nat}

def CallvW (P : Program) (v : VV) (args : List VV) (own : Option (Option Nat × Nat)) (d : Option Nat) (st : St) (k : St → Prop) : Prop :=
  match fnOf v with
  | some (f, cap) => CallW P f (args ++ cap) own d st k
  | none => match yldOf v with
    | some o => args.all VV.noTup = true ∧ YldC P o (args.map VV.strip) st.ob fun r ob' => k { st with env := putD st.env d r, ob := ob' }
    | none => False
def CallvD (P : Program) (v : VV) (args : List VV) (own : Option (Option Nat × Nat)) (d : Option Nat) (st : St) (k : St → Prop) : Prop :=
  match fnOf v with
  | some (f, cap) => CallD P f (args ++ cap) own d st k
  | none => False
theorem ow_callv {x : Opd} {args : List Opd} {own : Option (Option Nat × Nat)} : OpW P ⟨d, none, .callv x args own⟩ st k = CallvW P (x.ev st.env) (args.map (Opd.ev st.env)) own d st k := byRfl rfl
theorem od_callv {x : Opd} {args : List Opd} {own : Option (Option Nat × Nat)} : OpD P ⟨d, none, .callv x args own⟩ st k = CallvD P (x.ev st.env) (args.map (Opd.ev st.env)) own d st k := byRfl rfl
theorem callvW_fn {f : Nat} {cap args : List VV} {own : Option (Option Nat × Nat)} : CallvW P (.fn f cap) args own d st k = CallW P f (args ++ cap) own d st k := byRfl rfl
theorem callvD_fn {f : Nat} {cap args : List VV} {own : Option (Option Nat × Nat)} : CallvD P (.fn f cap) args own d st k = CallD P f (args ++ cap) own d st k := byRfl rfl

theorem callW_det {f : Nat} {args args' : List VV} {own : Option (Option Nat × Nat)} {v : VV} {ob1 : List Obj} (h : ImpC P f args' st.ob fun r o => r = v ∧ o = ob1) (ha : args.map VV.strip = args') (hn : args.all VV.noTup = true) (ho : own = none ∨ (markOf own).isSome = true)
    (hk : k { st with env := putD st.env d v, ob := ob1 }) : CallW P f args own d st k := by
  subst ha
  refine Or.inr ⟨ho, hn, h.mono ?_⟩
  rintro r o ⟨rfl, rfl⟩
  exact hk
theorem callD_det {f : Nat} {args args' : List VV} {own : Option (Option Nat × Nat)} {v : VV} {ob1 : List Obj} {b : Bool} (h : ImpC P f args' st.ob fun r o => r = v ∧ o = ob1) (ha : args.map VV.strip = args') (hn : args.all VV.noTup = true) (hm : markOf own = some b) (hp : b = true → Keeps st.ob ob1)
    (hk : k { st with env := putD st.env d v, ob := ob1 }) : CallD P f args own d st k := by
  subst ha
  exact Or.inr ⟨b, hm, hn, v, ob1, h, hp, hk⟩

theorem endI_of {vf : VF} {pu : Bool} {n : Nat} {R : VV → List Obj → Prop} {env : List (Nat × VV)} {ob : List Obj} (m : Nat) (r : VV) (h1 : n ≤ m) (h2 : m ≤ ob.length) (h3 : (ob.take m).all (Obj.idsB m) = true) (h4 : (resOfL ⟨env, ob⟩ vf.results).bind outI = some r) (h5 : r.ids m = true) (h6 : R r (ob.take m)) :
    EndI vf n R .ret ⟨⟨env, ob⟩, n, [], pu⟩ := ⟨trivial, rfl, ob, m, r, rfl, h1, h2, h3, h4, h5, h6⟩

theorem getD_app_add {r s : List Obj} {i : Nat} {x : Obj} : (r ++ s).getD (r.length + i) x = s.getD i x := by
  rw [List.getD_eq_getElem?_getD, List.getElem?_append_right (by omega), List.getD_eq_getElem?_getD]
  congr 3
  omega
theorem getD_app_len {r s : List Obj} {x : Obj} : (r ++ s).getD r.length x = s.getD 0 x := by
  have h := getD_app_add (r := r) (s := s) (i := 0) (x := x)
  rw [Nat.add_zero] at h
  exact h
theorem set_app_add {r s : List Obj} {i : Nat} {x : Obj} : (r ++ s).set (r.length + i) x = r ++ s.set i x := by
  rw [List.set_append_right _ _ (by omega)]
  congr 2
  omega
theorem set_app_len {r s : List Obj} {x : Obj} : (r ++ s).set r.length x = r ++ s.set 0 x := by
  have h := set_app_add (r := r) (s := s) (i := 0) (x := x)
  rw [Nat.add_zero] at h
  exact h
theorem nh_ptr {o i : Nat} : (VV.ptr o i).noHnd = true := byRfl rfl
theorem nh_int {k : IntKind} {n : Int} : (VV.int k n).noHnd = true := byRfl rfl
theorem nh_bool {b : Bool} : (VV.bool b).noHnd = true := byRfl rfl
theorem nh_str {s : List UInt8} : (VV.str s).noHnd = true := byRfl rfl
theorem nh_sl {l : List VV} : (VV.sl l 0).noHnd = true := byRfl rfl
theorem nh_fn {f : Nat} {l : List VV} : (VV.fn f l).noHnd = true := byRfl rfl
theorem nh_mp {o : Nat} : (VV.mp o).noHnd = true := byRfl rfl
theorem nh_yld {o : Nat} : (VV.yld o).noHnd = true := byRfl rfl
theorem getD_cells {r s : List Obj} {j : Nat} {cs : List VV} (h : r.getD j .gone = .cells cs) : (r ++ s).getD j .gone = .cells cs := by
  have hj : j < r.length := by
    apply Nat.lt_of_not_le
    intro hle
    rw [List.getD_eq_getElem?_getD, List.getElem?_eq_none hle] at h
    cases h
  rw [List.getD_eq_getElem?_getD, List.getElem?_append_left hj, ← List.getD_eq_getElem?_getD]
  exact h
theorem getD_lt {r : List Obj} {j : Nat} {cs : List VV} (h : r.getD j .gone = .cells cs) : j < r.length := by
  apply Nat.lt_of_not_le
  intro hle
  rw [List.getD_eq_getElem?_getD, List.getElem?_eq_none hle] at h
  cases h
theorem idsB_mono {n m : Nat} (hn : n ≤ m) {o : Obj} (h : o.idsB n = true) : o.idsB m = true := by
  cases o with
  | cells cs => exact (ids_mono hn).2 _ h
  | loop nt env ps a b s p =>
    simp only [Obj.idsB, List.all_eq_true] at h ⊢
    exact fun p hp => (ids_mono hn).1 _ (h p hp)
  | miter m l c => simp only [Obj.idsB, decide_eq_true_eq] at h ⊢; omega
  | map es =>
    simp only [Obj.idsB, List.all_eq_true] at h ⊢
    exact fun p hp => (ids_mono hn).1 _ (h p hp)
  | _ => rfl
theorem idsA_mono {n m : Nat} (hn : n ≤ m) {l : List Obj} (h : l.all (Obj.idsB n) = true) : l.all (Obj.idsB m) = true := by
  rw [List.all_eq_true] at h ⊢
  exact fun o ho => idsB_mono hn (h o ho)
theorem keeps_app {ob r : List Obj} : Keeps ob (ob ++ r) := ⟨by simp, fun o h => by
  unfold nthO at h ⊢
  by_cases ho : o < ob.length
  · rw [List.getD_eq_getElem?_getD, List.getElem?_append_left ho, ← List.getD_eq_getElem?_getD]
  · rw [List.getD_eq_getElem?_getD, List.getElem?_eq_none (by omega)] at h
    cases h⟩
end
end Go.V
namespace Go.V
open Go.RowKit
section
variable {P : Program} {st : St} {K : Ex → St → Prop}
def OwnFE (P : Program) (e : Option VV) (o i sz : Nat) (cs : List VV) (c : VC) (st : St) (K : Ex → St → Prop) : Prop := match e with
  | some .nils => Wp P c { st with ob := (st.ob ++ [Obj.tok 0 sz]).set o (.cells (cs.set i (.sl [] (st.ob.length + 2)))) } K
  | _ => False
def OwnFC (P : Program) (x : Obj) (o i sz : Nat) (c : VC) (st : St) (K : Ex → St → Prop) : Prop := match x with
  | .cells cs => OwnFE P cs[i]? o i sz cs c st K
  | _ => False
def OwnFK (P : Program) (v : VV) (s j sz : Nat) (c : VC) (st : St) (K : Ex → St → Prop) : Prop := match v with
  | .ptr o off => OwnFC P (nthO st.ob o) o (off + j) sz c st K
  | .dead => Wp P c { st with ob := st.ob ++ List.replicate j .resv } K
  | .sl es _ => Wp P c { st with env := put st.env s (.sl es 0) } K
  | _ => False
theorem e_ownf {s j sz : Nat} {c : VC} : Wp P (.own s (some j) (sz + 1) c) st K = OwnFK P (get st.env s) s j (sz + 1) c st K := by
  simp only [Wp, ownW, OwnFK]
  rw [if_neg (by omega)]
  cases get st.env s <;> try rfl
  simp only [OwnFC]
  rename_i o off
  cases nthO st.ob o <;> try rfl
  simp only [OwnFE]
  rename_i cs
  cases cs[off + j]? <;> try rfl
  rename_i v
  cases v <;> rfl
theorem ownf_sl {s j sz : Nat} {c : VC} {es : List VV} {t : Nat} : OwnFK P (.sl es t) s j sz c st K = Wp P c { st with env := put st.env s (.sl es 0) } K := byRfl rfl
theorem ownf_dead {s j sz : Nat} {c : VC} : OwnFK P .dead s j sz c st K = Wp P c { st with ob := st.ob ++ List.replicate j .resv } K := byRfl rfl
theorem ownf_ptr {o off s j sz : Nat} {c : VC} : OwnFK P (.ptr o off) s j sz c st K = OwnFC P (nthO st.ob o) o (off + j) sz c st K := byRfl rfl
theorem ownf_cells {o i sz : Nat} {cs : List VV} {c : VC} : OwnFC P (.cells cs) o i sz c st K = OwnFE P cs[i]? o i sz cs c st K := byRfl rfl
theorem ownf_nils {o i sz : Nat} {cs : List VV} {c : VC} : OwnFE P (some .nils) o i sz cs c st K = Wp P c { st with ob := (st.ob ++ [Obj.tok 0 sz]).set o (.cells (cs.set i (.sl [] (st.ob.length + 2)))) } K := byRfl rfl

def RfnK (P : Program) (v : VV) (nt : Nat) (ps : List Nat) (a b : VC) (st : St) (K : Ex → St → Prop) : Prop := match fnOf v with
  | some (g, cap) => ImpC P g ((VV.yld (st.ob.length + 1) :: cap).map VV.strip) (st.ob ++ [.dfr] ++ [.loop nt st.env ps a b 0 .nrm]) fun r ob2 => EndL st K ob2
  | none => False
theorem e_rfn {nest : Bool} {nt : Nat} {f : Opd} {ps : List Nat} {a b : VC} : Wp P (.rfn nest nt f ps a b) st K = RfnK P (f.ev st.env) nt ps a b st K := byRfl rfl
theorem rfn_fn {g : Nat} {cap : List VV} {nt : Nat} {ps : List Nat} {a b : VC} : RfnK P (.fn g cap) nt ps a b st K = ImpC P g ((VV.yld (st.ob.length + 1) :: cap).map VV.strip) (st.ob ++ [.dfr] ++ [.loop nt st.env ps a b 0 .nrm]) fun r ob2 => EndL st K ob2 := byRfl rfl
theorem callvW_yld {o : Nat} {args args' : List VV} {own : Option (Option Nat × Nat)} {d : Option Nat} {k : St → Prop} {v : VV} {ob1 : List Obj} (h : YldC P o args' st.ob fun r o => r = v ∧ o = ob1) (ha : args.map VV.strip = args') (hn : args.all VV.noTup = true) (hk : k { st with env := putD st.env d v, ob := ob1 }) : CallvW P (.yld o) args own d st k := by
  subst ha
  refine ⟨hn, h.mono ?_⟩
  rintro r o ⟨rfl, rfl⟩
  exact hk
end
attribute [go_sem] ownf_sl ownf_dead e_ownf ownf_ptr ownf_cells ownf_nils e_rfn rfn_fn
end Go.V
namespace Go.V
open Go.RowKit
def nextN {α : Type} (s : List Nat) (base : Nat) (marks : List Nat) (pu : Bool) (good : α → Prop) (m : α → Nat) (E : α → List (Nat × VV)) (O : α → List Obj) (a : α) (st : St) : Prop :=
  ∃ a', good a' ∧ m a' < m a ∧ keepE st.env s = E a' ∧ st.ob = O a' ∧ st.base = base ∧ st.marks = marks ∧ st.pure = pu
/-- a loop that keeps all its objects -/
theorem v_forN {P : Program} {c : VC} {K : Ex → St → Prop} {s : List Nat} {α : Type} {base : Nat} {marks : List Nat} {pu : Bool} (good : α → Prop) (m : α → Nat) (E : α → List (Nat × VV)) (O : α → List Obj)
    (h : ∀ a, good a → Wp P c ⟨⟨E a, O a⟩, base, marks, pu⟩ (loopK K (nextN s base marks pu good m E O a))) :
    ∀ a st, good a → keepE st.env s = E a → st.ob = O a → st.base = base → st.marks = marks → st.pure = pu → Wp P (.loop (.drop s none c)) st K := by
  intro a st g h1 h2 h3 h4 h5
  refine v_loop (fun a st => good a ∧ keepE st.env s = E a ∧ st.ob = O a ∧ st.base = base ∧ st.marks = marks ∧ st.pure = pu) m ?_ a st ⟨g, h1, h2, h3, h4, h5⟩
  rintro a ⟨⟨env, ob⟩, base', marks', pu'⟩ ⟨g, h1, rfl, rfl, rfl, rfl⟩
  simp only at h1 h ⊢
  show Wp P c ⟨⟨keepE env s, O a⟩, base', marks', pu'⟩ _
  rw [h1]
  refine wp_mono _ _ _ (fun e s' hs => ?_) (h a g)
  cases e with
  | nrm => obtain ⟨a', q1, q2, q3, q4, q5, q6, q7⟩ := hs; exact ⟨a', ⟨q1, q3, q4, q5, q6, q7⟩, q2⟩
  | ext id => exact hs
  | ret => exact hs
end Go.V
namespace Go.V
/-- a bound of a slicing -/
def boundV (y : Nat) (v : VV) : Option Nat := match v with
  | .int _ i => if 0 ≤ i ∧ i ≤ (y : Int) then some i.toNat else none
  | _ => none
theorem bound_eq {env : List (Nat × VV)} {y : Nat} {x : Opd} : bound env y x = boundV y (x.ev env) := byRfl rfl
theorem bo_none {env : List (Nat × VV)} {y d : Nat} : bo env y d none = some d := byRfl rfl
theorem bo_some {env : List (Nat × VV)} {y d : Nat} {x : Opd} : bo env y d (some x) = boundV y (x.ev env) := byRfl rfl
theorem bnd {y a : Nat} {k : IntKind} (h : a ≤ y) : boundV y (.int k (a : Int)) = some a := by
  simp [boundV]; omega
theorem bnd_lit {y a : Nat} {k : IntKind} {i : Int} (e : i = (a : Int)) (h : a ≤ y) : boundV y (.int k i) = some a := by
  subst e; exact bnd h
theorem bnd0 {y : Nat} {k : IntKind} : boundV y (.int k 0) = some 0 := bnd_lit rfl (Nat.zero_le _)
theorem bnd1 {y : Nat} {k : IntKind} : boundV (y + 1) (.int k 1) = some 1 := bnd_lit rfl (by omega)
theorem bnd2 {y : Nat} {k : IntKind} : boundV (y + 1 + 1) (.int k 2) = some 2 := bnd_lit rfl (by omega)
theorem bnd3 {y : Nat} {k : IntKind} : boundV (y + 1 + 1 + 1) (.int k 3) = some 3 := bnd_lit rfl (by omega)
theorem bnds {y : Nat} {k : IntKind} : boundV y (.int k (y : Int)) = some y := bnd (Nat.le_refl _)
attribute [go_sem] bo_none bo_some bnd0 bnd1 bnd2 bnd3 bnds Option.bind_some Option.isSome_none Option.isNone_none Option.isSome_some Option.isNone_some List.take_length List.drop_zero false_and and_false or_self
end Go.V
namespace Go.V
theorem cast0 : ((0 : Nat) : Int) = 0 := byRfl rfl
theorem cast1 : ((1 : Nat) : Int) = 1 := byRfl rfl
theorem dgt2 {n : Nat} : decide (((n + 1 + 1 + 1 : Nat) : Int) > 2) = true := decide_eq_true (by omega)
theorem dgt0 {n : Nat} : decide (((n + 1 : Nat) : Int) > 0) = true := decide_eq_true (by omega)
attribute [go_sem] cast0 cast1 Int.reduceGT Int.reduceGE decide_false dgt2 dgt0
end Go.V
namespace Go.V
open Go.RowKit
section
variable {α : Type} {P : Program} {K : Ex → St → Prop} {slots : List Nat} {base : Nat} {marks : List Nat} {pu : Bool} {good : α → Prop} {E : α → List (Nat × VV)} {O : α → List Obj} {st : St} {c : VC}
theorem join_onB {id : Nat} (h : ∀ x, good x → Wp P c ⟨⟨E x, O x⟩, base, marks, pu⟩ K) : ∀ e s, contB id (joinK K slots base marks pu good E O) e s → contB id (contS P (.drop slots none c) K) e s := by
  intro e s hs
  cases e with
  | nrm => exact join_on h .nrm s hs
  | ext j =>
    simp only [contB_ext] at hs ⊢
    by_cases q : j = id
    · rw [if_pos q] at hs ⊢; exact join_on h .nrm s hs
    · rw [if_neg q] at hs ⊢; exact hs
  | ret => exact hs
theorem if_cutB {t : Bool} {a b : VC} {id : Nat} (good : α → Prop) (E : α → List (Nat × VV)) (O : α → List Obj) (h1 : t = true → Wp P a st (contB id (joinK K slots base marks pu good E O))) (h2 : t = false → Wp P b st (contB id (joinK K slots base marks pu good E O)))
    (h : ∀ x, good x → Wp P c ⟨⟨E x, O x⟩, base, marks, pu⟩ K) : CondK P (.bool t) a b st (contB id (contS P (.drop slots none c) K)) :=
  ⟨fun e => wp_mono _ _ _ (join_onB h) (h1 e), fun e => wp_mono _ _ _ (join_onB h) (h2 e)⟩
theorem g_cutB {gv : VV} {b : Bool} {d : Option Nat} {o : VOp} {r : List VI} {id : Nat} (good : α → Prop) (E : α → List (Nat × VV)) (O : α → List Obj) (h1 : GuardW P gv b d o st (opsK P r (nrmK (contB id (joinK K slots base marks pu good E O)))))
    (h : ∀ x, good x → Wp P c ⟨⟨E x, O x⟩, base, marks, pu⟩ K) : GuardW P gv b d o st (opsK P r (nrmK (contB id (contS P (.drop slots none c) K)))) := by
  have m : ∀ s, opsK P r (nrmK (contB id (joinK K slots base marks pu good E O))) s → opsK P r (nrmK (contB id (contS P (.drop slots none c) K))) s := fun s hs => ops_mono (fun s h' => join_onB h _ _ h') r s hs
  unfold GuardW at h1 ⊢
  split at h1
  · exact h1
  · exact m _ h1
  · exact opW_mono m h1
end
end Go.V
namespace Go.V
theorem idsL_map {α : Type} {f : α → VV} {n : Nat} {l : List α} (h : ∀ a, (f a).ids n = true) : idsL n (l.map f) = true :=
  idsL_of fun v hv => by obtain ⟨a, _, rfl⟩ := List.mem_map.1 hv; exact h a
theorem idsL_bools {n : Nat} {l : List Bool} : idsL n (l.map VV.bool) = true := idsL_map fun _ => rfl
theorem idsL_ints {n : Nat} {k : IntKind} {l : List Int} : idsL n (l.map (VV.int k)) = true := idsL_map fun _ => rfl
theorem idsL_strs {n : Nat} {l : List (List UInt8)} : idsL n (l.map VV.str) = true := idsL_map fun _ => rfl
attribute [go_sem] idsL_bools idsL_ints idsL_strs
end Go.V
namespace Go.Proofs
open Go.V Go.RowKit
theorem get_bool {l : List Bool} {i : Nat} (h : i < l.length) : (l.map VV.bool)[i]? = some (.bool (l.getD i false)) := by
  simp [h, List.getD_eq_getElem?_getD]
theorem get_byte {s : List UInt8} {i : Nat} (h : i < s.length) : s[i]? = some (s.getD i 0) := by
  simp [h, List.getD_eq_getElem?_getD]
theorem wrap_pred {m : Nat} (h : m < 2 ^ 63) : IntKind.i64.wrap (((m + 1 : Nat) : Int) - 1) = (m : Int) := by
  have e : (((m + 1 : Nat) : Int) - 1) = (m : Int) := by omega
  rw [e, wrap_nat h]
end Go.Proofs
attribute [go_sem] Nat.mul_one Nat.zero_add Nat.zero_mul Nat.one_mul
namespace Go.Proofs
theorem wrap1 : IntKind.i64.wrap 1 = 1 := wrap_nat (n := 1) (by decide)
attribute [go_sem] wrap1
end Go.Proofs
namespace Go.V
theorem endI_nrm {vf : VF} {pu : Bool} {n : Nat} {R : VV → List Obj → Prop} {env : List (Nat × VV)} {ob : List Obj} (m : Nat) (r : VV) (h1 : n ≤ m) (h2 : m ≤ ob.length) (h3 : (ob.take m).all (Obj.idsB m) = true) (h4 : (resOfL ⟨env, ob⟩ vf.results).bind outI = some r) (h5 : r.ids m = true) (h6 : R r (ob.take m)) :
    EndI vf n R .nrm ⟨⟨env, ob⟩, n, [], pu⟩ := ⟨trivial, rfl, ob, m, r, rfl, h1, h2, h3, h4, h5, h6⟩
attribute [go_sem] ow_callv od_callv callvW_fn callvD_fn
end Go.V
attribute [go_sem] Option.getD_some Option.getD_none
namespace Go.V
theorem cn_str {s : List UInt8} : (VV.str s).canon = true := byRfl rfl
theorem cn_int {k : IntKind} {n : Int} : (VV.int k n).canon = true := byRfl rfl
theorem cn_bool {b : Bool} : (VV.bool b).canon = true := byRfl rfl
theorem cn_sl {l : List VV} : (VV.sl l 0).canon = true := byRfl rfl
attribute [go_sem] cn_str cn_int cn_bool cn_sl nh_ptr nh_int nh_bool nh_str nh_sl nh_fn nh_mp nh_yld Bool.and_self Bool.and_true
end Go.V
namespace Go.V
open Go.RowKit
theorem callW_own {P : Program} {st : St} {k : St → Prop} {d : Option Nat} {f sz : Nat} {args args' es : List VV} (hp : PureC P f args' (.sl es 1)) (ha : args.map VV.strip = args') (hi : args'.all (fun v => v.ids 0 && v.noTup) = true) (hs : hdSz es (sz + 1) = true)
    (hk : k { st with env := putD st.env d (.sl es (st.ob.length + 2)), ob := st.ob ++ [.tok es.length (sz + 1)] }) : CallW P f args (some (none, sz + 1)) d st k := by
  subst ha
  refine Or.inl ⟨hi, _, hp, ?_⟩
  have : takeR (some (none, sz + 1)) st.ob (.sl es 1) = some (.sl es (st.ob.length + 2), st.ob ++ [.tok es.length (sz + 1)]) := by
    simp only [takeR, freshOf, hs, adoptV, setTok, true_and, Nat.zero_lt_succ, if_true]
  rw [this]
  exact hk
theorem picks_perm {α : Type} : ∀ {l : List α} {p : α × List α}, p ∈ picks l → l.Perm (p.1 :: p.2)
  | [], p, h => by simp [picks] at h
  | x :: r, p, h => by
    simp only [picks, List.mem_cons, List.mem_map] at h
    rcases h with rfl | ⟨q, hq, rfl⟩
    · exact List.Perm.refl _
    · exact ((picks_perm hq).cons x).trans (List.Perm.swap _ _ _)
end Go.V
namespace Go.V
theorem picks_map {α β : Type} (f : α → β) : ∀ l : List α, picks (l.map f) = (picks l).map fun p => (f p.1, p.2.map f)
  | [] => rfl
  | x :: r => by
    simp only [List.map_cons, picks, picks_map f r, List.map_map]
    rfl
end Go.V
