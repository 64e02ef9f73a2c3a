/- V, part 14: maps. -/
import Derived.Test.YtfhkgkijljfcfaaV13
import Derived.MapKept
set_option linter.unusedVariables false
set_option linter.unusedSimpArgs false
namespace Go.V
open Go.RowKit

def mapIs (P : Program) (t : TypeId) (ty : Ty) : Bool := match P.underlying t with | some (.map k _) => tyIs P k ty | _ => false
def mapZero (P : Program) (t : TypeId) (zero : VV) : Bool := match P.underlying t with
  | some (.map _ e) => zero.canon && (match P.info? e with | some i => (match i.zero with | some z => repC zero z | none => false) | none => false)
  | _ => false

section
variable {P : Program} {B : Nat} {w0 : W0} {ob : List Obj} {g : Gh} {w : World} {env : List (Nat × VV)} {ρ : Operand → Value}

theorem op_mkmap (H : HInv B w0 ob g w) {t : TypeId} : Out P B w0 ob g w (do pure (.value (← Instr.makeMap t none))) (.mp ob.length) (ob ++ [.map []]) := by
  obtain ⟨H', hp⟩ := H.push (.map #[] 0) (.map []) (by simp) ⟨w.heap.size, #[], 0, by simp, H.hB, H.fz _ (Nat.le_refl _), heap_alloc_at _ _, rfl, fun j hj => absurd hj (by simp)⟩
  exact ⟨.map (some w.heap.size), _, w.alloc (.map #[] 0), .inl (by simp [Instr.makeMap]), H', ⟨.mp (by simp), trivial, by simp [VV.ids]⟩, hp⟩

theorem check_sc {t : TypeId} {k : Kd} {u : VV} {x : Value} (ht : kdTy P k t = true) (e : Bool) (n : Nat) : (Instr.checkKey e (n + 1) t x).run P w = .ok () w := by
  unfold kdTy at ht
  cases hu : P.underlying t with
  | none => cases k <;> simp [hu] at ht
  | some d => cases k <;> cases d <;> simp [hu] at ht <;> simp [Instr.checkKey, run_underlying hu]

theorem check_run' {t : TypeId} {ty : Ty} {u : VV} {x : Value} (ht : tyIs P t ty = true) (hf : ty.fits u = true) (hx : GV B ob g w u x) (e : Bool) (M : Nat) (hM : ∀ (k : Kd) (t : TypeId) (x : Value), kdTy P k t = true → (Instr.checkKey e M t x).run P w = .ok () w) : (Instr.checkKey e (M + 1) t x).run P w = .ok () w := by
  cases ty with
  | sc k => exact check_sc (u := u) ht e M
  | st l =>
    cases u <;> simp only [Ty.fits, Bool.false_eq_true] at hf
    rename_i us
    obtain ⟨xs, rfl, _, hl, hx'⟩ := hx.agg_inv
    simp only [tyIs] at ht
    cases hu : P.underlying t with
    | none => simp [hu] at ht
    | some dd =>
      cases dd <;> simp only [hu, Bool.false_eq_true] at ht
      rename_i fs
      simp only [Bool.and_eq_true, Bool.not_eq_true'] at ht
      simp only [Instr.checkKey, Sem.run_bind, run_underlying hu, Result.andThen_ok]
      rw [← Array.forIn_toList]
      have hst := ht.1.1
      have hlen : ∀ (l : List Kd) (us : List VV), fitsL l us = true → l.length = us.length := by
        intro l
        induction l with
        | nil => intro us h; cases us <;> simp_all [fitsL]
        | cons a r ih =>
          intro us h
          cases us with
          | nil => simp [fitsL] at h
          | cons u us => simp only [fitsL, Bool.and_eq_true] at h; simp [ih us h.2]
      have hll := hlen l us hf
      clear ht hu hf hx'
      suffices h : ∀ (fs : List Field) (l : List Kd) (n : Nat), stTy P l fs n = true → n + l.length ≤ xs.size →
          (forIn fs PUnit.unit fun (f : Field) r => do
            if f.name ≠ "_" then do
              let __do_lift ← part f.type xs f.offset
              Instr.checkKey e M f.type __do_lift
              pure (ForInStep.yield PUnit.unit)
            else pure (ForInStep.yield PUnit.unit)).run P w = .ok PUnit.unit w by
        have := h fs.toList l 0 hst (by omega)
        simp at this ⊢
        rw [this]
        rfl
      intro fs
      induction fs with
      | nil => intro l n _ _; simp
      | cons f r ih =>
        intro l n h hn
        cases l with
        | nil => simp [stTy] at h
        | cons k l =>
          simp only [stTy, Bool.and_eq_true, bne_iff_ne, ne_eq, beq_iff_eq] at h
          obtain ⟨⟨⟨h1, h2⟩, h3⟩, h4⟩ := h
          simp only [List.length_cons] at hn
          have hlt : n < xs.size := by omega
          have hp : (part f.type xs f.offset).run P w = .ok xs[n] w := by
            unfold kdTy at h3
            cases hu : P.underlying f.type with
            | none => cases k <;> simp [hu] at h3
            | some dd => cases k <;> cases dd <;> simp [hu] at h3 <;> simp [part, isAgg, run_underlying hu, h2, hlt]
          have hc := hM k f.type xs[n] h3
          simp only [List.forIn_cons, ne_eq, h1, not_false_eq_true, if_true, Sem.run_bind, hp, Result.andThen_ok, hc, Sem.run_pure]
          exact ih l (n + 1) h4 (by omega)

theorem check_run {t : TypeId} {ty : Ty} {u : VV} {x : Value} (ht : tyIs P t ty = true) (hf : ty.fits u = true) (hx : GV B ob g w u x) (e : Bool) : (Instr.checkKey e 10000 t x).run P w = .ok () w :=
  check_run' ht hf hx e 9999 fun k t x h => check_sc (u := .dead) h e 9998

/-- The entries of a map, as V has them. -/
def Ents (w : World) (g : Gh) (es : List (VV × VV)) (arr : List MapEntry) : Prop :=
  arr.length = es.length ∧ ∀ (j : Nat) (h : j < es.length) (h' : j < arr.length), es[j].1.canon = true ∧ es[j].2.canon = true ∧ Rep w g.F g.tb es[j].1 arr[j].key ∧ Rep w g.F g.tb es[j].2 arr[j].val

theorem Ents.tail {e : VV × VV} {es : List (VV × VV)} {a : MapEntry} {arr : List MapEntry} (h : Ents w g (e :: es) (a :: arr)) : Ents w g es arr :=
  ⟨by have := h.1; simpa using this, fun j h1 h2 => h.2 (j + 1) (by simpa using h1) (by simpa using h2)⟩
theorem Ents.head {e : VV × VV} {es : List (VV × VV)} {a : MapEntry} {arr : List MapEntry} (h : Ents w g (e :: es) (a :: arr)) : e.1.canon = true ∧ e.2.canon = true ∧ Rep w g.F g.tb e.1 a.key ∧ Rep w g.F g.tb e.2 a.val :=
  h.2 0 (by simp) (by simp)

/-- where a key is -/
def midx (k : VV) : List (VV × VV) → Option (Option Nat)
  | [] => some none
  | (k', _) :: r => match eqV k k' with
    | some true => some (some 0)
    | some false => (midx k r).map (·.map (· + 1))
    | none => none

theorem findAsking_run {t : TypeId} {ty : Ty} {u : VV} {x : Value} (ht : tyIs P t ty = true) (hf : ty.fits u = true) (hx : GV B ob g w u x) : ∀ (es : List (VV × VV)) (arr : List MapEntry) (n : Nat) (r : Option Nat), Ents w g es arr → midx u es = some r →
    (Instr.findAsking t x arr n).run P w = .ok (r.bind fun i => (arr[i]?).map fun e => (n + i, e.val)) w
  | [], [], n, r, _, h => by simp [midx] at h; subst h; simp [Instr.findAsking]
  | [], _ :: _, _, _, he, _ => by have := he.1; simp at this
  | _ :: _, [], _, _, he, _ => by have := he.1; simp at this
  | (k', v') :: es, a :: arr, n, r, he, h => by
    obtain ⟨c1, c2, r1, r2⟩ := he.head
    simp only [midx] at h
    cases hq : eqV u k' with
    | none => simp [hq] at h
    | some q =>
      have hrun := run_eqV (P := P) ht hf hx (GV.canon (B := B) (ob := ob) c1 r1) hq
      simp only [Instr.findAsking, Sem.run_bind, hrun, Result.andThen_ok]
      cases q with
      | true =>
        simp [hq] at h
        subst h
        simp
      | false =>
        simp only [hq, Option.map_eq_some_iff] at h
        obtain ⟨r', hr', rfl⟩ := h
        have ih := findAsking_run ht hf hx es arr (n + 1) r' he.tail hr'
        simp only [Bool.false_eq_true, if_false]
        rw [ih]
        cases r' with
        | none => rfl
        | some i => simp [Nat.add_assoc, Nat.add_comm 1 i]

theorem findNow_run {d : TypeDesc} {u : VV} {x : Value} (hx : GV B ob g w u x) : ∀ (es : List (VV × VV)) (arr : List MapEntry) (n : Nat) (r : Option Nat) (q : Option (Nat × Value)), Ents w g es arr → midx u es = some r →
    Instr.findNow d x arr n = some q → (∀ (k' : VV) (y : Value) (b b' : Bool), k'.canon = true → Rep w g.F g.tb k' y → Instr.sameNow d x y = some b → eqV u k' = some b' → b = b') →
    q = (r.bind fun i => (arr[i]?).map fun e => (n + i, e.val))
  | [], [], n, r, q, _, h, hq, _ => by simp [midx] at h; subst h; simp [Instr.findNow] at hq; subst hq; rfl
  | [], _ :: _, _, _, _, he, _, _, _ => by have := he.1; simp at this
  | _ :: _, [], _, _, _, he, _, _, _ => by have := he.1; simp at this
  | (k', v') :: es, a :: arr, n, r, q, he, h, hq, hs => by
    obtain ⟨c1, c2, r1, r2⟩ := he.head
    simp only [midx] at h
    simp only [Instr.findNow] at hq
    cases hv : eqV u k' with
    | none => simp [hv] at h
    | some b' =>
      cases hn : Instr.sameNow d x a.key with
      | none => simp [hn] at hq
      | some b =>
        have hbb := hs _ _ _ _ c1 r1 hn hv
        subst hbb
        cases b with
        | true =>
          simp [hv] at h
          simp [hn] at hq
          subst h hq
          simp
        | false =>
          simp only [hv, Option.map_eq_some_iff] at h
          simp only [hn] at hq
          obtain ⟨r', hr', rfl⟩ := h
          have ih := findNow_run hx es arr (n + 1) r' q he.tail hr' hq hs
          rw [ih]
          cases r' with
          | none => rfl
          | some i => simp [Nat.add_assoc, Nat.add_comm 1 i]

theorem sameNow_eq {d : TypeDesc} {u k' : VV} {x y : Value} {b b' : Bool} (hx : GV B ob g w u x) (hy : Rep w g.F g.tb k' y) (h : Instr.sameNow d x y = some b) (h' : eqV u k' = some b') : b = b' := by
  unfold eqV at h'
  split at h'
  · rename_i us vs
    obtain ⟨xs, rfl, _⟩ := hx.agg_inv
    cases d <;> simp [Instr.sameNow] at h
  · unfold eq0 at h'
    split at h'
    · split at h'
      · rename_i hk
        subst hk
        cases h'
        cases hy
        obtain rfl := hx.int_inv
        cases d <;> simp [Instr.sameNow] at h
        exact h.symm
      · cases h'
    · cases h'
      cases hy
      obtain rfl := hx.bool_inv
      cases d <;> simp [Instr.sameNow] at h
      exact h.symm
    · cases h'
      obtain ⟨s, rfl, rfl⟩ := hx.str_inv
      cases hy with
      | str he =>
        subst he
        cases d <;> simp [Instr.sameNow] at h
        rw [← h, beq_toListBytes, ByteArray.toList_eq, ByteArray.toList_eq]
    · cases h'

theorem findKey_run {t : TypeId} {ty : Ty} {u : VV} {x : Value} (ht : tyIs P t ty = true) (hf : ty.fits u = true) (hx : GV B ob g w u x) {es : List (VV × VV)} {arr : List MapEntry} {r : Option Nat} (he : Ents w g es arr) (h : midx u es = some r) :
    (Instr.findKey t x arr).run P w = .ok (r.bind fun i => (arr[i]?).map fun e => (i, e.val)) w := by
  have hu : ∃ d, P.underlying t = some d := by
    cases hu : P.underlying t with
    | none => cases ty with
      | sc k => cases k <;> simp [tyIs, kdTy, hu] at ht
      | st l => simp [tyIs, hu] at ht
    | some d => exact ⟨d, rfl⟩
  obtain ⟨d, hu⟩ := hu
  simp only [Instr.findKey, Sem.run_bind, run_underlying hu, Result.andThen_ok]
  cases hq : Instr.findNow d x arr 0 with
  | some q =>
    have := findNow_run hx es arr 0 r q he h hq (fun k' y b b' _ hy h1 h2 => sameNow_eq hx hy h1 h2)
    simp only [Sem.run_pure, this, Nat.zero_add]
  | none =>
    have := findAsking_run (P := P) ht hf hx es arr 0 r he h
    simpa using this

theorem mfind_idx : ∀ {k : VV} {es : List (VV × VV)} {r : Option VV}, mfind k es = some r → ∃ i, midx k es = some i ∧ r = i.bind fun j => (es[j]?).map (·.2)
  | k, [], r, h => by simp [mfind] at h; subst h; exact ⟨none, rfl, rfl⟩
  | k, (k', v) :: es, r, h => by
    simp only [mfind] at h
    cases hq : eqV k k' with
    | none => simp [hq] at h
    | some q =>
      cases q with
      | true => simp [hq] at h; subst h; exact ⟨some 0, by simp [midx, hq], by simp⟩
      | false =>
        simp only [hq] at h
        obtain ⟨i, h1, h2⟩ := mfind_idx h
        refine ⟨i.map (· + 1), by simp [midx, hq, h1], ?_⟩
        cases i <;> simp [h2]

theorem mput_idx : ∀ {k v : VV} {es es' : List (VV × VV)}, mput k v es = some es' → ∃ i, midx k es = some i ∧ match i with
    | none => es' = es ++ [(k, v)]
    | some j => j < es.length ∧ es' = es.set j (k, v) ∧ ∃ h : j < es.length, eqV k es[j].1 = some true
  | k, v, [], es', h => by simp [mput] at h; subst h; exact ⟨none, rfl, rfl⟩
  | k, v, (k', u) :: es, es', h => by
    simp only [mput] at h
    cases hq : eqV k k' with
    | none => simp [hq] at h
    | some q =>
      cases q with
      | true => simp [hq] at h; subst h; exact ⟨some 0, by simp [midx, hq], by simp [hq]⟩
      | false =>
        simp only [hq, Option.map_eq_some_iff] at h
        obtain ⟨es1, h1, rfl⟩ := h
        obtain ⟨i, h2, h3⟩ := mput_idx h1
        refine ⟨i.map (· + 1), by simp [midx, hq, h2], ?_⟩
        cases i with
        | none => simp at h3 ⊢; exact h3
        | some j => simp at h3 ⊢; exact ⟨h3.1, h3.2.1, h3.2.2⟩

theorem mrem_idx : ∀ {k : VV} {es es' : List (VV × VV)}, mrem k es = some es' → ∃ i, midx k es = some i ∧ match i with
    | none => es' = es
    | some j => j < es.length ∧ es' = es.eraseIdx j
  | k, [], es', h => by simp [mrem] at h; subst h; exact ⟨none, rfl, rfl⟩
  | k, (k', u) :: es, es', h => by
    simp only [mrem] at h
    cases hq : eqV k k' with
    | none => simp [hq] at h
    | some q =>
      cases q with
      | true => simp [hq] at h; subst h; exact ⟨some 0, by simp [midx, hq], by simp⟩
      | false =>
        simp only [hq, Option.map_eq_some_iff] at h
        obtain ⟨es1, h1, rfl⟩ := h
        obtain ⟨i, h2, h3⟩ := mrem_idx h1
        refine ⟨i.map (· + 1), by simp [midx, hq, h2], ?_⟩
        cases i with
        | none => simp at h3 ⊢; exact h3
        | some j => simp at h3 ⊢; exact h3

theorem op_lkp (H : HInv B w0 ob g w) (R : Reads B ob g w env ρ) {ty : Ty} {zero : VV} {ok : Bool} {m k : Opd} {m' k' : Operand} {t : TypeId} (hm : mO m m' = true) (hk : mO k k' = true) (ht : mapIs P t ty = true) (hz : mapZero P t zero = true) {v : VV}
    (hv : (VOp.lkp ty zero ok m k).ev ⟨env, ob⟩ = some (v, ob)) : Out P B w0 ob g w (do pure (.value (← Instr.lookup t (ρ m') (ρ k') ok))) v ob := by
  have h1 := R.opd hm
  have h2 := R.opd hk
  unfold mapIs at ht
  unfold mapZero at hz
  cases hu : P.underlying t with
  | none => simp [hu] at ht
  | some d =>
  cases d <;> simp only [hu, Bool.false_eq_true] at ht hz
  rename_i kt et
  simp only [Bool.and_eq_true] at hz
  obtain ⟨hzc, hzz⟩ := hz
  cases hi : P.info? et with
  | none => simp [hi] at hzz
  | some i =>
  simp only [hi] at hzz
  cases hiz : i.zero with
  | none => simp [hiz] at hzz
  | some z =>
  simp only [hiz] at hzz
  have hzero : (zeroValue et).run P w = .ok z w := by simp [zeroValue, typeInfo, hi, hiz]
  simp only [VOp.ev] at hv
  split at hv
  · cases hv
  rename_i hfits
  have hfits : ty.fits (k.ev env) = true := by cases q : ty.fits (k.ev env) with | true => rfl | false => rw [q] at hfits; exact absurd rfl hfits
  split at hv
  · cases hv
  rename_i r hr
  simp only [Option.some.injEq, Prod.mk.injEq, and_true] at hv
  subst hv
  have hmz : GV B ob g w zero z := GV.const hzz
  have fin : ∀ (x : Value), (r.getD zero).canon = true → Rep w g.F g.tb (r.getD zero) x → (Instr.lookup t (ρ m') (ρ k') ok).run P w = .ok (if ok then .tuple #[x, .bool r.isSome] else x) w → Out P B w0 ob g w (do pure (.value (← Instr.lookup t (ρ m') (ρ k') ok))) (if ok then .tup [r.getD zero, .bool r.isSome] else r.getD zero) ob := by
    intro x hc hx hrun
    refine Out.quiet H (x := if ok then .tuple #[x, .bool r.isSome] else x) (by simp only [Sem.run_bind, hrun, Result.andThen_ok, Sem.run_pure]) ?_
    have hg : GV B ob g w (r.getD zero) x := GV.canon hc hx
    cases ok with
    | false => exact hg
    | true =>
      simp only [if_true]
      have hnt : (r.getD zero).noTup = true := by
        revert hc
        cases r.getD zero <;> simp [VV.noTup, VV.canon, VV.canon0]
      refine ⟨.tup rfl (by simp only [List.all_cons, List.all_nil, hnt]; rfl) fun j hj => ?_, ?_, ?_⟩
      · match j, hj with
        | 0, _ => exact hx
        | 1, _ => exact .bool _
      · intro j v y hv hy
        match j, hv, hy with
        | 0, hv, hy =>
          simp at hv hy
          subst hv hy
          refine ⟨?_, fun ds ys e1 e2 q u y hu hy => ?_⟩
          · have := hg.hnd
            revert this hc
            cases r.getD zero with
            | sl es t => intro _ h; exact Hnd.sl.1 h
            | _ => intro _ _; trivial
          · rw [e1] at hc
            simp only [VV.canon, List.all_eq_true] at hc
            have := hc u (List.mem_of_getElem? hu)
            cases u <;> simp only [VV.canon0, Bool.false_eq_true, beq_iff_eq] at this <;> first | trivial | (subst this; trivial)
        | 1, hv, hy =>
          simp at hv hy
          subst hv hy
          exact ⟨trivial, fun ds ys e1 => by cases e1⟩
        | j + 2, hv, _ => simp at hv
      · have := canon_ids ob.length hc
        simp [VV.ids, idsL, this]
  split at hr
  · rename_i he
    cases hr
    rw [he] at h1
    have hrep := h1.rep
    revert hrep
    generalize hmm : ρ m' = y
    rw [hmm] at fin
    intro hrep
    cases hrep
    refine fin z hzc hmz.rep ?_
    simp only [Instr.lookup, Sem.run_bind, run_underlying hu, Result.andThen_ok, Sem.run_pure, check_run ht hfits h2, Instr.findKey]
    have hkt : ∃ d, P.underlying kt = some d := by
      cases hq : P.underlying kt with
      | none => cases ty with
        | sc k => cases k <;> simp [tyIs, kdTy, hq] at ht
        | st l => simp [tyIs, hq] at ht
      | some d => exact ⟨d, rfl⟩
    obtain ⟨dk, hkt⟩ := hkt
    simp [run_underlying hkt, Instr.findNow, hzero]
  · rename_i o he
    rw [he] at h1
    split at hr
    · rename_i es ho
      have hrep := h1.rep
      revert hrep
      generalize hmm : ρ m' = y
      rw [hmm] at fin
      intro hrep
      cases hrep with
      | @mp _ b htb =>
        obtain ⟨_, b', arr, clock, q1, q2, q3, q4, hsz, q5⟩ := H.get ho (by simp)
        rw [htb] at q1; cases q1
        obtain ⟨idx, hidx, hrr⟩ := mfind_idx hr
        have hents : Ents w g es arr.toList := ⟨by simpa using hsz, fun j h h' => by have := q5 j h; simpa using this⟩
        have hrun := findKey_run (P := P) ht hfits h2 hents hidx
        have hget : (getObj b).run P w = .ok (.map arr clock) w := by simp [getObj, Sem.run, q4]
        cases idx with
        | none =>
          simp at hrr; subst hrr
          refine fin z hzc hmz.rep ?_
          simp only [Option.bind_none] at hrun
          simp [Instr.lookup, run_underlying hu, hget, check_run ht hfits h2, hrun, hzero]
        | some j =>
          simp only [Option.bind_some] at hrr hrun
          have hj : j < es.length := by
            rcases Nat.lt_or_ge j es.length with q | q
            · exact q
            · exfalso
              have : ∀ {u : VV} {es : List (VV × VV)} {j : Nat}, midx u es = some (some j) → j < es.length := by
                intro u es
                induction es with
                | nil => intro j h; simp [midx] at h
                | cons e r ih =>
                  obtain ⟨a, b⟩ := e
                  intro j h
                  simp only [midx] at h
                  cases hq : eqV u a with
                  | none => simp [hq] at h
                  | some q =>
                    cases q with
                    | true => simp [hq] at h; subst h; simp
                    | false =>
                      simp only [hq, Option.map_eq_some_iff] at h
                      obtain ⟨i, h1, h2⟩ := h
                      cases i with
                      | none => simp at h2
                      | some i => simp at h2; subst h2; have := ih h1; simp; omega
              have := this hidx
              omega
          have hj' : j < arr.size := by omega
          obtain ⟨c1, c2, r1, r2⟩ := q5 j hj
          simp [hj] at hrr
          subst hrr
          refine fin arr[j].val c2 r2 ?_
          simp [hj'] at hrun
          simp [Instr.lookup, run_underlying hu, hget, check_run ht hfits h2, hrun]
    · cases hr
  · cases hr

end
end Go.V
