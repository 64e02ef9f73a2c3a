/- V, part 24: the contract of a function that is handed objects. -/
import Derived.Test.YtfhkgkijljfcfaaV23
set_option linter.unusedVariables false
set_option linter.unusedSimpArgs false
namespace Go.V
open Go.RowKit

def outI (vs : List VV) : Option VV :=
  if vs.all VV.noTup then match vs with
    | [v] => some v.strip
    | vs => some (.tup (vs.map VV.strip))
  else none

/-- what is asked at a function's end -/
def EndI (vf : VF) (n : Nat) (R : VV → List Obj → Prop) (e : Ex) (st : St) : Prop :=
  (match e with | .ext _ => False | _ => True) ∧ st.base = n ∧ ∃ ob' m r, closeM st.marks st.ob = some ob' ∧ n ≤ m ∧ m ≤ ob'.length ∧ (ob'.take m).all (Obj.idsB m) = true ∧ (resOfL ⟨st.env, ob'⟩ vf.results).bind outI = some r ∧ r.ids m = true ∧ R r (ob'.take m)

def FnI (P : Program) (vf : VF) (args : List VV) (ob : List Obj) (R : VV → List Obj → Prop) : Prop :=
  Wp P vf.body { env := envA 0 args, ob := ob, base := ob.length } (EndI vf ob.length R)

section
variable {P : Program} {B : Nat} {w0 w1 : W0} {g : Gh} {nt : Nat} {D : List Deferred} {a : Act} {w : World} {st : St} {ob : List Obj}

theorem HInv.rekeep (H : HInv B w0 ob g w) (h1 : w1.w = w0.w) (h2 : w1.F = w0.F) (h3 : w1.cm = w0.cm) : HInv B w1 ob g w :=
  ⟨by rw [h1]; exact H.below, H.hB, H.fz, by rw [h2]; exact H.f0, by rw [h3]; exact H.c0, H.tbl, H.kbl, H.inj, H.injk, H.apart, H.obs⟩

theorem GV.tupS {vs : List VV} {xs : List Value} (h : GVL B ob g w vs xs) (hn : vs.all VV.noTup = true) : GV B ob g w (.tup (vs.map VV.strip)) (.tuple xs.toArray) := by
  obtain ⟨hl, hg⟩ := h
  rw [List.all_eq_true] at hn
  refine ⟨.tup (by simp [hl]) ?_ fun j hj => ?_, ?_, ?_⟩
  · rw [List.all_eq_true]
    intro u hu
    obtain ⟨q, hq, rfl⟩ := List.mem_map.1 hu
    have := hn q hq
    revert this
    cases q <;> simp [VV.strip, VV.strip0, VV.noTup]
  · have hj' : j < vs.length := by simpa using hj
    have := strip_rep (hg j hj' (by omega)).rep
    simpa using this
  · intro j v y hv hy
    simp only [List.getElem?_map, Option.map_eq_some_iff] at hv
    obtain ⟨q, hq, rfl⟩ := hv
    have hnq := hn q (List.mem_of_getElem? hq)
    have hs := strip_hnd (B := B) (ob := ob) (g := g) (w := w) q y hnq
    refine ⟨?_, fun ds ys e1 e2 k u z hu hz => ?_⟩
    · revert hs
      generalize q.strip = p
      cases p with
      | agg cs => intro _; trivial
      | tup cs => intro _; trivial
      | sl es t => intro h; exact Hnd.sl.1 h
      | _ => intro _; trivial
    · rw [e1, e2] at hs
      exact hs k u z hu hz
  · simp only [VV.ids]
    refine idsL_of fun u hu => ?_
    obtain ⟨q, hq, rfl⟩ := List.mem_map.1 hu
    obtain ⟨j, hj, rfl⟩ := List.getElem_of_mem hq
    exact strip_ids (hg j hj (by omega)).ids

theorem outI_ok {vs : List VV} {xs : List Value} (h : GVL B ob g w vs xs) {r : VV} (ho : outI vs = some r) : GV B ob g w r (resVal xs) := by
  unfold outI at ho
  split at ho
  · rename_i hn
    split at ho
    · rename_i v
      cases ho
      obtain ⟨x, rfl⟩ := List.length_eq_one_iff.1 (h.1.trans rfl)
      rw [List.all_eq_true] at hn
      exact GV.strip (hn v (by simp)) (h.2 0 (by simp) (by simp))
    · rename_i hno
      cases ho
      have e : resVal xs = .tuple xs.toArray := by
        unfold resVal
        rw [dif_neg]
        intro q
        rw [h.1] at q
        obtain ⟨v, rfl⟩ := List.length_eq_one_iff.1 q
        exact hno v rfl
      rw [e]
      exact GV.tupS h hn
  · cases ho

/-- A FUNCTION'S CONTRACT, of objects. -/
theorem imp_of_wp {f : Nat} {vf : VF} (hm : mFn P f vf = true) {args : List VV} (hl : args.length = vf.params) {R : VV → List Obj → Prop} (h : FnI P vf args ob R) : ImpC P f args ob R := by
  simp only [mFn, Bool.and_eq_true] at hm
  obtain ⟨hok, hm⟩ := hm
  refine ⟨hok, fun B w0 g w vals hcm H hsz hrep => ?_⟩
  split at hm
  · rename_i fn hf
    simp only [Bool.and_eq_true, beq_iff_eq, decide_eq_true_eq] at hm
    obtain ⟨⟨⟨hnt, hpar⟩, hres⟩, hbody⟩ := hm
    split at hbody
    · rename_i c hb
      refine callsIn_of_wp_marks hf hb trivial ?_
      let w1 : W0 := { w := w0.w, F := w0.F, keep := fun v x => GV B ob g w v x, cm := w0.cm }
      have S : SInv B w1 { env := envA 0 args, ob := ob, base := ob.length } g vf.ntmps [] { tmps := vals ++ Array.replicate (fn.ntmps - vals.size) Go.undef, defers := [] } w := by
        refine ⟨H.rekeep rfl rfl rfl, fun s => ?_, by simp; omega, rfl, fun v x h => ⟨h, h.ids⟩⟩
        rw [get_envA]
        simp only [Nat.zero_le, if_true, Nat.sub_zero]
        by_cases hs : s < args.length
        · have hs' : s < vals.size := by omega
          have e1 : (args[s]?).getD .dead = args[s] := by simp [hs]
          have e2 : (vals ++ Array.replicate (fn.ntmps - vals.size) Go.undef).getD s Go.undef = vals[s] := by simp [Array.getElem?_append, hs']
          rw [e1, e2]
          exact hrep s hs hs'
        · have e1 : (args[s]?).getD .dead = .dead := by simp [List.getElem?_eq_none (by omega : args.length ≤ s)]
          rw [e1]; exact GV.dead
      refine wp_sound (w0 := w1) hcm (ro := none) rfl vf.body c _ g _ w _ _ hbody S h ?_
      rintro e st' g' a' w' ⟨he, hbase, ob', m, r, hcl, hnm, hlen, hall, hout, hids, hR⟩ S'
      have hpost : LeavesInM Fence.wide 0 P fn a'.tmps (fun e w' => ∃ x g'' r ob', e = .returned x ∧ R r ob' ∧ HInv B w0 ob' g'' w' ∧ GV B ob' g'' w' r x ∧ Pres B ob g w ob' g'' w') a'.defers .returning w' := by
        obtain ⟨w2, S2, _, hl2⟩ := S'.closed (P := P) (F := Fence.wide) (fn := fn) (R := fun e w' => ∃ x g'' r ob', e = .returned x ∧ R r ob' ∧ HInv B w0 ob' g'' w' ∧ GV B ob' g'' w' r x ∧ Pres B ob g w ob' g'' w') hcl
        refine hl2 ?_
        cases hvs : resOfL ⟨st'.env, ob'⟩ vf.results with
        | none => rw [hvs] at hout; cases hout
        | some vs =>
          rw [hvs] at hout
          obtain ⟨xs, hrun, hgl⟩ := results_run S2 hres hvs
          refine ⟨_, results_val hrun, _, ghCut g' m, r, ob'.take m, rfl, hR, (S2.H.cut hlen hall).rekeep rfl rfl rfl, (outI_ok hgl hout).cut hlen hids, fun v x hv => ?_⟩
          obtain ⟨q1, q2⟩ := S2.k v x hv
          simp only at q2
          rw [hbase] at q2
          exact q1.cut hlen ((ids_mono hnm).1 v q2)
      cases e with
      | nrm => exact hpost
      | ext id => exact he.elim
      | ret => exact hpost
    · cases hbody
  · cases hm

/-! ### A round -/
def bindP : List Nat → List VV → List (Nat × VV) → List (Nat × VV)
  | p :: r, v :: s, env => bindP r s (put env p v)
  | _, _, env => env

def setSt (ob : List Obj) (o s : Nat) (pend : Ex) : Option (List Obj) := match nthO ob o with
  | .loop nt env ps a b _ _ => some (ob.set o (.loop nt env ps a b s pend))
  | _ => none

def setBusy (ob : List Obj) (o : Nat) : Option (List Obj) := match nthO ob o with
  | .loop nt env ps a b 0 pend => some (ob.set o (.loop nt env ps a b 1 pend))
  | _ => none

/-- what is asked at a round's end -/
def EndR (o n : Nat) (R : VV → List Obj → Prop) (e : Ex) (st : St) : Prop :=
  st.base = n ∧ st.marks = [] ∧ ∃ ob' m, setSt st.ob o (if e = .nrm then 0 else 2) e = some ob' ∧ n ≤ m ∧ m ≤ ob'.length ∧ (ob'.take m).all (Obj.idsB m) = true ∧ R (.bool (decide (e = .nrm))) (ob'.take m)

def RndW (P : Program) (o : Nat) (args : List VV) (ob : List Obj) (R : VV → List Obj → Prop) : Prop :=
  match nthO ob o with
  | .loop nt env ps a b s _ => s = 0 ∧ ps.all (· < nt) = true ∧ args.length = ps.length ∧ Wp P a { env := bindP ps args env, ob := ob, base := ob.length } fun e st =>
      e = .nrm ∧ ∃ ob1, setBusy st.ob o = some ob1 ∧ Wp P b { st with ob := ob1 } (EndR o ob.length R)
  | _ => False

theorem bindP_S : ∀ {ps : List Nat} {args : List VV} {vals : List Value} {env : List (Nat × VV)} {tmps : Array Value}, ps.all (· < nt) = true → tmps.size = nt → args.length = ps.length → vals.length = args.length →
    (∀ j (h : j < args.length) (h' : j < vals.length), GV B ob g w args[j] vals[j]) → (∀ s, GV B ob g w (get env s) (tmps.getD s Go.undef)) →
    ((ps.zip vals).foldl (fun t (p : Nat × Value) => t.setIfInBounds p.1 p.2) tmps).size = nt ∧ ∀ s, GV B ob g w (get (bindP ps args env) s) (((ps.zip vals).foldl (fun t (p : Nat × Value) => t.setIfInBounds p.1 p.2) tmps).getD s Go.undef)
  | [], [], [], env, tmps, _, hn, _, _, _, he => ⟨hn, he⟩
  | p :: r, v :: s, x :: y, env, tmps, hp, hn, h1, h2, hv, he => by
    simp only [List.all_cons, Bool.and_eq_true, decide_eq_true_eq] at hp
    have h0 := hv 0 (by simp) (by simp)
    refine bindP_S (env := put env p v) (tmps := tmps.setIfInBounds p x) hp.2 (by simpa using hn) (by simpa using h1) (by simpa using h2) (fun j h h' => hv (j + 1) (by simpa using h) (by simpa using h')) fun q => ?_
    rw [get_put]
    by_cases e : q = p
    · subst e
      rw [if_pos rfl]
      have : (tmps.setIfInBounds q x).getD q Go.undef = x := by simp [hn, hp.1]
      rw [this]; exact h0
    · rw [if_neg e]
      have : (tmps.setIfInBounds p x).getD q Go.undef = tmps.getD q Go.undef := by
        simp [Array.getElem?_setIfInBounds_ne (fun z => e z.symm)]
      rw [this]; exact he q
  | [], _ :: _, _, _, _, _, _, h, _, _, _ => by simp at h
  | _ :: _, [], _, _, _, _, _, h, _, _, _ => by simp at h
  | [], [], _ :: _, _, _, _, _, _, h, _, _ => by simp at h
  | _ :: _, _ :: _, [], _, _, _, _, _, h, _, _ => by simp at h

theorem loop_at (S : SInv B w0 st g nt D a w) {o l n : Nat} {env : List (Nat × VV)} {ps : List Nat} {va vb : VC} {s : Nat} {pend : Ex} (ho : nthO st.ob o = .loop n env ps va vb s pend) (hy : GV B st.ob g w (.yld o) (.func (.yield l) #[] #[])) :
    ∃ r, g.tb o = some l ∧ B ≤ l ∧ g.F l = 0 ∧ w.heap[l]? = some (.loop r) ∧ r.tmps.size = n ∧ (∀ s, GV B st.ob g w (get env s) (r.tmps.getD s Go.undef)) ∧ r.params.toList = ps ∧ g.cm va n r.assign ∧ g.cm vb n r.body ∧ stOf s = some r.state ∧ r.pending = pendOf pend := by
  obtain ⟨_, blk, r, k1, k2⟩ := S.H.get ho (by simp)
  have := hy.rep
  cases this with
  | yld q => rw [k1] at q; cases q; exact ⟨r, k1, k2⟩

/-- the loop's record takes another state -/
theorem SInv.turn (S : SInv B w0 st g nt D a w) {o l n : Nat} {env : List (Nat × VV)} {ps : List Nat} {va vb : VC} {s s' : Nat} {pend pend' : Ex} (ho : nthO st.ob o = .loop n env ps va vb s pend) (hy : GV B st.ob g w (.yld o) (.func (.yield l) #[] #[]))
    {r : Loop} (hr : w.heap[l]? = some (.loop r)) {ls : LoopState} (hs : stOf s' = some ls) {pp : Option Code} (hpp : pp = pendOf pend') :
    SInv B w0 { st with ob := st.ob.set o (.loop n env ps va vb s' pend') } g nt D a (putAt w l (.loop { r with state := ls, pending := pp })) ∧ Pres B st.ob g w (st.ob.set o (.loop n env ps va vb s' pend')) g (putAt w l (.loop { r with state := ls, pending := pp })) := by
  obtain ⟨r', k1, k2, k3, k4, k5, k6, k7, k8, k9, k10, k11⟩ := loop_at S ho hy
  rw [hr] at k4; cases k4
  obtain ⟨H', p'⟩ := S.H.putO (X' := .loop n env ps va vb s' pend') (mo' := .loop { r with state := ls, pending := pp }) ho (by simp) (by simp) k1 hr k2 k3 (fun hp => ⟨l, _, k1, k2, k3, putAt_at hr, k5, fun q => hp _ _ (k6 q), k7, k8, k9, hs, hpp⟩)
  exact ⟨⟨H', fun q => p' _ _ (S.e q), S.n, S.d.pres p', fun v x h => ⟨p' _ _ (S.k v x h).1, (S.k v x h).2⟩⟩, p'⟩

end
end Go.V
