/- V, part 23: functions: a contract from what V says of the body. -/
import Derived.Test.YtfhkgkijljfcfaaV22
set_option linter.unusedVariables false
set_option linter.unusedSimpArgs false
namespace Go.V
open Go.RowKit

def mRes (P : Program) : List (Nat × Option Nat) → List ResultVar → Bool
  | [], [] => true
  | (t, none) :: r, .tmp u :: s => t == u && mRes P r s
  | (t, some n) :: r, .cell u ty :: s => t == u && varIs P ty n && mRes P r s
  | _, _ => false

def resOf (st : S0) : Nat × Option Nat → Option VV
  | (s, none) => some (get st.env s)
  | (s, some n) => match get st.env s with
    | .ptr o off => match nthO st.ob o with
      | .cells cs => loadV n cs off
      | _ => none
    | _ => none

def resOfL (st : S0) : List (Nat × Option Nat) → Option (List VV)
  | [] => some []
  | x :: r => match resOf st x, resOfL st r with
    | some v, some l => some (v :: l)
    | _, _ => none

def mFn (P : Program) (f : Nat) (vf : VF) : Bool :=
  callOk P f && match P.funcs[f]? with
  | some fn => fn.ntmps == vf.ntmps && vf.params ≤ vf.ntmps && mRes P vf.results fn.results.toList && match fn.body with
    | some c => mVC P vf.ntmps false vf.body c
    | none => false
  | none => false

def envA : Nat → List VV → List (Nat × VV)
  | _, [] => []
  | k, v :: r => (k, v) :: envA (k + 1) r

/-- the slice of a handle, told as fresh -/
def freshen (ob : List Obj) : VV → Option VV
  | .sl es (t + 2) => match nthO ob t with
    | .tok n _ => if es.length = n then some (.sl es 1) else none
    | _ => none
  | .nils => some (.sl [] 1)
  | _ => none

def outR (fresh : Option Nat) (ob : List Obj) (vs : List VV) : Option VV :=
  if vs.all VV.noTup then match vs, fresh with
    | [v], none => some v.strip
    | [v], some _ => freshen ob v
    | vs, none => some (.tup (vs.map VV.strip))
    | vs, some i => match vs[i]? with
      | some v => (freshen ob v).map fun u => .tup ((vs.map VV.strip).set i u)
      | none => none
  else none

def argOk (v : VV) : Bool := v.noHnd && v.ids 0

def FnW (P : Program) (vf : VF) (args : List VV) (r : VV) : Prop :=
  Wp P vf.body { env := envA 0 args, ob := [], base := 0 } fun e st => True ∧ (match e with | .ext _ => False | _ => True) ∧ ((closeM st.marks st.ob).bind fun ob' => (resOfL ⟨st.env, ob'⟩ vf.results).bind (outR vf.fresh ob')) = some r ∧ r.ids 0 = true

def resVal (xs : List Value) : Value := if h : xs.length = 1 then xs[0] else .tuple xs.toArray

section
variable {P : Program} {B : Nat} {w0 : W0} {g : Gh} {nt : Nat} {D : List Deferred} {a : Act} {w : World} {st : St} {ob : List Obj}

/-- values side by side -/
def GVL (B : Nat) (ob : List Obj) (g : Gh) (w : World) (vs : List VV) (xs : List Value) : Prop := xs.length = vs.length ∧ ∀ j (h : j < vs.length) (h' : j < xs.length), GV B ob g w vs[j] xs[j]

theorem cell_run (H : HInv B w0 ob g w) {s : VV} {x : Value} (hg : GV B ob g w s x) {n : Nat} {t : TypeId} (ht : varIs P t n = true) {o off : Nat} (he : s = .ptr o off) {cs : List VV} (ho : nthO ob o = .cells cs) {v : VV} (hl : loadV n cs off = some v) :
    ∃ y, (do loadVar t (← asAddr x) : Sem Value).run P w = .ok y w ∧ GV B ob g w v y := by
  subst he
  obtain ⟨hoff, _⟩ := loadV_inv hl
  obtain ⟨b, hx, htb⟩ := hg.ptr_inv
  obtain ⟨_, b', arr, ty, h1, h2, h3, h4, hsz, h5⟩ := H.get ho (by simp)
  rw [htb] at h1; cases h1
  have hcell : ∀ j (hj : j < cs.length), w.cell? ⟨b, j, none⟩ = some (arr[j]'(hsz ▸ hj)) := fun j hj => by simp [World.cell?, h4, hsz, hj]
  have hr := run_loadVar_vals (w := w) ht b off (fun j => arr.getD (off + j) Go.undef) fun j hj => by
    rw [hcell (off + j) (by omega)]; simp [hsz, show off + j < cs.length by omega]
  refine ⟨if n = 0 then arr.getD (off + 0) Go.undef else .agg ((List.range n).map fun j => arr.getD (off + j) Go.undef).toArray, ?_, ?_⟩
  · subst hx
    simp only [asAddr, Sem.run_bind, Sem.run_pure, Result.andThen_ok, hr]
  · have := GV.loadV (B := B) (ob := ob) (g := g) (w := w) hl (List.all_eq_true.2 fun u hu => by obtain ⟨j, hj, rfl⟩ := List.getElem_of_mem hu; exact (h5 j hj).1) (fun j => arr.getD j Go.undef)
      fun j hj => by have := (h5 j hj).2; simpa [hsz, hj] using this
    simpa using this

theorem results_run (S : SInv B w0 st g nt D a w) : ∀ {rs : List (Nat × Option Nat)} {l : List ResultVar} {vs : List VV}, mRes P rs l = true → resOfL st.toS0 rs = some vs →
    ∃ xs, (l.mapM (m := Sem) fun | .tmp t => pure (a.tmps.getD t Go.undef) | .cell q t => do loadVar t (← asAddr (a.tmps.getD q Go.undef))).run P w = .ok xs w ∧ GVL B st.ob g w vs xs
  | [], [], vs, _, h => by
    simp only [resOfL, Option.some.injEq] at h
    subst h
    exact ⟨[], by simp, rfl, fun j h => absurd h (by simp)⟩
  | x :: r, y :: s, vs, hm, h => by
    simp only [resOfL] at h
    split at h
    · rename_i v l hv hl
      cases h
      have one : mRes P r s = true ∧ ∃ z, ((match y with | .tmp t => pure (a.tmps.getD t Go.undef) | .cell q t => do loadVar t (← asAddr (a.tmps.getD q Go.undef))) : Sem Value).run P w = .ok z w ∧ GV B st.ob g w v z := by
        obtain ⟨q, o⟩ := x
        cases o with
        | none =>
          cases y with
          | tmp u =>
            simp only [mRes, Bool.and_eq_true, beq_iff_eq] at hm
            obtain ⟨rfl, hm⟩ := hm
            simp only [resOf, Option.some.injEq] at hv
            subst hv
            exact ⟨hm, _, by simp only [Sem.run_pure], S.e q⟩
          | cell u t => simp [mRes] at hm
        | some n =>
          cases y with
          | tmp u => simp [mRes] at hm
          | cell u t =>
            simp only [mRes, Bool.and_eq_true, beq_iff_eq] at hm
            obtain ⟨⟨rfl, ht⟩, hm⟩ := hm
            simp only [resOf] at hv
            split at hv
            · rename_i o off he
              split at hv
              · rename_i cs ho
                have := cell_run (P := P) S.H (S.e q) ht he ho hv
                exact ⟨hm, this⟩
              · cases hv
            · cases hv
      obtain ⟨hm', z, hz, hgz⟩ := one
      obtain ⟨xs, hxs, hlen, hg⟩ := results_run S hm' hl
      refine ⟨z :: xs, ?_, by simp [hlen], fun j h h' => ?_⟩
      · simp only [List.mapM_cons, Sem.run_bind, hz, Result.andThen_ok, hxs, Sem.run_pure]
      · cases j with
        | zero => exact hgz
        | succ j => exact hg j (by simpa using h) (by simpa using h')
    · cases h
  | [], _ :: _, _, h, _ => by simp [mRes] at h
  | (_, none) :: _, [], _, h, _ => by simp [mRes] at h
  | (_, some _) :: _, [], _, h, _ => by simp [mRes] at h

theorem results_val {fn : Func} {xs : List Value} {tmps : Array Value} (h : (fn.results.toList.mapM (m := Sem) fun | .tmp t => pure (tmps.getD t Go.undef) | .cell q t => do loadVar t (← asAddr (tmps.getD q Go.undef))).run P w = .ok xs w) :
    (results fn tmps).run P w = .ok (resVal xs) w := by
  unfold results
  have h2 : fn.results = fn.results.toList.toArray := by simp
  rw [h2]
  simp only [List.mapM_toArray, map_eq_pure_bind, bind_assoc, pure_bind, Sem.run_bind]
  refine (congrArg (fun r => Result.andThen r _) h).trans ?_
  simp only [Result.andThen_ok, Sem.run_pure]
  unfold resVal
  simp

theorem get_envA : ∀ (args : List VV) (k s : Nat), get (envA k args) s = if k ≤ s then (args[s - k]?).getD .dead else .dead
  | [], k, s => by simp [envA, get]
  | v :: r, k, s => by
    simp only [envA, get]
    by_cases e : k = s
    · subst e; simp
    · rw [if_neg e, get_envA r (k + 1) s]
      by_cases h : k ≤ s
      · rw [if_pos h, if_pos (by omega), show s - k = (s - (k + 1)) + 1 by omega, List.getElem?_cons_succ]
      · rw [if_neg h, if_neg (by omega)]

theorem rep_tok {F : Nat → Nat} {tb : Nat → Option Nat} {es : List VV} {t t' : Nat} {x : Value} (h : Rep w F tb (.sl es t) x) : Rep w F tb (.sl es t') x := by
  cases h with
  | slE => exact .slE
  | sl vals hne hcap hsz hc h hr hF => exact .sl vals hne hcap hsz hc h hr hF

theorem fresh_strip (v : VV) (n0 : Nat) (F : Nat → Nat) (x : Value) (h : v.noTup = true) : Fresh n0 w F v.strip x ∧ ∀ es, v.strip ≠ .sl es 1 := by
  cases v <;> first | exact ⟨trivial, fun es h => by simp [VV.strip, VV.strip0] at h⟩ | (simp [VV.noTup] at h)

theorem freshen_ok {v : VV} {x : Value} (H : GV B ob g w v x) {u : VV} (h : freshen ob v = some u) : Rep w g.F g.tb u x ∧ Fresh B w g.F u x ∧ ∃ es, u = .sl es 1 := by
  unfold freshen at h
  split at h
  · rename_i es t
    split at h
    · rename_i n sz ht
      split at h
      · rename_i hn
        cases h
        refine ⟨rep_tok H.rep, ?_, es, rfl⟩
        obtain ⟨m, sz', h1, h2, h3, h4, h5⟩ := Hnd.sl.1 H.hnd
        rw [ht] at h1; cases h1
        rcases h4 hn with ⟨a, rfl, rfl⟩ | ⟨b, o, cap, arr, ty, q1, rfl, q3, q4, q5, q6, q7, q8⟩
        · exact .inl ⟨a, rfl, List.eq_nil_of_length_eq_zero hn⟩
        · subst hn
          exact .inr ⟨b, o, cap, arr, ty, sz, rfl, q3, List.length_pos_iff.1 q8, q4, fun e he => by obtain ⟨j, hj, rfl⟩ := List.getElem_of_mem he; exact h5 j hj, q5, q6, q7⟩
      · cases h
    · cases h
  · cases h
    have hr := H.rep
    cases hr with
    | nils => exact ⟨.slE, .inl ⟨_, rfl, rfl⟩, [], rfl⟩
  · cases h

theorem rep_any {F : Nat → Nat} {tb tb' : Nat → Option Nat} {v : VV} {x : Value} (h : Rep w F tb v x) (hi : v.ids 0 = true) : Rep w F tb' v x :=
  h.mono (n := 0) (fun _ _ _ => rfl) (fun _ => Nat.le_refl _) (fun i b hi => absurd hi (by omega)) hi

theorem res_tup {xs : List Value} {us : List VV} {n0 : Nat} (hne : us.length ≠ 1) (hl : xs.length = us.length) (hr : ∀ j (h : j < us.length) (h' : j < xs.length), Rep w g.F g.tb us[j] xs[j] ∧ us[j].noTup = true ∧ Fresh n0 w g.F us[j] xs[j])
    (hu : ∀ (i j : Nat) (es es' : List VV), us[i]? = some (VV.sl es 1) → us[j]? = some (VV.sl es' 1) → i = j) (hi : VV.ids 0 (.tup us) = true) : ResR n0 w g.F (.tup us) (resVal xs) := by
  have e : resVal xs = .tuple xs.toArray := by unfold resVal; rw [dif_neg (by omega)]
  rw [e]
  refine ⟨fun tb => rep_any (tb := g.tb) (.tup (by simp [hl]) ?_ fun j hj => ?_) hi, hi, trivial, fun vs ys e1 e2 => ?_⟩
  · rw [List.all_eq_true]
    intro u hu
    obtain ⟨j, hj, rfl⟩ := List.getElem_of_mem hu
    exact (hr j hj (by omega)).2.1
  · simpa using (hr j hj (by omega)).1
  · cases e1; cases e2
    refine ⟨fun j v y hv hy => ?_, hu⟩
    obtain ⟨hj, rfl⟩ := List.getElem?_eq_some_iff.1 hv
    have hj' : j < xs.length := by omega
    simp [hj'] at hy
    subst hy
    exact (hr j hj hj').2.2

/-- The results, as data. -/
theorem out_ok {vs : List VV} {xs : List Value} (S : GVL B ob g w vs xs) {fresh : Option Nat} {r : VV} (h : outR fresh ob vs = some r) (hi : r.ids 0 = true) : ResR B w g.F r (resVal xs) := by
  obtain ⟨hlen, hgv⟩ := S
  unfold outR at h
  split at h
  · rename_i hnt
    rw [List.all_eq_true] at hnt
    have strip_ok : ∀ j (h : j < vs.length) (h' : j < xs.length), Rep w g.F g.tb vs[j].strip xs[j] ∧ vs[j].strip.noTup = true ∧ Fresh B w g.F vs[j].strip xs[j] := fun j h h' => by
      refine ⟨strip_rep (hgv j h h').rep, ?_, (fresh_strip _ _ _ _ (hnt _ (List.getElem_mem h))).1⟩
      have := hnt _ (List.getElem_mem h)
      revert this
      generalize vs[j] = v
      cases v <;> simp [VV.strip, VV.strip0, VV.noTup]
    split at h
    · rename_i v
      cases h
      obtain ⟨x, rfl⟩ := List.length_eq_one_iff.1 (hlen.trans rfl)
      have hx := strip_ok 0 (by simp) (by simp)
      simp only [List.getElem_cons_zero] at hx
      show ResR B w g.F v.strip x
      refine ⟨fun tb => rep_any hx.1 hi, hi, hx.2.2, fun vs xs e1 e2 => ?_⟩
      rw [e1] at hx
      simp [VV.noTup] at hx
    · rename_i v i
      obtain ⟨x, rfl⟩ := List.length_eq_one_iff.1 (hlen.trans rfl)
      obtain ⟨h1, h2, es, rfl⟩ := freshen_ok (hgv 0 (by simp) (by simp)) h
      exact ⟨fun tb => rep_any h1 hi, hi, h2, fun vs xs e => by cases e⟩
    · rename_i hno
      cases h
      refine res_tup (fun e => ?_) (by simpa using hlen) (fun j hj hj' => by simpa using strip_ok j (by simpa using hj) hj') (fun i j es es' h1 _ => ?_) hi
      · obtain ⟨t, rfl⟩ := List.length_eq_one_iff.1 (by simpa using e)
        exact hno _ rfl
      · simp only [List.getElem?_map, Option.map_eq_some_iff] at h1
        obtain ⟨v, hv, h1⟩ := h1
        exact absurd h1 ((fresh_strip (w := w) _ B g.F (.bool true) (hnt _ (List.mem_of_getElem? hv))).2 es)
    · rename_i i hno
      split at h
      · rename_i v hv
        simp only [Option.map_eq_some_iff] at h
        obtain ⟨u, hf, rfl⟩ := h
        obtain ⟨hit, rfl⟩ := List.getElem?_eq_some_iff.1 hv
        obtain ⟨h1, h2, es, rfl⟩ := freshen_ok (hgv i hit (by omega)) hf
        have hcomp : ∀ j (hj : j < ((vs.map VV.strip).set i (.sl es 1)).length) (hj' : j < vs.length), ((vs.map VV.strip).set i (VV.sl es 1))[j] = if j = i then .sl es 1 else vs[j].strip := fun j hj hj' => by
          by_cases e : j = i
          · subst e; simp
          · rw [if_neg e, List.getElem_set_ne (fun q => e q.symm)]; simp
        refine res_tup (fun e => ?_) (by simpa using hlen) (fun j hj hj' => ?_) (fun p q es1 es2 k1 k2 => ?_) hi
        · obtain ⟨t, rfl⟩ := List.length_eq_one_iff.1 (by simpa using e)
          exact hno _ rfl
        · have hjv : j < vs.length := by simpa using hj
          rw [hcomp j hj hjv]
          by_cases e : j = i
          · subst e
            rw [if_pos rfl]
            exact ⟨h1, rfl, h2⟩
          · rw [if_neg e]; exact strip_ok j hjv hj'
        · have only : ∀ j es1, ((vs.map VV.strip).set i (VV.sl es 1))[j]? = some (.sl es1 1) → j = i := fun j es1 k => by
            obtain ⟨hj, hk⟩ := List.getElem?_eq_some_iff.1 k
            have hj' : j < vs.length := by simpa using hj
            rw [hcomp j hj hj'] at hk
            by_cases e : j = i
            · exact e
            · rw [if_neg e] at hk
              exact absurd hk ((fresh_strip (w := w) _ B g.F (.bool true) (hnt _ (List.getElem_mem hj'))).2 es1)
          exact (only p es1 k1).trans (only q es2 k2).symm
      · cases h
  · cases h

/-- the state at a function's end, its marks' blocks shut -/
theorem SInv.closed (S : SInv B w0 st g nt D a w) {F : Fence} {fn : Func} {R : Ending → World → Prop} {ob' : List Obj} (h : closeM st.marks st.ob = some ob') :
    ∃ w', SInv B w0 { env := st.env, ob := ob', base := st.base } g nt D { tmps := a.tmps, defers := [] } w' ∧ Pres B st.ob g w ob' g w' ∧ (LeavesInM F 0 P fn a.tmps R [] .returning w' → LeavesInM F 0 P fn a.tmps R a.defers .returning w) := by
  obtain ⟨w', H', p', hl⟩ := marks_close (F := F) (fn := fn) (tmps := a.tmps) (R := R) (P := P) S.H S.d h
  exact ⟨w', ⟨H', fun s => p' _ _ (S.e s), S.n, rfl, fun v x hk => ⟨p' _ _ (S.k v x hk).1, (S.k v x hk).2⟩⟩, p', hl⟩

theorem noHnd_GV {v : VV} {x : Value} (hr : Rep w g.F g.tb v x) (hh : v.noHnd = true) (hi : v.ids ob.length = true) : GV B ob g w v x := ⟨hr, noHnd_hnd hh x, hi⟩

/-- A FUNCTION'S CONTRACT, of data. -/
theorem pure_of_wp {f : Nat} {vf : VF} (hm : mFn P f vf = true) {args : List VV} (hl : args.length = vf.params) (ha : args.all argOk = true) {r : VV} (h : FnW P vf args r) : PureC P f args r := by
  simp only [mFn, Bool.and_eq_true] at hm
  obtain ⟨hok, hm⟩ := hm
  refine ⟨hok, fun w F vals hF0 hsz hrep => ?_⟩
  split at hm
  · rename_i fn hf
    simp only [Bool.and_eq_true, beq_iff_eq, decide_eq_true_eq] at hm
    obtain ⟨⟨⟨hnt, hpar⟩, hres⟩, hbody⟩ := hm
    split at hbody
    · rename_i c hb
      refine callsIn_of_wp_marks hf hb trivial ?_
      let w0 : W0 := { w := w, F := F, cm := cmP P }
      let g : Gh := { F := F, tb := fun _ => none, kb := fun _ => none, cm := cmP P }
      have H : HInv w.heap.size w0 [] g w := ⟨Below.refl _ _, Nat.le_refl _, hF0, fun _ _ => rfl, rfl, nofun, nofun, nofun, nofun, nofun, fun i hi => absurd hi (by simp)⟩
      rw [List.all_eq_true] at ha
      have S : SInv w.heap.size w0 { env := envA 0 args, ob := [], base := 0 } g vf.ntmps [] { tmps := vals ++ Array.replicate (fn.ntmps - vals.size) Go.undef, defers := [] } w := by
        refine ⟨H, fun s => ?_, by simp; omega, rfl, fun _ _ h => h.elim⟩
        rw [get_envA]
        simp only [Nat.zero_le, if_true, Nat.sub_zero]
        by_cases hs : s < args.length
        · have hs' : s < vals.size := by omega
          have e1 : (args[s]?).getD .dead = args[s] := by simp [hs]
          have e2 : (vals ++ Array.replicate (fn.ntmps - vals.size) Go.undef).getD s Go.undef = vals[s] := by simp [Array.getElem?_append, hs']
          rw [e1, e2]
          have := ha _ (List.getElem_mem hs)
          simp only [argOk, Bool.and_eq_true] at this
          exact noHnd_GV (hrep s hs hs') this.1 this.2
        · have e1 : (args[s]?).getD .dead = .dead := by simp [List.getElem?_eq_none (by omega : args.length ≤ s)]
          rw [e1]; exact GV.dead
      refine wp_sound rfl (ro := none) rfl vf.body c _ g _ w _ _ hbody S h ?_
      rintro e st' g' a' w' ⟨_, he, hout, hids⟩ S'
      have hpost : LeavesInM Fence.wide 0 P fn a'.tmps (fun e w' => ∃ x F', e = .returned x ∧ Below w.heap.size w w' ∧ (∀ b, w'.heap.size ≤ b → F' b = 0) ∧ (∀ b, b < w.heap.size → F' b = F b) ∧ ResR w.heap.size w' F' r x) a'.defers .returning w' := by
        cases hcl : closeM st'.marks st'.ob with
        | none => rw [hcl] at hout; cases hout
        | some ob' =>
          rw [hcl] at hout
          simp only [Option.bind_some] at hout
          obtain ⟨w2, S2, _, hl2⟩ := S'.closed (P := P) (F := Fence.wide) (fn := fn) (R := fun e w' => ∃ x F', e = .returned x ∧ Below w.heap.size w w' ∧ (∀ b, w'.heap.size ≤ b → F' b = 0) ∧ (∀ b, b < w.heap.size → F' b = F b) ∧ ResR w.heap.size w' F' r x) hcl
          refine hl2 ?_
          cases hvs : resOfL ⟨st'.env, ob'⟩ vf.results with
          | none => rw [hvs] at hout; cases hout
          | some vs =>
            rw [hvs] at hout
            obtain ⟨xs, hrun, hgl⟩ := results_run S2 hres hvs
            exact ⟨_, results_val hrun, _, g'.F, rfl, S2.H.below, S2.H.fz, fun b hb => S2.H.f0 b hb, out_ok hgl hout hids⟩
      cases e with
      | nrm => exact hpost
      | ext id => exact he.elim
      | ret => exact hpost
    · cases hbody
  · cases hm

end
end Go.V
