/- V, part 17: calls and code. What it means that a function, called with data, returns data; what V's code comes to. -/
import Derived.Test.YtfhkgkijljfcfaaV16a
import Derived.CallsIn
set_option linter.unusedVariables false
set_option linter.unusedSimpArgs false
namespace Go.V
open Go.RowKit

/-- A slice of a block of its own, its data ending at its end. -/
def Fresh (n0 : Nat) (w : World) (F : Nat → Nat) : VV → Value → Prop
  | .sl es 1, x => (∃ a, x = .slice a 0 0 ∧ es = []) ∨ ∃ b o cap arr ty sz, x = .slice (some ⟨b, o, none⟩) es.length cap ∧ es.length ≤ cap ∧ es ≠ [] ∧ w.heap[b]? = some (.cells arr ty (0, 0)) ∧
      (∀ e ∈ es, e.cells.length = sz) ∧ o + cap * sz ≤ arr.size ∧ F b = o + es.length * sz ∧ n0 ≤ b
  | _, _ => True

/-- What a call hands back: data, at most one slice of it fresh. -/
structure ResR (n0 : Nat) (w : World) (F : Nat → Nat) (r : VV) (x : Value) : Prop where
  rep : ∀ tb, Rep w F tb r x
  ids : r.ids 0 = true
  fresh : Fresh n0 w F r x
  tup : ∀ vs xs, r = .tup vs → x = .tuple xs → (∀ (j : Nat) v y, vs[j]? = some v → xs[j]? = some y → Fresh n0 w F v y) ∧ (∀ (i j : Nat) (es es' : List VV), vs[i]? = some (VV.sl es 1) → vs[j]? = some (VV.sl es' 1) → i = j)

/-- THE CONTRACT OF A CALL THAT IS HANDED DATA ALONE. -/
def PureC (P : Program) (f : Nat) (args : List VV) (r : VV) : Prop :=
  callOk P f = true ∧ ∀ (w : World) (F : Nat → Nat) (vals : Array Value), (∀ b, w.heap.size ≤ b → F b = 0) → vals.size = args.length →
    (∀ j (h : j < args.length) (h' : j < vals.size), Rep w F (fun _ => none) args[j] vals[j]) →
    CallsIn Fence.wide 0 P f vals w fun e w' => ∃ x F', e = .returned x ∧ Below w.heap.size w w' ∧ (∀ b, w'.heap.size ≤ b → F' b = 0) ∧ (∀ b, b < w.heap.size → F' b = F b) ∧ ResR w.heap.size w' F' r x

/-- The contract of a call that is handed objects of the caller's. -/
def ImpC (P : Program) (f : Nat) (args : List VV) (ob : List Obj) (R : VV → List Obj → Prop) : Prop :=
  callOk P f = true ∧ ∀ (B : Nat) (w0 : W0) (g : Gh) (w : World) (vals : Array Value), w0.cm = cmP P → HInv B w0 ob g w → vals.size = args.length →
    (∀ j (h : j < args.length) (h' : j < vals.size), GV B ob g w args[j] vals[j]) →
    CallsIn Fence.wide 0 P f vals w fun e w' => ∃ x g' r ob', e = .returned x ∧ R r ob' ∧ HInv B w0 ob' g' w' ∧ GV B ob' g' w' r x ∧ Pres B ob g w ob' g' w'

/-- The contract of a round: what a call of yield, the loop's, answers. -/
def YldC (P : Program) (o : Nat) (args : List VV) (ob : List Obj) (R : VV → List Obj → Prop) : Prop :=
  ∀ (B : Nat) (w0 : W0) (g : Gh) (w : World) (l : Nat) (vals : Array Value), w0.cm = cmP P → HInv B w0 ob g w → g.tb o = some l → vals.size = args.length →
    (∀ j (h : j < args.length) (h' : j < vals.size), GV B ob g w args[j] vals[j]) →
    ∃ f tmps assign body, (Instr.yield l vals).run P w = .ok (.round l f tmps assign body) w ∧ RoundIn Fence.wide 0 P l f tmps assign body w fun e w' =>
      ∃ x g' r ob', e = .returned x ∧ R r ob' ∧ HInv B w0 ob' g' w' ∧ GV B ob' g' w' r x ∧ Pres B ob g w ob' g' w'

def yldOf : VV → Option Nat
  | .yld o => some o
  | _ => none

def VV.stripT : VV → VV
  | .tup vs => .tup (vs.map VV.strip)
  | v => v.strip

def setTok (t : Nat) : VV → VV
  | .sl es _ => .sl es t
  | v => v

/-- the elements of the fresh slice in a result -/
def freshOf : Option Nat → VV → Option (List VV)
  | none, .sl es 1 => some es
  | some i, .tup vs => match vs[i]? with
    | some (.sl es 1) => some es
    | _ => none
  | _, _ => none
def adoptV (t : Nat) : Option Nat → VV → VV
  | none, v => setTok t v
  | some i, .tup vs => .tup ((vs.map VV.strip).modify i (setTok t))
  | _, v => v

/-- A result on its way into a slot. -/
def takeR (own : Option (Option Nat × Nat)) (ob : List Obj) (r : VV) : Option (VV × List Obj) :=
  match own with
  | none => some (r.stripT, ob)
  | some (c, sz) => match freshOf c r with
    | some es => if hdSz es sz ∧ 0 < sz then some (adoptV (ob.length + 2) c r, ob ++ [.tok es.length sz]) else none
    | none => none

def putD (env : List (Nat × VV)) (d : Option Nat) (v : VV) : List (Nat × VV) := match d with | some d => put env d v | none => env

/-- is a guarded operation wanted -/
def wantedV (env : List (Nat × VV)) : Option (Nat × Bool) → Option Bool
  | none => some true
  | some (s, b) => match get env s with
    | .bool c => some (c == b)
    | .tup [] => some false
    | _ => none

/-- calls that are handed objects, in regions that draw: some true: one that keeps all cells and maps -/
def markOf : Option (Option Nat × Nat) → Option Bool
  | some (none, 0) => some true
  | some (some 0, 0) => some false
  | _ => none

def CallW (P : Program) (f : Nat) (args : List VV) (own : Option (Option Nat × Nat)) (d : Option Nat) (st : St) (K : St → Prop) : Prop :=
  ((args.map VV.strip).all (fun v => v.ids 0 && v.noTup) = true ∧ ∃ r, PureC P f (args.map VV.strip) r ∧ match takeR own st.ob r with
    | some (v, ob') => K { st with env := putD st.env d v, ob := ob' }
    | none => False) ∨
  ((own = none ∨ (markOf own).isSome = true) ∧ args.all VV.noTup = true ∧ ImpC P f (args.map VV.strip) st.ob fun r ob' => K { st with env := putD st.env d r, ob := ob' })

def fnOf : VV → Option (Nat × List VV)
  | .fn f cap => some (f, cap)
  | _ => none

def OpW (P : Program) (i : VI) (st : St) (K : St → Prop) : Prop :=
  match wantedV st.env i.g with
  | none => False
  | some false => K { st with env := putD st.env i.dst (.tup []) }
  | some true => match i.op with
    | .call f args own => CallW P f (args.map (Opd.ev st.env)) own i.dst st K
    | .callv x args own => match fnOf (x.ev st.env) with
      | some (f, cap) => CallW P f (args.map (Opd.ev st.env) ++ cap) own i.dst st K
      | none => match yldOf (x.ev st.env) with
        | some o => (args.map (Opd.ev st.env)).all VV.noTup = true ∧ YldC P o ((args.map (Opd.ev st.env)).map VV.strip) st.ob fun r ob' => K { st with env := putD st.env i.dst r, ob := ob' }
        | none => False
    | op => match op.ev st.toS0 with
      | some (v, ob') => K { st with env := putD st.env i.dst v, ob := ob' }
      | none => False

def Ops (P : Program) : List VI → St → (St → Prop) → Prop
  | [], st, K => K st
  | i :: r, st, K => OpW P i st fun st' => Ops P r st' K

/-- the marks among the deferred calls -/
def Marks (B : Nat) (ob : List Obj) (g : Gh) (w : World) : List Nat → List Deferred → Prop
  | [], ds => ds = []
  | o :: r, ds => ∃ b es, ds = { target := .collected b, args := #[] } :: es ∧ GV B ob g w (.yld o) (.func (.yield b) #[] #[]) ∧ Marks B ob g w r es

theorem Marks.pres {B : Nat} {ob ob' : List Obj} {g g' : Gh} {w w' : World} (hp : Pres B ob g w ob' g' w') : ∀ {l : List Nat} {ds : List Deferred}, Marks B ob g w l ds → Marks B ob' g' w' l ds
  | [], _, h => h
  | _ :: _, _, ⟨b, es, h1, h2, h3⟩ => ⟨b, es, h1, hp _ _ h2, Marks.pres hp h3⟩

/-- The state of V and the machine's, side by side. -/
structure SInv (B : Nat) (w0 : W0) (st : St) (g : Gh) (nt : Nat) (D : List Deferred) (a : Act) (w : World) : Prop where
  H : HInv B w0 st.ob g w
  e : ∀ s, GV B st.ob g w (get st.env s) (a.tmps.getD s undef)
  n : a.tmps.size = nt
  d : Marks B st.ob g w st.marks a.defers
  k : ∀ v x, w0.keep v x → GV B st.ob g w v x ∧ v.ids st.base = true

theorem get_put (env : List (Nat × VV)) (d : Nat) (v : VV) (s : Nat) : get (put env d v) s = if s = d then v else get env s := by
  induction env with
  | nil => simp only [put, get]; by_cases h : d = s <;> simp [h]; intro e; exact absurd e.symm h
  | cons p r ih =>
    obtain ⟨k, u⟩ := p
    simp only [put]
    by_cases h1 : d = k
    · subst h1
      simp only [if_true, get]
      by_cases h2 : d = s
      · simp [h2]
      · rw [if_neg h2, if_neg h2, if_neg (fun e => h2 e.symm)]
    · rw [if_neg h1]
      by_cases h2 : d < k
      · rw [if_pos h2]
        simp only [get]
        by_cases h3 : d = s
        · simp [h3]
        · have h4 : ¬ s = d := fun e => h3 e.symm
          simp [h3, h4]
      · rw [if_neg h2]
        simp only [get, ih]
        by_cases h3 : k = s
        · subst h3
          rw [if_pos rfl, if_neg (fun e => h1 e.symm), if_pos rfl]
        · rw [if_neg h3, if_neg h3]

section
variable {P : Program} {B : Nat} {w0 : W0} {g : Gh} {nt : Nat} {D : List Deferred} {a : Act} {w : World} {st : St}

theorem GV.undef {ob : List Obj} : GV B ob g w (.tup []) undef := ⟨.tup rfl rfl fun j hj => absurd hj (by simp), fun j v x h => by simp at h, rfl⟩

theorem SInv.reads (S : SInv B w0 st g nt D a w) : Reads B st.ob g w st.env a.eval := ⟨fun _ => rfl, fun _ => rfl, S.e⟩

theorem SInv.put (S : SInv B w0 st g nt D a w) {g' : Gh} {w' : World} {ob' : List Obj} {d : Option Nat} {v : VV} {x : Value} (hd : ∀ k, d = some k → k < nt) (H : HInv B w0 ob' g' w') (hv : GV B ob' g' w' v x) (hp : Pres B st.ob g w ob' g' w') :
    SInv B w0 { st with env := putD st.env d v, ob := ob' } g' nt D (a.put d x) w' := by
  refine ⟨H, fun s => ?_, ?_, ?_, fun v x h => ⟨hp _ _ (S.k v x h).1, (S.k v x h).2⟩⟩
  · cases d with
    | none => exact hp _ _ (S.e s)
    | some k =>
      have hk := hd k rfl
      simp only [putD, Act.put]
      rw [get_put]
      by_cases e : s = k
      · subst e
        rw [if_pos rfl]
        have : (a.tmps.setIfInBounds s x).getD s Go.undef = x := by simp [S.n, hk]
        rw [this]; exact hv
      · rw [if_neg e]
        have : (a.tmps.setIfInBounds k x).getD s Go.undef = a.tmps.getD s Go.undef := by
          simp [Array.getElem?_setIfInBounds_ne (fun q => e q.symm)]
        rw [this]; exact hp _ _ (S.e s)
  · cases d with
    | none => exact S.n
    | some k => simpa [Act.put] using S.n
  · cases d with
    | none => exact S.d.pres hp
    | some k => exact S.d.pres hp

theorem callFunc_ok {f : Nat} (h : callOk P f = true) (args : Array Value) (w : World) : (callFunc f args).run P w = .ok (.enter f args) w := by
  unfold callOk at h
  cases hf : P.funcs[f]? with
  | none => simp [hf] at h
  | some fn =>
    simp only [hf, Bool.and_eq_true, bne_iff_ne, ne_eq] at h
    obtain ⟨h1, h2⟩ := h
    obtain ⟨c, hb⟩ := Option.isSome_iff_exists.1 h1
    simp [callFunc, hf, h2, hb]

/-- the fence that bars nothing, in a round or not -/
def Wd (ro : Option Nat) : Fence := { Fence.wide with round := ro }

theorem calls_wd {ro : Option Nat} {f : Nat} {args : Array Value} {R : Ending → World → Prop} (h : CallsIn Fence.wide 0 P f args w R) : CallsIn (Wd ro) 0 P f args w R := h

theorem stripT_eq {v : VV} (h : v.noTup = true) : v.stripT = v.strip := by
  cases v <;> first | rfl | (simp [VV.noTup] at h)

theorem stripT_GV {ob : List Obj} {r : VV} {x : Value} (hr : ∀ tb, Rep w g.F tb r x) (hi : r.ids 0 = true) : GV B ob g w r.stripT x := by
  cases r with
  | tup vs =>
    have h := hr g.tb
    cases h with
    | @tup _ xs hl hc h =>
      simp only [VV.ids] at hi
      refine ⟨.tup (by simpa using hl) ?_ fun j hj => ?_, ?_, ?_⟩
      · rw [List.all_eq_true] at hc ⊢
        intro u hu
        obtain ⟨q, hq, rfl⟩ := List.mem_map.1 hu
        have := hc q hq
        cases q <;> simp_all [VV.strip, VV.strip0, VV.noTup]
      · have := strip_rep (h j (by simpa using hj))
        simpa using this
      · intro j v y hv hy
        simp only [List.getElem?_map, Option.map_eq_some_iff] at hv
        obtain ⟨q, hq, rfl⟩ := hv
        have hn := List.all_eq_true.1 hc q (List.mem_of_getElem? hq)
        have hs := strip_hnd (B := B) (ob := ob) (g := g) (w := w) q y hn
        refine ⟨?_, fun ds ys e1 e2 k u z hu hz => ?_⟩
        · revert hs
          generalize q.strip = p
          cases p with
          | agg cs => intro _; trivial
          | tup cs => intro _; trivial
          | sl es t => intro h; exact Hnd.sl.1 h
          | _ => intro _; trivial
        · rw [e1, e2] at hs
          exact hs k u z hu hz
      · simp only [VV.stripT, VV.ids]
        refine idsL_of fun u hu => ?_
        obtain ⟨q, hq, rfl⟩ := List.mem_map.1 hu
        obtain ⟨j, hj, rfl⟩ := List.getElem_of_mem hq
        exact strip_ids ((ids_mono (Nat.zero_le _)).1 _ (idsL_get hi j hj))
  | _ =>
    rw [stripT_eq rfl]
    exact ⟨strip_rep (hr g.tb), strip_hnd _ _ rfl, strip_ids ((ids_mono (Nat.zero_le _)).1 _ hi)⟩

end
end Go.V
