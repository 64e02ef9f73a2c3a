/- V, part 25: V, run: what a run of it answers is so. -/
import Derived.ChangeArms
import Derived.OpenShut
import Derived.Deep.Slices
import Derived.WideShapes
import Derived.Attr
import Derived.Sort.Grow
import Derived.Lib.Split
import Derived.Lib.Bytealg
import Derived.Lib.SlicesCompact
import Derived.Test.YtglabjcjfjlkoaaGreatDoorA3
set_option linter.unusedVariables false
set_option linter.unusedSimpArgs false
namespace Go.V
open Go.RowKit

abbrev CallE := Nat → List VV → Option (Option Nat × Nat) → Option Nat → St → Option St

def stepE (call : CallE) (yld : Nat → List VV → Option Nat → St → Option St) (i : VI) (st : St) : Option St :=
  match wantedV st.env i.g with
  | none => none
  | some false => some { st with env := putD st.env i.dst (.tup []) }
  | some true => match i.op with
    | .call f args own => call f (args.map (Opd.ev st.env)) own i.dst st
    | .callv x args own => match fnOf (x.ev st.env) with
      | some (f, cap) => call f (args.map (Opd.ev st.env) ++ cap) own i.dst st
      | none => match yldOf (x.ev st.env) with
        | some o => yld o (args.map (Opd.ev st.env)) i.dst st
        | none => none
    | op => match op.ev st.toS0 with
      | some (v, ob') => some { st with env := putD st.env i.dst v, ob := ob' }
      | none => none

def opsE (call : CallE) (yld : Nat → List VV → Option Nat → St → Option St) : List VI → St → Option St
  | [], st => some st
  | i :: r, st => match stepE call yld i st with
    | some st' => opsE call yld r st'
    | none => none

/-- what V does not know, where there is one way only -/
def demE (i : VI) (st : St) : Option St :=
  match wantedV st.env i.g with
  | some true => match i.op with
    | .isnil neg x => match x.ev st.env with
      | .sl (_ :: _) _ => some { st with env := putD st.env i.dst (.bool neg) }
      | _ => none
    | .mnext x => match x.ev st.env with
      | .it o => match nthO st.ob o with
        | .miter _ [] _ => some { st with env := putD st.env i.dst (.tup [.bool false]) }
        | .miter m [e] _ => some { st with env := putD st.env i.dst (.tup [.bool true, e.1, e.2]), ob := st.ob.set o (.miter m [] (some e)) }
        | _ => none
      | _ => none
    | _ => none
  | _ => none

def opsN (call : CallE) (yld : Nat → List VV → Option Nat → St → Option St) : List VI → St → Option St
  | [], st => some st
  | i :: r, st => match demE i st with
    | some st' => opsN call yld r st'
    | none => match stepE call yld i st with
      | some st' => opsN call yld r st'
      | none => none

mutual
def eqVV : VV → VV → Bool
  | .int k n, .int k' n' => decide (k = k') && decide (n = n')
  | .bool b, .bool b' => decide (b = b')
  | .str s, .str t => decide (s = t)
  | .nilp, .nilp => true
  | .ptr o f, .ptr o' f' => decide (o = o') && decide (f = f')
  | .pim cs f, .pim cs' f' => eqVL cs cs' && decide (f = f')
  | .nils, .nils => true
  | .sl es t, .sl es' t' => eqVL es es' && decide (t = t')
  | .row o f l, .row o' f' l' => decide (o = o') && decide (f = f') && decide (l = l')
  | .ifr t o f l, .ifr t' o' f' l' => decide (t = t') && decide (o = o') && decide (f = f') && decide (l = l')
  | .ife t, .ife t' => decide (t = t')
  | .nilm, .nilm => true
  | .mp o, .mp o' => decide (o = o')
  | .nilf, .nilf => true
  | .fn f c, .fn f' c' => decide (f = f') && eqVL c c'
  | .yld o, .yld o' => decide (o = o')
  | .it o, .it o' => decide (o = o')
  | .agg cs, .agg cs' => eqVL cs cs'
  | .tup cs, .tup cs' => eqVL cs cs'
  | .dead, .dead => true
  | _, _ => false
def eqVL : List VV → List VV → Bool
  | [], [] => true
  | a :: r, b :: s => eqVV a b && eqVL r s
  | _, _ => false
end

mutual
theorem eqVV_ok : ∀ (a b : VV), eqVV a b = true → a = b := by
  intro a b h
  cases a <;> cases b <;> simp only [eqVV, Bool.and_eq_true, decide_eq_true_eq, Bool.false_eq_true] at h <;> first | rfl | skip
  case int.int => rw [h.1, h.2]
  case bool.bool => rw [h]
  case str.str => rw [h]
  case ptr.ptr => rw [h.1, h.2]
  case pim.pim cs f cs' f' => rw [eqVL_ok cs cs' h.1, h.2]
  case sl.sl cs f cs' f' => rw [eqVL_ok cs cs' h.1, h.2]
  case row.row => rw [h.1.1, h.1.2, h.2]
  case ifr.ifr => rw [h.1.1.1, h.1.1.2, h.1.2, h.2]
  case ife.ife => rw [h]
  case mp.mp => rw [h]
  case fn.fn f cs f' cs' => rw [eqVL_ok cs cs' h.2, h.1]
  case yld.yld => rw [h]
  case it.it => rw [h]
  case agg.agg cs cs' => rw [eqVL_ok cs cs' h]
  case tup.tup cs cs' => rw [eqVL_ok cs cs' h]
theorem eqVL_ok : ∀ (a b : List VV), eqVL a b = true → a = b := by
  intro a b h
  match a, b, h with
  | [], [], _ => rfl
  | a :: r, b :: s, h =>
    simp only [eqVL, Bool.and_eq_true] at h
    rw [eqVV_ok a b h.1, eqVL_ok r s h.2]
end

def eqEs : List (VV × VV) → List (VV × VV) → Bool
  | [], [] => true
  | (a, b) :: r, (c, d) :: s => eqVV a c && eqVV b d && eqEs r s
  | _, _ => false
theorem eqEs_ok : ∀ (a b : List (VV × VV)), eqEs a b = true → a = b
  | [], [], _ => rfl
  | (a, b) :: r, (c, d) :: s, h => by
    simp only [eqEs, Bool.and_eq_true] at h
    rw [eqVV_ok _ _ h.1.1, eqVV_ok _ _ h.1.2, eqEs_ok _ _ h.2]
  | [], _ :: _, h => by simp [eqEs] at h
  | _ :: _, [], h => by simp [eqEs] at h

/-- the same, but for what no load reads -/
def keepO : Obj → Obj → Bool
  | .cells a, .cells b => eqVL a b
  | .map a, .map b => eqEs a b
  | a, _ => a.vol

def keepsB : List Obj → List Obj → Bool
  | [], _ => true
  | a :: r, b :: s => keepO a b && keepsB r s
  | _ :: _, [] => false

theorem keepsB_ok : ∀ {a b : List Obj}, keepsB a b = true → Keeps a b
  | [], _, _ => ⟨by simp, fun o h => by simp [nthO, Obj.vol] at h⟩
  | x :: r, [], h => by simp [keepsB] at h
  | x :: r, y :: s, h => by
    simp only [keepsB, Bool.and_eq_true] at h
    refine ⟨by have := (keepsB_ok h.2).1; simp; omega, ?_⟩
    intro o h1
    cases o with
    | zero =>
      simp only [nthO, List.getD_cons_zero] at h1 ⊢
      have h := h.1
      unfold keepO at h
      split at h
      · rw [eqVL_ok _ _ h]
      · rw [eqEs_ok _ _ h]
      · rw [h] at h1; cases h1
    | succ o =>
      have := (keepsB_ok h.2).2 o
      simp only [nthO, List.getD_cons_succ] at h1 ⊢ this
      exact this h1

def isExt : Ex → Bool
  | .ext _ => true
  | _ => false

def takeE (own : Option (Option Nat × Nat)) (d : Option Nat) (st : St) (r : VV) : Option St :=
  match takeR own st.ob r with
  | some (v, ob') => some { st with env := putD st.env d v, ob := ob' }
  | none => none

/-- is a call one of data; may it be one of objects -/
def ownD (own : Option (Option Nat × Nat)) : Bool := (markOf own).isNone
def ownI (pure : Bool) (own : Option (Option Nat × Nat)) : Bool := (markOf own).isSome || (!pure && own.isNone)

def kOf (own : Option (Option Nat × Nat)) (a b : List Obj) : Bool := match markOf own with | some true => keepsB a b | _ => true

/-- a call that is handed objects -/
def impE (tab : Nat → Option VF) (run : VC → St → Option (Ex × St)) (f : Nat) (args : List VV) (ob : List Obj) : Option (VV × List Obj) :=
  match tab f with
  | none => none
  | some vf => if args.length = vf.params then
      match run vf.body { env := envA 0 args, ob := ob, base := ob.length } with
      | none => none
      | some (e, s) => match closeM s.marks s.ob with
        | none => none
        | some ob' => if !isExt e && decide (s.base = ob.length) && decide (ob.length ≤ ob'.length) then
            match (resOfL ⟨s.env, ob'⟩ vf.results).bind outI with
            | none => none
            | some r => if r.ids ob.length && (ob'.take ob.length).all (Obj.idsB ob.length) then some (r, ob'.take ob.length)
              else if r.ids ob'.length && ob'.all (Obj.idsB ob'.length) then some (r, ob') else none
          else none
    else none

/-- a call of data -/
def pureE (tab : Nat → Option VF) (run : VC → St → Option (Ex × St)) (f : Nat) (args : List VV) : Option VV :=
  match tab f with
  | none => none
  | some vf => if args.length = vf.params ∧ args.all argOk = true then
      match run vf.body { env := envA 0 args, ob := [], base := 0, pure := true } with
      | none => none
      | some (e, s) => if isExt e then none else match (closeM s.marks s.ob).bind fun ob' => (resOfL ⟨s.env, ob'⟩ vf.results).bind (outR vf.fresh ob') with
        | none => none
        | some r => if r.ids 0 then some r else none
    else none

/-- tab: the texts of functions; ext: what is known of functions without text -/
def callE (tab : Nat → Option VF) (ext : Nat → List VV → Option VV) (run : VC → St → Option (Ex × St)) (pure : Bool) : CallE := fun f args own d st =>
  if ownD own && (args.map VV.strip).all (fun v => v.ids 0 && v.noTup) then
    match ext f (args.map VV.strip) with
    | some r => takeE own d st r
    | none => match pureE tab run f (args.map VV.strip) with
      | some r => takeE own d st r
      | none => none
  else if ownI pure own && args.all VV.noTup then
    match impE tab run f (args.map VV.strip) st.ob with
    | some (r, ob') => if kOf own st.ob ob' then some { st with env := putD st.env d r, ob := ob' } else none
    | none => none
  else none

/-- a round -/
def rndE (run : VC → St → Option (Ex × St)) (o : Nat) (args : List VV) (ob : List Obj) : Option (VV × List Obj) :=
  match nthO ob o with
  | .loop nt env ps a b s _ => if s = 0 ∧ ps.all (· < nt) = true ∧ args.length = ps.length then
      match run a { env := bindP ps args env, ob := ob, base := ob.length } with
      | some (.nrm, st1) => match setBusy st1.ob o with
        | none => none
        | some ob1 => match run b { st1 with ob := ob1 } with
          | none => none
          | some (e, st2) => match setSt st2.ob o (if e = .nrm then 0 else 2) e with
            | none => none
            | some ob' => if decide (st2.base = ob.length) && st2.marks.isEmpty && decide (ob.length ≤ ob'.length) then
                if (ob'.take ob.length).all (Obj.idsB ob.length) then some (.bool (decide (e = .nrm)), ob'.take ob.length)
                else if ob'.all (Obj.idsB ob'.length) then some (.bool (decide (e = .nrm)), ob') else none
              else none
      | _ => none
    else none
  | _ => none

def yldE (run : VC → St → Option (Ex × St)) (o : Nat) (args : List VV) (d : Option Nat) (st : St) : Option St :=
  if args.all VV.noTup then match rndE run o (args.map VV.strip) st.ob with
    | some (r, ob') => some { st with env := putD st.env d r, ob := ob' }
    | none => none
  else none

def noYld : Nat → List VV → Option Nat → St → Option St := fun _ _ _ _ => none

def exec (tab : Nat → Option VF) (ext : Nat → List VV → Option VV) : Nat → VC → St → Option (Ex × St)
  | 0, _, _ => none
  | n + 1, c, st => match c with
    | .skip => some (.nrm, st)
    | .reg ops none => match opsN (callE tab ext (exec tab ext n) false) (yldE (exec tab ext n)) ops st with
      | some st' => some (.nrm, st')
      | none => none
    | .reg ops (some _) => match opsE (callE tab ext (exec tab ext n) true) noYld ops st with
      | some st' => some (.nrm, st')
      | none => none
    | .seq a b => match exec tab ext n a st with
      | some (.nrm, st') => exec tab ext n b st'
      | r => r
    | .cond c a b => match c.ev st.env with
      | .bool true => exec tab ext n a st
      | .bool false => exec tab ext n b st
      | _ => none
    | .block id c => match exec tab ext n c st with
      | some (.ext j, st') => if j = id then some (.nrm, st') else some (.ext j, st')
      | r => r
    | .loop c => match exec tab ext n c st with
      | some (.nrm, st') => exec tab ext n (.loop c) st'
      | r => r
    | .exit id => some (.ext id, st)
    | .ret => some (.ret, st)
    | .scope c => exec tab ext n c st
    | .rfn _ nt f ps a b => match fnOf (f.ev st.env) with
      | none => none
      | some (g, cap) => match impE tab (exec tab ext n) g ((VV.yld (st.ob.length + 1) :: cap).map VV.strip) (st.ob ++ [.dfr] ++ [.loop nt st.env ps a b 0 .nrm]) with
        | none => none
        | some (_, ob2) => match nthO ob2 (st.ob.length + 1) with
          | .loop _ _ _ _ _ s pend => if s = 0 ∨ s = 2 then some (pend, { st with ob := ob2.set (st.ob.length + 1) .gone, marks := st.ob.length :: st.marks }) else none
          | _ => none
    | .drop s k c => match dropW st s k with
      | some st' => exec tab ext n c st'
      | none => none
    | .own s f sz c => match ownW st s f sz with
      | some st' => exec tab ext n c st'
      | none => none

structure TabOk (P : Program) (tab : Nat → Option VF) (ext : Nat → List VV → Option VV) : Prop where
  t : ∀ f vf, tab f = some vf → mFn P f vf = true
  e : ∀ f args r, ext f args = some r → PureC P f args r

section
variable {P : Program} {tab : Nat → Option VF} {ext : Nat → List VV → Option VV}

def RunOk (P : Program) (run : VC → St → Option (Ex × St)) : Prop := ∀ c st e st' (K : Ex → St → Prop), run c st = some (e, st') → K e st' → Wp P c st K

theorem not_ext : ∀ {e : Ex}, isExt e = false → (match e with | .ext _ => False | _ => True)
  | .nrm, _ => trivial
  | .ret, _ => trivial
  | .ext _, h => by cases h

theorem impE_ok (T : TabOk P tab ext) {run : VC → St → Option (Ex × St)} (hr : RunOk P run) {f : Nat} {args : List VV} {ob ob' : List Obj} {r : VV} (h : impE tab run f args ob = some (r, ob')) : ImpC P f args ob (fun v o => v = r ∧ o = ob') := by
  unfold impE at h
  split at h
  · cases h
  · rename_i vf htab
    split at h
    · rename_i hlen
      split at h
      · cases h
      · rename_i e s hrun
        split at h
        · cases h
        · rename_i ob2 hcl
          split at h
          · rename_i hcond
            simp only [Bool.and_eq_true, Bool.not_eq_true', decide_eq_true_eq] at hcond
            obtain ⟨⟨c1, c2⟩, c3⟩ := hcond
            split at h
            · cases h
            · rename_i q hres
              split at h
              · rename_i hi
                simp only [Bool.and_eq_true] at hi
                cases h
                exact imp_of_wp (T.t _ _ htab) hlen (hr _ _ _ _ _ hrun ⟨not_ext c1, c2, ob2, ob.length, r, hcl, Nat.le_refl _, c3, hi.2, hres, hi.1, rfl, rfl⟩)
              · split at h
                · rename_i hi
                  simp only [Bool.and_eq_true] at hi
                  cases h
                  exact imp_of_wp (T.t _ _ htab) hlen (hr _ _ _ _ _ hrun ⟨not_ext c1, c2, ob', ob'.length, r, hcl, c3, Nat.le_refl _, by simpa using hi.2, hres, hi.1, rfl, by simp⟩)
                · cases h
          · cases h
    · cases h

theorem pureE_ok (T : TabOk P tab ext) {run : VC → St → Option (Ex × St)} (hr : RunOk P run) {f : Nat} {args : List VV} {r : VV} (h : pureE tab run f args = some r) : PureC P f args r := by
  unfold pureE at h
  split at h
  · cases h
  · rename_i vf htab
    split at h
    · rename_i hc
      split at h
      · cases h
      · rename_i e s hrun
        split at h
        · cases h
        · rename_i hne
          split at h
          · cases h
          · rename_i q hres
            split at h
            · rename_i hids
              cases h
              exact pure_of_wp (T.t _ _ htab) hc.1 hc.2 (hr _ _ _ _ _ hrun ⟨trivial, not_ext (by simpa using hne), hres, hids⟩)
            · cases h
    · cases h

theorem callE_D (T : TabOk P tab ext) {run : VC → St → Option (Ex × St)} (hr : RunOk P run) {pure : Bool} {f : Nat} {args : List VV} {own : Option (Option Nat × Nat)} {d : Option Nat} {st st' : St} {K : St → Prop}
    (h : callE tab ext run pure f args own d st = some st') (hk : K st') : CallD P f args own d st K ∨ (pure = false ∧ CallW P f args own d st K) := by
  unfold callE at h
  split at h
  · rename_i hdata
    rw [Bool.and_eq_true] at hdata
    have fin : ∀ r, PureC P f (args.map VV.strip) r → takeE own d st r = some st' → CallD P f args own d st K := fun r hp ht => by
      refine .inl ⟨hdata.2, r, hp, ?_⟩
      unfold takeE at ht
      split at ht
      · rename_i hq; rw [hq]; cases ht; exact hk
      · cases ht
    split at h
    · rename_i r he
      exact .inl (fin r (T.e _ _ _ he) h)
    · split at h
      · rename_i r he
        exact .inl (fin r (pureE_ok T hr he) h)
      · cases h
  · split at h
    · rename_i hown
      rw [Bool.and_eq_true] at hown
      obtain ⟨hown, hnt⟩ := hown
      split at h
      · rename_i r ob' hi
        split at h
        · rename_i hkp
          cases h
          have himp := impE_ok T hr hi
          cases hmk : markOf own with
          | none =>
            simp only [ownI, hmk, Option.isSome_none, Bool.false_or, Bool.and_eq_true, Bool.not_eq_true', Option.isNone_iff_eq_none] at hown
            exact .inr ⟨hown.1, .inr ⟨.inl hown.2, hnt, himp.mono (by rintro v o ⟨rfl, rfl⟩; exact hk)⟩⟩
          | some b =>
            left
            right
            refine ⟨b, hmk, hnt, r, ob', himp, fun hb => ?_, hk⟩
            subst hb
            unfold kOf at hkp
            rw [hmk] at hkp
            exact keepsB_ok hkp
        · cases h
      · cases h
    · cases h

theorem rndE_ok {run : VC → St → Option (Ex × St)} (hr : RunOk P run) {o : Nat} {args : List VV} {ob ob' : List Obj} {r : VV} (h : rndE run o args ob = some (r, ob')) : YldC P o args ob (fun v q => v = r ∧ q = ob') := by
  refine yld_of_wp ?_
  unfold rndE at h
  unfold RndW
  split at h
  · rename_i nt env ps a b s pend ho
    split at h
    · rename_i hc
      rw [ho]
      refine ⟨hc.1, hc.2.1, hc.2.2, ?_⟩
      split at h
      · rename_i st1 hrun
        refine hr _ _ _ _ _ hrun ⟨rfl, ?_⟩
        split at h
        · cases h
        · rename_i ob1 hb
          refine ⟨ob1, hb, ?_⟩
          split at h
          · cases h
          · rename_i e st2 hrun2
            split at h
            · cases h
            · rename_i ob2 hset
              split at h
              · rename_i hcond
                simp only [Bool.and_eq_true, decide_eq_true_eq, List.isEmpty_iff] at hcond
                obtain ⟨⟨c1, c2⟩, c3⟩ := hcond
                split at h
                · rename_i hi
                  cases h
                  exact hr _ _ _ _ _ hrun2 ⟨c1, c2, ob2, ob.length, hset, Nat.le_refl _, c3, hi, rfl, rfl⟩
                · split at h
                  · rename_i hi
                    cases h
                    exact hr _ _ _ _ _ hrun2 ⟨c1, c2, ob', ob'.length, hset, c3, Nat.le_refl _, by simpa using hi, rfl, by simp⟩
                  · cases h
              · cases h
      · cases h
    · cases h
  · cases h

theorem callD_W {f : Nat} {args : List VV} {own : Option (Option Nat × Nat)} {d : Option Nat} {st : St} {K : St → Prop} (h : CallD P f args own d st K) : CallW P f args own d st K := by
  rcases h with h | ⟨b, h1, h2, v, ob1, h3, _, h5⟩
  · exact .inl h
  · exact .inr ⟨.inr (by rw [h1]; rfl), h2, h3.mono (by rintro r o ⟨rfl, rfl⟩; exact h5)⟩

theorem stepE_W (T : TabOk P tab ext) {run : VC → St → Option (Ex × St)} (hr : RunOk P run) {i : VI} {st st' : St} {K : St → Prop} (h : stepE (callE tab ext run false) (yldE run) i st = some st') (hk : K st') : OpW P i st K := by
  have call : ∀ {f args own}, callE tab ext run false f args own i.dst st = some st' → CallW P f args own i.dst st K := fun h => by
    rcases callE_D T hr h hk with q | q
    · exact callD_W q
    · exact q.2
  unfold stepE at h
  unfold OpW
  split at h
  · cases h
  · rename_i hw; rw [hw]; cases h; exact hk
  · rename_i hw; rw [hw]
    simp only
    split at h
    · rename_i ho; simp only [ho]; exact call h
    · rename_i ho; simp only [ho]
      split at h
      · rename_i hf; simp only [hf]; exact call h
      · rename_i hf
        simp only [hf]
        split at h
        · rename_i o hy
          simp only [hy]
          unfold yldE at h
          split at h
          · rename_i hnt
            split at h
            · rename_i r ob' hrd
              cases h
              exact ⟨hnt, (rndE_ok hr hrd).mono (by rintro v q ⟨rfl, rfl⟩; exact hk)⟩
            · cases h
          · cases h
        · cases h
    · rename_i hn1 hn2
      split at h
      · rename_i v ob' hev
        cases h
        split
        · rename_i ho; rw [ho] at hev; simp [VOp.ev] at hev
        · rename_i ho; exact absurd ho (hn1 _ _ _)
        · rename_i ho; exact absurd ho (hn2 _ _ _)
        · rename_i ho; rw [ho] at hev; simp [VOp.ev] at hev
        · rename_i ho; rw [ho] at hev; simp [VOp.ev] at hev
        · simp only [hev]; exact hk
      · cases h

theorem stepE_D (T : TabOk P tab ext) {run : VC → St → Option (Ex × St)} (hr : RunOk P run) {i : VI} {st st' : St} {K : St → Prop} (h : stepE (callE tab ext run true) noYld i st = some st') (hk : K st') : OpD P i st K := by
  have call : ∀ {f args own}, callE tab ext run true f args own i.dst st = some st' → CallD P f args own i.dst st K := fun h => by
    rcases callE_D T hr h hk with q | q
    · exact q
    · exact absurd q.1 (by simp)
  unfold stepE at h
  unfold OpD
  split at h
  · cases h
  · rename_i hw; rw [hw]; cases h; exact hk
  · rename_i hw; rw [hw]
    simp only
    split at h
    · rename_i ho; simp only [ho]; exact call h
    · rename_i ho; simp only [ho]
      split at h
      · rename_i hf; simp only [hf]; exact call h
      · split at h
        · cases h
        · cases h
    · rename_i hn1 hn2
      split at h
      · rename_i v ob' hev
        cases h
        split
        · rename_i ho; exact absurd ho (hn1 _ _ _)
        · rename_i ho; exact absurd ho (hn2 _ _ _)
        · simp only [hev]; exact hk
      · cases h

theorem opsE_W (T : TabOk P tab ext) {run : VC → St → Option (Ex × St)} (hr : RunOk P run) : ∀ (l : List VI) {st st' : St} {K : St → Prop}, opsE (callE tab ext run false) (yldE run) l st = some st' → K st' → Ops P l st K
  | [], st, st', K, h, hk => by cases h; exact hk
  | i :: r, st, st', K, h, hk => by
    simp only [opsE] at h
    split at h
    · rename_i s hs
      exact stepE_W T hr (K := fun s => Ops P r s K) hs (opsE_W T hr r h hk)
    · cases h

theorem demE_W {i : VI} {st st' : St} {K : St → Prop} (h : demE i st = some st') (hk : K st') : OpW P i st K := by
  unfold demE at h
  unfold OpW
  split at h
  · rename_i hw
    rw [hw]
    simp only
    split at h
    · rename_i ho
      simp only [ho]
      split at h
      · rename_i hx; cases h; simp only [hx]; exact hk
      · cases h
    · rename_i ho
      simp only [ho]
      split at h
      · rename_i hx
        simp only [hx]
        split at h
        · rename_i hn; cases h; simp only [hn]; exact ⟨fun _ => hk, fun p hp => by simp [picks] at hp⟩
        · rename_i hn; cases h; simp only [hn]; exact ⟨fun e => (nomatch e), fun p hp => by simp [picks] at hp; subst hp; exact hk⟩
        · cases h
      · cases h
    · cases h
  · cases h

theorem opsN_W (T : TabOk P tab ext) {run : VC → St → Option (Ex × St)} (hr : RunOk P run) : ∀ (l : List VI) {st st' : St} {K : St → Prop}, opsN (callE tab ext run false) (yldE run) l st = some st' → K st' → Ops P l st K
  | [], st, st', K, h, hk => by cases h; exact hk
  | i :: r, st, st', K, h, hk => by
    simp only [opsN] at h
    split at h
    · rename_i s hs
      exact demE_W (K := fun s => Ops P r s K) hs (opsN_W T hr r h hk)
    · split at h
      · rename_i s hs
        exact stepE_W T hr (K := fun s => Ops P r s K) hs (opsN_W T hr r h hk)
      · cases h

theorem opsE_D (T : TabOk P tab ext) {run : VC → St → Option (Ex × St)} (hr : RunOk P run) : ∀ (l : List VI) {st st' : St} {K : St → Prop}, opsE (callE tab ext run true) noYld l st = some st' → K st' → OpsD P l st K
  | [], st, st', K, h, hk => by cases h; exact hk
  | i :: r, st, st', K, h, hk => by
    simp only [opsE] at h
    split at h
    · rename_i s hs
      exact stepE_D T hr (K := fun s => OpsD P r s K) hs (opsE_D T hr r h hk)
    · cases h

theorem exec_ok (T : TabOk P tab ext) : ∀ n, RunOk P (exec tab ext n)
  | 0 => fun c st e st' K h _ => by simp [exec] at h
  | n + 1 => by
    have ih := exec_ok T n
    intro c st e st' K h hk
    cases c with
    | skip => simp only [exec, Option.some.injEq, Prod.mk.injEq] at h; obtain ⟨rfl, rfl⟩ := h; exact hk
    | reg ops d =>
      cases d with
      | none =>
        simp only [exec] at h
        split at h
        · rename_i s hs
          cases h
          exact opsN_W T ih ops hs hk
        · cases h
      | some o =>
        simp only [exec] at h
        split at h
        · rename_i s hs
          cases h
          exact opsE_D T ih ops hs hk
        · cases h
    | seq a b =>
      simp only [exec] at h
      split at h
      · rename_i s hs
        simp only [Wp]
        exact ih a _ _ _ _ hs (ih b _ _ _ _ h hk)
      · rename_i hn
        simp only [Wp]
        refine ih a _ _ _ _ h ?_
        cases e with
        | nrm => exact absurd h (hn _)
        | ext id => exact hk
        | ret => exact hk
    | cond c a b =>
      simp only [exec] at h
      simp only [Wp]
      split at h
      · rename_i hc; rw [hc]; exact ⟨fun _ => ih _ _ _ _ _ h hk, nofun⟩
      · rename_i hc; rw [hc]; exact ⟨nofun, fun _ => ih _ _ _ _ _ h hk⟩
      · cases h
    | block id c =>
      simp only [exec] at h
      split at h
      · rename_i j s hs
        simp only [Wp]
        refine ih c _ _ _ _ hs ?_
        simp only
        split at h
        · rename_i e; rw [if_pos e]; cases h; exact hk
        · rename_i e; rw [if_neg e]; cases h; exact hk
      · rename_i hn
        simp only [Wp]
        refine ih c _ _ _ _ h ?_
        cases e with
        | nrm => exact hk
        | ext j => exact absurd h (hn _ _)
        | ret => exact hk
    | loop c =>
      simp only [exec] at h
      split at h
      · rename_i s hs
        obtain ⟨m, hm⟩ := ih _ _ _ _ _ h hk
        exact ⟨m + 1, ih _ _ _ _ _ hs hm⟩
      · rename_i hn
        refine ⟨1, ih _ _ _ _ _ h ?_⟩
        cases e with
        | nrm => exact absurd h (hn _)
        | ext id => exact hk
        | ret => exact hk
    | exit id => simp only [exec, Option.some.injEq, Prod.mk.injEq] at h; obtain ⟨rfl, rfl⟩ := h; exact hk
    | ret => simp only [exec, Option.some.injEq, Prod.mk.injEq] at h; obtain ⟨rfl, rfl⟩ := h; exact hk
    | scope c =>
      simp only [exec] at h
      show Wp P c st K
      exact ih _ _ _ _ _ h hk
    | rfn nest nt f ps a b =>
      simp only [exec] at h
      simp only [Wp]
      split at h
      · cases h
      · rename_i g cap hf
        rw [hf]
        split at h
        · cases h
        · rename_i q ob2 hi
          refine (impE_ok T ih hi).mono ?_
          rintro v o2 ⟨rfl, rfl⟩
          unfold EndL
          split at h
          · rename_i ho
            rw [ho]
            split at h
            · rename_i hs
              cases h
              exact ⟨hs, hk⟩
            · cases h
          · cases h
    | drop s k c =>
      simp only [exec] at h
      simp only [Wp]
      split at h
      · rename_i hd; rw [hd]; exact ih _ _ _ _ _ h hk
      · cases h
    | own s f sz c =>
      simp only [exec] at h
      simp only [Wp]
      split at h
      · rename_i hd; rw [hd]; exact ih _ _ _ _ _ h hk
      · cases h

/-- what a run of a function on data answers -/
def runF (tab : Nat → Option VF) (ext : Nat → List VV → Option VV) (n f : Nat) (args : List VV) : Option VV := pureE tab (exec tab ext n) f args

theorem runF_ok (T : TabOk P tab ext) {n f : Nat} {args : List VV} {r : VV} (h : runF tab ext n f args = some r) : PureC P f args r := pureE_ok T (exec_ok T n) h

end
end Go.V

/- V, part 26: arguments that a reader can read are data of V. -/
set_option linter.unusedVariables false
set_option linter.unusedSimpArgs false
namespace Go.V
open Go.RowKit

def isStruct (P : Program) (t : TypeId) : Bool := match P.underlying t with | some (.struct _) => true | some (.array _ _) => true | _ => false

def stOk (P : Program) (t : TypeId) : VV → Bool
  | .agg _ => isStruct P t
  | _ => !isStruct P t

/-- the fields lie one behind the other -/
def lay (P : Program) : List Field → Nat → Nat → Bool
  | [], o, n => o == n
  | f :: l, o, n => f.offset == o && lay P l (o + P.cellsOf f.type) n

/-- an array's places, as fields -/
def arrL (sz : Nat) (e : TypeId) : Nat → Nat → List Field
  | 0, _ => []
  | k + 1, i => { name := "", type := e, offset := i * sz, embedded := false, tag := "", pkgPath := "", byteOffset := 0 } :: arrL sz e k (i + 1)
theorem arrL_mem {sz : Nat} {e : TypeId} : ∀ {k i : Nat} {f : Field}, f ∈ arrL sz e k i → ∃ j, i ≤ j ∧ j < i + k ∧ f.type = e ∧ f.offset = j * sz
  | 0, i, f, h => by cases h
  | k + 1, i, f, h => by
    rcases List.mem_cons.1 h with rfl | h
    · exact ⟨i, Nat.le_refl _, by omega, rfl, rfl⟩
    · obtain ⟨j, h1, h2, h3⟩ := arrL_mem h
      exact ⟨j, by omega, by omega, h3⟩
/-- a set of types, closed: numbers, bools, strings, slices, structs, arrays -/
def closedB (P : Program) (S : List TypeId) : Bool := S.all fun t => match P.underlying t with
  | some .bool | some (.int _) | some .string => P.cellsOf t == 1
  | some (.slice e) => P.cellsOf t == 1 && S.contains e && 0 < P.cellsOf e
  | some (.struct fs) => fs.toList.all (fun f => S.contains f.type) && lay P fs.toList 0 (P.cellsOf t)
  | some (.array k e) => S.contains e && lay P (arrL (P.cellsOf e) e k 0) 0 (P.cellsOf t)
  | _ => false

def fieldsOk (P : Program) (r : TypeId → List VV → Bool) : List Field → List VV → Bool
  | [], vs => vs.isEmpty
  | f :: l, vs => decide (P.cellsOf f.type ≤ vs.length) && r f.type (vs.take (P.cellsOf f.type)) && fieldsOk P r l (vs.drop (P.cellsOf f.type))

/-- cells of a type, as data -/
def tyOk (P : Program) : Nat → TypeId → List VV → Bool
  | 0, _, _ => false
  | n + 1, t, vs => match P.underlying t, vs with
    | some .bool, [.bool _] => true
    | some (.int k), [.int k' m] => decide (k' = k) && (Lit.int k m).wf
    | some .string, [.str s] => decide (s.length ≤ maxLen)
    | some (.slice e), [.sl es t] => t == 0 && decide (es.length ≤ maxLen) && es.all fun v => tyOk P n e v.cells && stOk P e v
    | some (.struct fs), vs => fieldsOk P (tyOk P n) fs.toList vs
    | some (.array k e), vs => fieldsOk P (tyOk P n) (arrL (P.cellsOf e) e k 0) vs
    | _, _ => false

/-- every block's cells are data that nobody turns -/
def Fof (w : World) (b : Nat) : Nat := match w.heap[b]? with | some (.cells c _ _) => c.size | _ => 0

section
variable {P : Program} {H : Type} {enc : TypeId × Value → H} {w : World} {base : Nat} {spare : Nat → Bool} {held : Bool} {tb : Nat → Option Nat}

theorem Fof_zero {b : Nat} (h : w.heap.size ≤ b) : Fof w b = 0 := by
  unfold Fof
  rw [Array.getElem?_eq_none h]

theorem cell_plain {a : Addr} {v : Value} (h : w.cell? a = some v) : a.spot = none ∧ a.off < Fof w a.block := by
  unfold World.cell? at h
  split at h
  · rename_i c _ _ hb
    split at h
    · cases h
    · rename_i hs
      refine ⟨by simpa using hs, ?_⟩
      unfold Fof
      rw [hb]
      exact (Array.getElem?_eq_some_iff.1 h).1
  · cases h

theorem cell_add {a : Addr} {k : Nat} {v : Value} (h : w.cell? (a.add k) = some v) : w.cell? ⟨a.block, a.off + k, none⟩ = some v := by
  have hp := cell_plain h
  unfold Addr.add at h hp
  split at h
  · rename_i e
    subst e
    simp only [if_true] at hp
    obtain ⟨b, o, s⟩ := a
    simp only at hp
    obtain ⟨rfl, _⟩ := hp
    exact h
  · exact h

theorem cell_add2 {a : Addr} {k j : Nat} {v : Value} (h : w.cell? ((a.add k).add j) = some v) : w.cell? ⟨a.block, a.off + k + j, none⟩ = some v := by
  have := cell_add h
  unfold Addr.add at this
  split at this
  · rename_i e; subst e; exact this
  · exact this

theorem mapM_get {α β : Type} {f : α → Option β} : ∀ {l : List α} {r : List β}, l.mapM f = some r → r.length = l.length ∧ ∀ i (h : i < l.length) (h' : i < r.length), f l[i] = some r[i]
  | [], r, h => by simp at h; subst h; exact ⟨rfl, fun i h => absurd h (by simp)⟩
  | x :: l, r, h => by
    simp only [List.mapM_cons, Option.bind_eq_bind, Option.bind_eq_some_iff, Option.pure_def, Option.some.injEq] at h
    obtain ⟨y, hy, s, hs, rfl⟩ := h
    obtain ⟨h1, h2⟩ := mapM_get hs
    refine ⟨by simp [h1], fun i h h' => ?_⟩
    cases i with
    | zero => exact hy
    | succ i => exact h2 i (by simpa using h) (by simpa using h')

theorem cells_get {a : Addr} {n : Nat} {l : List Value} (h : w.cells? base a n = some l) : l.length = n ∧ ∀ j (h : j < l.length), w.cell? (a.add j) = some l[j] := by
  unfold World.cells? at h
  split at h
  · obtain ⟨h1, h2⟩ := mapM_get h
    simp only [List.length_range] at h1 h2
    refine ⟨h1, fun j hj => ?_⟩
    have := h2 j (by omega) hj
    simpa using this
  · cases h

/-- data cell by cell -/
structure Data (P : Program) (w : World) (tb : Nat → Option Nat) (n : Nat) (t : TypeId) (vs : List VV) (cs : List Value) : Prop where
  len : vs.length = cs.length
  rep : ∀ j (h : j < vs.length) (h' : j < cs.length), Rep w (Fof w) tb vs[j] cs[j]
  canon : vs.all VV.canon0 = true
  ty : tyOk P n t vs = true

theorem canon0_cells {v : VV} (h : v.canon0 = true) : v.cells = [v] := by
  cases v <;> first | rfl | (simp [VV.canon0] at h)

theorem canon_of0 {v : VV} (h : v.canon0 = true) : v.canon = true := by
  cases v <;> first | exact h | (simp [VV.canon0] at h)

/-- the element of a slice that these cells are -/
def mkE (P : Program) (e : TypeId) (vs : List VV) : VV := if isStruct P e then .agg vs else vs.headD .dead

theorem mkE_ok {n : Nat} {e : TypeId} {vs : List VV} (hc : vs.all VV.canon0 = true) (h1 : isStruct P e = false → vs.length = 1) (ht : tyOk P n e vs = true) :
    (mkE P e vs).cells = vs ∧ (mkE P e vs).canon = true ∧ (tyOk P n e (mkE P e vs).cells && stOk P e (mkE P e vs)) = true := by
  unfold mkE
  cases hs : isStruct P e with
  | true => exact ⟨rfl, hc, by simp [VV.cells, ht, stOk, hs]⟩
  | false =>
    obtain ⟨v, rfl⟩ := List.length_eq_one_iff.1 (h1 hs)
    simp only [List.all_cons, List.all_nil, Bool.and_true] at hc
    simp only [Bool.false_eq_true, if_false, List.headD_cons]
    rw [canon0_cells hc]
    refine ⟨rfl, canon_of0 hc, ?_⟩
    rw [ht]
    cases v <;> first | (simp [stOk, hs]; done) | (simp [VV.canon0] at hc)

theorem lay_le : ∀ {l : List Field} {o n : Nat}, lay P l o n = true → o ≤ n
  | [], o, n, h => by simp only [lay, beq_iff_eq] at h; omega
  | f :: l, o, n, h => by
    simp only [lay, Bool.and_eq_true] at h
    have := lay_le h.2
    omega

theorem struct_data {n : Nat} {cs : List Value} : ∀ (l : List Field) (o : Nat), lay P l o cs.length = true → (∀ f ∈ l, ∃ vs, Data P w tb n f.type vs ((cs.drop f.offset).take (P.cellsOf f.type))) →
    ∃ us : List VV, us.length = (cs.drop o).length ∧ (∀ j (h : j < us.length) (h' : j < (cs.drop o).length), Rep w (Fof w) tb us[j] (cs.drop o)[j]) ∧ us.all VV.canon0 = true ∧ fieldsOk P (tyOk P n) l us = true
  | [], o, hl, _ => by
    simp only [lay, beq_iff_eq] at hl
    exact ⟨[], by simp [hl], fun j h => absurd h (by simp), rfl, rfl⟩
  | f :: l, o, hl, h => by
    simp only [lay, Bool.and_eq_true, beq_iff_eq] at hl
    obtain ⟨rfl, hl⟩ := hl
    obtain ⟨vs, hd⟩ := h f (by simp)
    obtain ⟨us, h1, h2, h3, h4⟩ := struct_data l _ hl fun g hg => h g (by simp [hg])
    have hle := lay_le hl
    have hlen : vs.length = P.cellsOf f.type := by have := hd.len; simp at this; omega
    refine ⟨vs ++ us, by simp [h1, hlen]; omega, fun j hj hj' => ?_, by rw [List.all_append, hd.canon, h3]; rfl, ?_⟩
    · by_cases e : j < vs.length
      · rw [List.getElem_append_left e]
        have := hd.rep j e (by rw [← hd.len]; exact e)
        simpa using this
      · have e' : vs.length ≤ j := by omega
        rw [List.getElem_append_right e']
        have hb : j - vs.length < us.length := by simp at hj; omega
        have := h2 (j - vs.length) hb (by rw [← h1]; exact hb)
        simp only [List.getElem_drop] at this ⊢
        have e3 : f.offset + P.cellsOf f.type + (j - vs.length) = f.offset + j := by omega
        simpa [e3] using this
    · simp only [fieldsOk, ← hlen, List.take_left', List.drop_left', Bool.and_eq_true, decide_eq_true_eq, List.length_append]
      exact ⟨⟨by omega, hd.ty⟩, h4⟩

theorem elems_data {n : Nat} {e : TypeId} {b o sz : Nat} : ∀ (m : Nat), (∀ i, i < m → ∃ cs vs, cs.length = sz ∧ (∀ j (h : j < cs.length), w.cell? ⟨b, o + i * sz + j, none⟩ = some cs[j]) ∧ Data P w tb n e vs cs) →
    ∃ L : List (List VV), L.length = m ∧ ∀ i (h : i < L.length), L[i].length = sz ∧ L[i].all VV.canon0 = true ∧ tyOk P n e L[i] = true ∧ ∀ j (h : j < L[i].length), ∃ x, w.cell? ⟨b, o + i * sz + j, none⟩ = some x ∧ Rep w (Fof w) tb L[i][j] x
  | 0, _ => ⟨[], rfl, fun i h => absurd h (by simp)⟩
  | m + 1, h => by
    obtain ⟨L, h1, h2⟩ := elems_data m fun i hi => h i (by omega)
    obtain ⟨cs, vs, k1, k2, k3⟩ := h m (by omega)
    refine ⟨L ++ [vs], by simp [h1], fun i hi => ?_⟩
    by_cases q : i < L.length
    · simp only [List.getElem_append_left q]
      exact h2 i q
    · have e1 : i = L.length := by simp at hi; omega
      subst e1
      simp only [List.getElem_append_right (Nat.le_refl _), Nat.sub_self, List.getElem_cons_zero]
      refine ⟨k3.len.trans k1, k3.canon, k3.ty, fun j hj => ?_⟩
      have hj' : j < cs.length := by rw [← k3.len]; exact hj
      exact ⟨cs[j], by rw [h1]; exact k2 j hj', k3.rep j hj hj'⟩

theorem scalar_len {S : List TypeId} (hS : closedB P S = true) {e : TypeId} (he : e ∈ S) (hs : isStruct P e = false) : P.cellsOf e = 1 := by
  have h := List.all_eq_true.1 hS e he
  unfold isStruct at hs
  split at h <;> simp_all

theorem trod_data {S : List TypeId} (hS : closedB P S = true) : ∀ (n : Nat) (t : TypeId) (cs : List Value) (x : DataW H × List MemPlace), t ∈ S → DataW.trod enc P w base spare held n t cs = some x → ∃ vs, Data P w tb n t vs cs
  | 0, t, cs, x, _, h => by simp [DataW.trod] at h
  | n + 1, t, cs, x, ht, h => by
    have hc := List.all_eq_true.1 hS t ht
    cases hu : P.underlying t with
    | none => rw [hu] at hc; cases hc
    | some d =>
      rw [hu] at hc
      cases d <;> simp only [Bool.false_eq_true] at hc
      case bool =>
        obtain ⟨b, rfl, _⟩ := DataW.trod_bool hu h
        exact ⟨[.bool b], rfl, fun j hj hj' => by obtain rfl : j = 0 := by simp at hj; omega
                                                  exact .bool b, rfl, by simp only [tyOk, hu]⟩
      case int k =>
        obtain ⟨m, rfl, _, hw⟩ := DataW.trod_int hu h
        exact ⟨[.int k m], rfl, fun j hj hj' => by obtain rfl : j = 0 := by simp at hj; omega
                                                   exact .int k m, rfl, by simp only [tyOk, hu]; simp [hw]⟩
      case string =>
        obtain ⟨b, rfl, _, hw⟩ := DataW.trod_string hu h
        exact ⟨[.str b.data.toList], rfl, fun j hj hj' => by obtain rfl : j = 0 := by simp at hj; omega
                                                             exact .str rfl, rfl, by simp only [tyOk, hu]; exact decide_eq_true (show b.data.toList.length ≤ maxLen by rw [Array.length_toList]; exact hw)⟩
      case slice e =>
        simp only [Bool.and_eq_true, beq_iff_eq, decide_eq_true_eq] at hc
        obtain ⟨⟨hsz1, heS⟩, hsz⟩ := hc
        have heS : e ∈ S := by simpa using heS
        rcases DataW.trod_slice hu h with ⟨rfl, _⟩ | ⟨a, len, cap, elems, rest, n', hn, rfl, _, _, hlc, hcap, hel, hget, _, _⟩
        · exact ⟨[.sl [] 0], rfl, fun j hj hj' => by obtain rfl : j = 0 := by simp at hj; omega
                                                     exact .slE, rfl, by simp only [tyOk, hu]; simp⟩
        · obtain rfl : n' = n := by omega
          have each : ∀ i, i < len → ∃ cs vs, cs.length = P.cellsOf e ∧ (∀ j (h : j < cs.length), w.cell? ⟨a.block, a.off + i * P.cellsOf e + j, none⟩ = some cs[j]) ∧ Data P w tb n' e vs cs := fun i hi => by
            have hg := hget i hi
            have hsome : elems[i]? = some (elems[i]'(by omega)) := List.getElem?_eq_getElem (by omega)
            rw [hsome] at hg
            simp only [Option.bind_eq_some_iff] at hg
            obtain ⟨cs', hcs, htr⟩ := hg
            obtain ⟨vs, hd⟩ := trod_data hS n' e cs' _ heS htr
            obtain ⟨hl, hcell⟩ := cells_get hcs
            exact ⟨cs', vs, hl, fun j hj => cell_add2 (hcell j hj), hd⟩
          obtain ⟨L, hL, hLp⟩ := elems_data len each
          have hmk : ∀ i (h : i < L.length), (mkE P e L[i]).cells = L[i] ∧ (mkE P e L[i]).canon = true ∧ (tyOk P n' e (mkE P e L[i]).cells && stOk P e (mkE P e L[i])) = true := fun i hi =>
            mkE_ok (hLp i hi).2.1 (fun hs => by rw [(hLp i hi).1, scalar_len hS heS hs]) (hLp i hi).2.2.1
          refine ⟨[.sl (L.map (mkE P e)) 0], rfl, fun j hj hj' => ?_, rfl, ?_⟩
          · obtain rfl : j = 0 := by simp at hj; omega
            simp only [List.getElem_cons_zero]
            by_cases h0 : len = 0
            · have : L = [] := List.eq_nil_of_length_eq_zero (by omega)
              subst this
              subst h0
              exact .slE
            · have h0L : 0 < L.length := by omega
              obtain ⟨y, hy, _⟩ := (hLp 0 h0L).2.2.2 0 (by rw [(hLp 0 h0L).1]; exact hsz)
              have hspot : a = ⟨a.block, a.off, none⟩ := by
                have hg := hget 0 (by omega)
                have hsome : elems[0]? = some (elems[0]'(by omega)) := List.getElem?_eq_getElem (by omega)
                rw [hsome] at hg
                simp only [Option.bind_eq_some_iff] at hg
                obtain ⟨cs', hcs, _⟩ := hg
                obtain ⟨hl, hcell⟩ := cells_get hcs
                have := (cell_plain (hcell 0 (by omega))).1
                simp only [Nat.zero_mul, Addr.add, if_true] at this
                obtain ⟨b, o, s⟩ := a
                simp only at this
                subst this
                rfl
              rw [hspot]
              have hlen2 : (L.map (mkE P e)).length = len := by simp [hL]
              have hR := Rep.sl (w := w) (F := Fof w) (tb := tb) (es := L.map (mkE P e)) (t := 0) (b := a.block) (o := a.off) (cap := cap) (sz := P.cellsOf e) (fun i j => (w.cell? ⟨a.block, a.off + i * P.cellsOf e + j, none⟩).getD Go.undef)
                (by intro q; rw [q] at hlen2; simp at hlen2; omega) (by rw [hlen2]; exact hlc) hsz
                (fun i hi => by
                  have hi' : i < L.length := by simpa using hi
                  simp only [List.getElem_map]
                  exact ⟨(hmk i hi').2.1, by rw [(hmk i hi').1]; exact (hLp i hi').1⟩)
                (fun i hi j hj => by
                  have hi' : i < L.length := by simpa using hi
                  simp only [List.getElem_map, (hmk i hi').1] at hj
                  obtain ⟨y, hy, _⟩ := (hLp i hi').2.2.2 j hj
                  rw [hy]; rfl)
                (fun i hi j hj => by
                  have hi' : i < L.length := by simpa using hi
                  simp only [List.getElem_map, (hmk i hi').1] at hj ⊢
                  obtain ⟨y, hy, hr⟩ := (hLp i hi').2.2.2 j hj
                  rw [hy]; exact hr)
                (by
                  rw [hlen2]
                  have hlast : len - 1 < L.length := by omega
                  obtain ⟨y, hy, _⟩ := (hLp (len - 1) hlast).2.2.2 (P.cellsOf e - 1) (by rw [(hLp _ hlast).1]; omega)
                  have := (cell_plain hy).2
                  simp only at this
                  have e1 : len * P.cellsOf e = (len - 1) * P.cellsOf e + P.cellsOf e := by
                    obtain ⟨k, rfl⟩ : ∃ k, len = k + 1 := ⟨len - 1, by omega⟩
                    simp [Nat.add_mul]
                  omega)
              rw [hlen2] at hR
              exact hR
          · simp only [tyOk, hu, Bool.and_eq_true, decide_eq_true_eq, List.length_map, beq_self_eq_true, true_and]
            refine ⟨by omega, List.all_eq_true.2 fun v hv => ?_⟩
            obtain ⟨q, hq, rfl⟩ := List.mem_map.1 hv
            obtain ⟨i, hi, rfl⟩ := List.getElem_of_mem hq
            exact (hmk i hi).2.2
      case struct fs =>
        simp only [Bool.and_eq_true] at hc
        obtain ⟨xs, n', hn, _, hlen, hxl, hf⟩ := DataW.trod_struct hu h
        obtain rfl : n' = n := by omega
        have hlay : lay P fs.toList 0 cs.length = true := by rw [hlen]; exact hc.2
        obtain ⟨us, h1, h2, h3, h4⟩ := struct_data (w := w) (tb := tb) (n := n') fs.toList 0 hlay fun f hfm => by
          obtain ⟨i, hi, rfl⟩ := List.getElem_of_mem hfm
          have hi' : i < fs.size := by simpa using hi
          have hfi : fs[i]? = some fs.toList[i] := by simp [hi']
          have hx := hf i _ hfi
          have hsome : xs[i]? = some (xs[i]'(by omega)) := List.getElem?_eq_getElem (by omega)
          rw [hsome] at hx
          exact trod_data hS n' _ _ _ (by have := List.all_eq_true.1 hc.1 _ hfm; simpa using this) hx
        refine ⟨us, by simpa using h1, fun j hj hj' => by simpa using h2 j hj (by simpa using hj'), h3, ?_⟩
        simp only [tyOk, hu]
        exact h4

      case array k e =>
        simp only [Bool.and_eq_true] at hc
        obtain ⟨xs, n', hn, _, hlen, hxl, hf⟩ := DataW.trod_array hu h
        obtain rfl : n' = n := by omega
        have hlay : lay P (arrL (P.cellsOf e) e k 0) 0 cs.length = true := by rw [hlen]; exact hc.2
        obtain ⟨us, h1, h2, h3, h4⟩ := struct_data (w := w) (tb := tb) (n := n') (arrL (P.cellsOf e) e k 0) 0 hlay fun f hfm => by
          obtain ⟨i, _, hi, e1, e2⟩ := arrL_mem hfm
          have hx := hf i (by omega)
          have hsome : xs[i]? = some (xs[i]'(by omega)) := List.getElem?_eq_getElem (by omega)
          rw [hsome] at hx
          rw [e1, e2]
          exact trod_data hS n' _ _ _ (by simpa using hc.1) hx
        refine ⟨us, by simpa using h1, fun j hj hj' => by simpa using h2 j hj (by simpa using hj'), h3, ?_⟩
        simp only [tyOk, hu]
        exact h4

end
end Go.V

/- V, part 27: one argument; a law's answer. -/
set_option linter.unusedVariables false
set_option linter.unusedSimpArgs false
namespace Go.V
open Go.RowKit Go.WideShapes

theorem okWide_arr {P : Program} {w : World} {r : Reach} {base : Nat} {t : TypeId} {v : Value} {k : Nat} {e : TypeId} (ht : P.underlying t = some (.array k e)) (h : Value.okWide P w r base t v) : ∃ cs, v = .agg cs := by
  simp only [Value.okWide, ht] at h
  obtain ⟨cs, h1, _⟩ := h
  exact ⟨cs, h1⟩
/-- an argument of a type, as data -/
structure Arg (P : Program) (w : World) (t : TypeId) (vv : VV) (v : Value) : Prop where
  rep : Rep w (Fof w) (fun _ => none) vv v
  ok : argOk vv = true
  ty : ∃ n, tyOk P n t vv.cells = true
  st : stOk P t vv = true

theorem argOk_canon {vv : VV} (h : vv.canon = true) : argOk vv = true := by
  have h0 : ∀ v : VV, v.canon0 = true → v.noHnd0 = true ∧ v.ids 0 = true := fun v h => ⟨by cases v <;> simp_all [VV.canon0, VV.noHnd0], canon0_ids 0 h⟩
  cases vv with
  | agg cs =>
    simp only [VV.canon, List.all_eq_true] at h
    simp only [argOk, VV.noHnd, VV.ids, Bool.and_eq_true, List.all_eq_true]
    exact ⟨fun v hv => (h0 v (h v hv)).1, idsL_of fun v hv => (h0 v (h v hv)).2⟩
  | tup cs => simp [VV.canon, VV.canon0] at h
  | dead => simp [VV.canon, VV.canon0] at h
  | _ =>
    simp only [VV.canon] at h
    have := h0 _ h
    simp only [argOk, VV.noHnd, this.1, this.2, Bool.and_self]

section
variable {P : Program} {H : Type} {enc : TypeId × Value → H} {w : World} {base : Nat} {spare : Nat → Bool} {held : Bool}

theorem arg_data {S : List TypeId} (hS : closedB P S = true) {t : TypeId} (ht : t ∈ S) {r : Reach} {b0 : Nat} {v : Value} (hv : Value.okWide P w r b0 t v) {d : DataW H} {ps : List MemPlace} (h : DataW.Trod enc P w base spare held t v d ps) :
    ∃ vv, Arg P w t vv v := by
  obtain ⟨n, h⟩ := h
  obtain ⟨vs, hd⟩ := trod_data (tb := fun _ => none) hS n t _ _ ht h
  have hc := List.all_eq_true.1 hS t ht
  have mk := mkE_ok (P := P) (e := t) hd.canon (fun hs => by
    have hlen := hd.len
    have : v.cells.toList.length = 1 := by
      unfold isStruct at hs
      cases hu : P.underlying t with
      | none => rw [hu] at hc; cases hc
      | some dd =>
        rw [hu] at hc hs
        cases dd <;> simp only [Bool.false_eq_true] at hc hs
        case bool => obtain ⟨b, hb, _⟩ := DataW.trod_bool hu h; rw [hb]; rfl
        case int k => obtain ⟨b, hb, _⟩ := DataW.trod_int hu h; rw [hb]; rfl
        case string => obtain ⟨b, hb, _⟩ := DataW.trod_string hu h; rw [hb]; rfl
        case slice e => rcases DataW.trod_slice hu h with ⟨hb, _⟩ | ⟨a, len, cap, _, _, _, _, hb, _⟩ <;> (rw [hb]; rfl)
        all_goals (exact absurd hs (by simp))
    omega) hd.ty
  obtain ⟨m1, m2, m3⟩ := mk
  rw [m1, Bool.and_eq_true] at m3
  refine ⟨mkE P t vs, ?_, argOk_canon m2, ⟨n, by rw [m1]; exact hd.ty⟩, m3.2⟩
  unfold mkE
  cases hs : isStruct P t with
  | true =>
    simp only [if_true]
    have hst : ∃ cs, v = .agg cs := by
      unfold isStruct at hs
      split at hs
      · rename_i hu
        obtain ⟨cs, e, _⟩ := okWide_struct hu hv
        exact ⟨cs, e⟩
      · rename_i hu
        exact okWide_arr hu hv
      · cases hs
    obtain ⟨cs, rfl⟩ := hst
    have hlen : vs.length = cs.size := by have := hd.len; simpa [Value.cells] using this
    refine .agg hlen.symm (List.all_eq_true.2 fun u hu => canon0_isCell (List.all_eq_true.1 hd.canon u hu)) fun j hj => ?_
    have := hd.rep j hj (by simpa [Value.cells] using (by omega : j < cs.size))
    simpa [Value.cells] using this
  | false =>
    simp only [Bool.false_eq_true, if_false]
    have hcell : v.cells = #[v] := by
      unfold isStruct at hs
      cases hu : P.underlying t with
      | none => rw [hu] at hc; cases hc
      | some dd =>
        rw [hu] at hc hs
        cases dd <;> simp only [Bool.false_eq_true] at hc hs
        case bool => obtain ⟨b, rfl⟩ := okWide_bool hu hv; rfl
        case int k => obtain ⟨b, rfl⟩ := okWide_int hu hv; rfl
        case string => obtain ⟨b, rfl⟩ := okWide_string hu hv; rfl
        case slice e => obtain ⟨a, l, c, rfl⟩ := okWide_slice hu hv; rfl
        all_goals (exact absurd hs (by simp))
    have hl := hd.len
    rw [hcell] at hl
    obtain ⟨u, rfl⟩ := List.length_eq_one_iff.1 (by simpa using hl)
    have := hd.rep 0 (by simp) (by rw [hcell]; simp)
    simpa [hcell] using this

/-- a law, answered -/
theorem law_calls {f : Nat} {vals : Array Value} {args : List VV} (hG : GlobOk w) (h : PureC P f args (.bool true)) (hl : vals.size = args.length) (hr : ∀ j (h : j < args.length) (h' : j < vals.size), Rep w (Fof w) (fun _ => none) args[j] vals[j]) :
    Calls P f vals w fun e w' => e = .returned (.bool true) ∧ Below w.heap.size w w' :=
  callsIn_wide.1 (CallsIn.mono (h.2 w (Fof w) vals hG (fun b hb => Fof_zero hb) hl hr) fun e w' ⟨x, F', he, hb, _, _, hres⟩ => by
    subst he
    have := hres.rep fun _ => none
    cases this with
    | bool => exact ⟨rfl, hb.b⟩)

end
end Go.V

/- V, part 28: rules for hand proofs. -/
set_option linter.unusedVariables false
set_option linter.unusedSimpArgs false
namespace Go.V
open Go.RowKit

/-- A loop, by what holds at its head. -/
theorem v_loop {P : Program} {c : VC} {K : Ex → St → Prop} {α : Type} (inv : α → St → Prop) (m : α → Nat)
    (h : ∀ a st, inv a st → Wp P c st fun e st' => match e with
      | .nrm => ∃ a', inv a' st' ∧ m a' < m a
      | .ext id => K (.ext id) st'
      | .ret => K .ret st') : ∀ a st, inv a st → Wp P (.loop c) st K := by
  have key : ∀ n a st, m a < n → inv a st → iterW (Wp P c) K n st := by
    intro n
    induction n with
    | zero => exact fun a st hlt _ => absurd hlt (Nat.not_lt_zero _)
    | succ n ih =>
      intro a st hlt hi
      refine wp_mono _ _ _ (fun e s hs => ?_) (h a st hi)
      cases e with
      | nrm =>
        obtain ⟨a', hi', hm⟩ := hs
        exact ih a' s (by omega) hi'
      | ext id => exact hs
      | ret => exact hs
  exact fun a st hi => ⟨m a + 1, key _ a st (Nat.lt_succ_self _) hi⟩

end Go.V

/- V, part 29: V run on states that are not known in full: equations with named continuations. -/
set_option linter.unusedVariables false
set_option linter.unusedSimpArgs false
namespace Go.V
open Go.RowKit

theorem byRfl {α : Sort _} {a b : α} (h : a = b) : a = b := h

def contS (P : Program) (b : VC) (K : Ex → St → Prop) : Ex → St → Prop
  | .nrm, st => Wp P b st K
  | .ext id, st => K (.ext id) st
  | .ret, st => K .ret st
def contB (id : Nat) (K : Ex → St → Prop) : Ex → St → Prop
  | .nrm, st => K .nrm st
  | .ext j, st => if j = id then K .nrm st else K (.ext j) st
  | .ret, st => K .ret st
def nrmK (K : Ex → St → Prop) : St → Prop := fun st => K .nrm st
def opsK (P : Program) (r : List VI) (K : St → Prop) : St → Prop := fun st => Ops P r st K
def opsDK (P : Program) (r : List VI) (K : St → Prop) : St → Prop := fun st => OpsD P r st K

def GuardW (P : Program) (gv : VV) (b : Bool) (d : Option Nat) (o : VOp) (st : St) (k : St → Prop) : Prop :=
  match (match gv with | .bool c => some (c == b) | .tup [] => some false | _ => none) with
  | none => False
  | some false => k { st with env := putD st.env d (.tup []) }
  | some true => OpW P ⟨d, none, o⟩ st k
def GuardD (P : Program) (gv : VV) (b : Bool) (d : Option Nat) (o : VOp) (st : St) (k : St → Prop) : Prop :=
  match (match gv with | .bool c => some (c == b) | .tup [] => some false | _ => none) with
  | none => False
  | some false => k { st with env := putD st.env d (.tup []) }
  | some true => OpD P ⟨d, none, o⟩ st k
def boxV (v : VV) (ob : List Obj) : Option (VV × List Obj) := match v with
  | .dead | .tup _ => none
  | v => some (.ptr ob.length 0, ob ++ [.cells v.cells])
theorem box_agg {cs : List VV} {ob : List Obj} : boxV (.agg cs) ob = some (.ptr ob.length 0, ob ++ [.cells cs]) := byRfl rfl
theorem box_int {q : IntKind} {n : Int} {ob : List Obj} : boxV (.int q n) ob = some (.ptr ob.length 0, ob ++ [.cells [.int q n]]) := byRfl rfl
theorem box_bool {n : Bool} {ob : List Obj} : boxV (.bool n) ob = some (.ptr ob.length 0, ob ++ [.cells [.bool n]]) := byRfl rfl
theorem box_str {n : List UInt8} {ob : List Obj} : boxV (.str n) ob = some (.ptr ob.length 0, ob ++ [.cells [.str n]]) := byRfl rfl
theorem box_sl {l : List VV} {n : Nat} {ob : List Obj} : boxV (.sl l n) ob = some (.ptr ob.length 0, ob ++ [.cells [.sl l n]]) := byRfl rfl
theorem box_nils {ob : List Obj} : boxV .nils ob = some (.ptr ob.length 0, ob ++ [.cells [.nils]]) := byRfl rfl
theorem box_fn {f : Nat} {l : List VV} {ob : List Obj} : boxV (.fn f l) ob = some (.ptr ob.length 0, ob ++ [.cells [.fn f l]]) := byRfl rfl
theorem box_nilf {ob : List Obj} : boxV .nilf ob = some (.ptr ob.length 0, ob ++ [.cells [.nilf]]) := byRfl rfl
theorem box_mp {o : Nat} {ob : List Obj} : boxV (.mp o) ob = some (.ptr ob.length 0, ob ++ [.cells [.mp o]]) := byRfl rfl
theorem box_yld {o : Nat} {ob : List Obj} : boxV (.yld o) ob = some (.ptr ob.length 0, ob ++ [.cells [.yld o]]) := byRfl rfl
def EvK (r : Option (VV × List Obj)) (d : Option Nat) (st : St) (k : St → Prop) : Prop := match r with
  | some (v, ob') => k { st with env := putD st.env d v, ob := ob' }
  | none => False

def CondK (P : Program) (v : VV) (a b : VC) (st : St) (K : Ex → St → Prop) : Prop := match v with
  | .bool t => (t = true → Wp P a st K) ∧ (t = false → Wp P b st K)
  | _ => False
section
variable {P : Program} {st : St} {K : Ex → St → Prop} {k : St → Prop} {d : Option Nat} {o : VOp} {b : Bool}

theorem e_grd {s : Nat} : OpW P ⟨d, some (s, b), o⟩ st k = GuardW P (get st.env s) b d o st k := byRfl rfl
theorem e_grdD {s : Nat} : OpD P ⟨d, some (s, b), o⟩ st k = GuardD P (get st.env s) b d o st k := byRfl rfl
theorem g_tt : GuardW P (.bool true) true d o st k = OpW P ⟨d, none, o⟩ st k := byRfl rfl
theorem g_ff : GuardW P (.bool false) false d o st k = OpW P ⟨d, none, o⟩ st k := byRfl rfl
theorem g_tf : GuardW P (.bool true) false d o st k = k { st with env := putD st.env d (.tup []) } := byRfl rfl
theorem g_ft : GuardW P (.bool false) true d o st k = k { st with env := putD st.env d (.tup []) } := byRfl rfl
theorem g_tup : GuardW P (.tup []) b d o st k = k { st with env := putD st.env d (.tup []) } := byRfl rfl
theorem gd_tt : GuardD P (.bool true) true d o st k = OpD P ⟨d, none, o⟩ st k := byRfl rfl
theorem gd_ff : GuardD P (.bool false) false d o st k = OpD P ⟨d, none, o⟩ st k := byRfl rfl
theorem gd_tf : GuardD P (.bool true) false d o st k = k { st with env := putD st.env d (.tup []) } := byRfl rfl
theorem gd_ft : GuardD P (.bool false) true d o st k = k { st with env := putD st.env d (.tup []) } := byRfl rfl
theorem gd_tup : GuardD P (.tup []) b d o st k = k { st with env := putD st.env d (.tup []) } := byRfl rfl
theorem ow_mov {x0} : OpW P ⟨d, none, .mov x0⟩ st k = EvK ((VOp.mov x0).ev st.toS0) d st k := byRfl rfl
theorem od_mov {x0} : OpD P ⟨d, none, .mov x0⟩ st k = EvK ((VOp.mov x0).ev st.toS0) d st k := byRfl rfl
theorem ow_pick {x0} {x1} {x2} : OpW P ⟨d, none, .pick x0 x1 x2⟩ st k = EvK ((VOp.pick x0 x1 x2).ev st.toS0) d st k := byRfl rfl
theorem od_pick {x0} {x1} {x2} : OpD P ⟨d, none, .pick x0 x1 x2⟩ st k = EvK ((VOp.pick x0 x1 x2).ev st.toS0) d st k := byRfl rfl
theorem ow_alloc {x0} : OpW P ⟨d, none, .alloc x0⟩ st k = EvK ((VOp.alloc x0).ev st.toS0) d st k := byRfl rfl
theorem od_alloc {x0} : OpD P ⟨d, none, .alloc x0⟩ st k = EvK ((VOp.alloc x0).ev st.toS0) d st k := byRfl rfl
theorem ow_box {x0 : Opd} : OpW P ⟨d, none, .box x0⟩ st k = EvK (boxV (x0.ev st.env) st.ob) d st k := byRfl rfl
theorem od_box {x0 : Opd} : OpD P ⟨d, none, .box x0⟩ st k = EvK (boxV (x0.ev st.env) st.ob) d st k := byRfl rfl
theorem ow_build {x0} {x1} : OpW P ⟨d, none, .build x0 x1⟩ st k = EvK ((VOp.build x0 x1).ev st.toS0) d st k := byRfl rfl
theorem od_build {x0} {x1} : OpD P ⟨d, none, .build x0 x1⟩ st k = EvK ((VOp.build x0 x1).ev st.toS0) d st k := byRfl rfl
theorem ow_bsl {x0} {x1} {x2} {x3} {x4} : OpW P ⟨d, none, .bsl x0 x1 x2 x3 x4⟩ st k = EvK ((VOp.bsl x0 x1 x2 x3 x4).ev st.toS0) d st k := byRfl rfl
theorem od_bsl {x0} {x1} {x2} {x3} {x4} : OpD P ⟨d, none, .bsl x0 x1 x2 x3 x4⟩ st k = EvK ((VOp.bsl x0 x1 x2 x3 x4).ev st.toS0) d st k := byRfl rfl
theorem ow_load {x0} {x1} : OpW P ⟨d, none, .load x0 x1⟩ st k = EvK ((VOp.load x0 x1).ev st.toS0) d st k := byRfl rfl
theorem od_load {x0} {x1} : OpD P ⟨d, none, .load x0 x1⟩ st k = EvK ((VOp.load x0 x1).ev st.toS0) d st k := byRfl rfl
theorem ow_load2 {x0} {x1} {x2} : OpW P ⟨d, none, .load2 x0 x1 x2⟩ st k = EvK ((VOp.load2 x0 x1 x2).ev st.toS0) d st k := byRfl rfl
theorem od_load2 {x0} {x1} {x2} : OpD P ⟨d, none, .load2 x0 x1 x2⟩ st k = EvK ((VOp.load2 x0 x1 x2).ev st.toS0) d st k := byRfl rfl
theorem ow_clr {x0} {x1} : OpW P ⟨d, none, .clr x0 x1⟩ st k = EvK ((VOp.clr x0 x1).ev st.toS0) d st k := byRfl rfl
theorem ow_cap {x0} : OpW P ⟨d, none, .capo x0⟩ st k = EvK ((VOp.capo x0).ev st.toS0) d st k := byRfl rfl
theorem ow_load3 {x0} {x1} {x2} : OpW P ⟨d, none, .load3 x0 x1 x2⟩ st k = EvK ((VOp.load3 x0 x1 x2).ev st.toS0) d st k := byRfl rfl
theorem od_load3 {x0} {x1} {x2} : OpD P ⟨d, none, .load3 x0 x1 x2⟩ st k = EvK ((VOp.load3 x0 x1 x2).ev st.toS0) d st k := byRfl rfl
theorem ow_store3 {x0} {x1} {x2} {x3} : OpW P ⟨d, none, .store3 x0 x1 x2 x3⟩ st k = EvK ((VOp.store3 x0 x1 x2 x3).ev st.toS0) d st k := byRfl rfl
theorem od_store3 {x0} {x1} {x2} {x3} : OpD P ⟨d, none, .store3 x0 x1 x2 x3⟩ st k = EvK ((VOp.store3 x0 x1 x2 x3).ev st.toS0) d st k := byRfl rfl
theorem ow_fill {x0} {x1} {x2} : OpW P ⟨d, none, .fill x0 x1 x2⟩ st k = EvK ((VOp.fill x0 x1 x2).ev st.toS0) d st k := byRfl rfl
theorem od_fill {x0} {x1} {x2} : OpD P ⟨d, none, .fill x0 x1 x2⟩ st k = EvK ((VOp.fill x0 x1 x2).ev st.toS0) d st k := byRfl rfl
theorem ow_store {x0} {x1} {x2} : OpW P ⟨d, none, .store x0 x1 x2⟩ st k = EvK ((VOp.store x0 x1 x2).ev st.toS0) d st k := byRfl rfl
theorem od_store {x0} {x1} {x2} : OpD P ⟨d, none, .store x0 x1 x2⟩ st k = EvK ((VOp.store x0 x1 x2).ev st.toS0) d st k := byRfl rfl
theorem ow_nilck {x0} : OpW P ⟨d, none, .nilck x0⟩ st k = EvK ((VOp.nilck x0).ev st.toS0) d st k := byRfl rfl
theorem od_nilck {x0} : OpD P ⟨d, none, .nilck x0⟩ st k = EvK ((VOp.nilck x0).ev st.toS0) d st k := byRfl rfl
theorem ow_bin {x0} {x1} {x2} {x3} : OpW P ⟨d, none, .bin x0 x1 x2 x3⟩ st k = EvK ((VOp.bin x0 x1 x2 x3).ev st.toS0) d st k := byRfl rfl
theorem od_bin {x0} {x1} {x2} {x3} : OpD P ⟨d, none, .bin x0 x1 x2 x3⟩ st k = EvK ((VOp.bin x0 x1 x2 x3).ev st.toS0) d st k := byRfl rfl
theorem ow_un {x0} {x1} : OpW P ⟨d, none, .un x0 x1⟩ st k = EvK ((VOp.un x0 x1).ev st.toS0) d st k := byRfl rfl
theorem od_un {x0} {x1} : OpD P ⟨d, none, .un x0 x1⟩ st k = EvK ((VOp.un x0 x1).ev st.toS0) d st k := byRfl rfl
theorem ow_cvi {x0} {x1} : OpW P ⟨d, none, .cvi x0 x1⟩ st k = EvK ((VOp.cvi x0 x1).ev st.toS0) d st k := byRfl rfl
theorem od_cvi {x0} {x1} : OpD P ⟨d, none, .cvi x0 x1⟩ st k = EvK ((VOp.cvi x0 x1).ev st.toS0) d st k := byRfl rfl
theorem ow_faddr {x0} {x1} : OpW P ⟨d, none, .faddr x0 x1⟩ st k = EvK ((VOp.faddr x0 x1).ev st.toS0) d st k := byRfl rfl
theorem od_faddr {x0} {x1} : OpD P ⟨d, none, .faddr x0 x1⟩ st k = EvK ((VOp.faddr x0 x1).ev st.toS0) d st k := byRfl rfl
theorem ow_fld {x0} {x1} {x2} : OpW P ⟨d, none, .fld x0 x1 x2⟩ st k = EvK ((VOp.fld x0 x1 x2).ev st.toS0) d st k := byRfl rfl
theorem od_fld {x0} {x1} {x2} : OpD P ⟨d, none, .fld x0 x1 x2⟩ st k = EvK ((VOp.fld x0 x1 x2).ev st.toS0) d st k := byRfl rfl
theorem ow_iaddr {x0} {x1} {x2} : OpW P ⟨d, none, .iaddr x0 x1 x2⟩ st k = EvK ((VOp.iaddr x0 x1 x2).ev st.toS0) d st k := byRfl rfl
theorem od_iaddr {x0} {x1} {x2} : OpD P ⟨d, none, .iaddr x0 x1 x2⟩ st k = EvK ((VOp.iaddr x0 x1 x2).ev st.toS0) d st k := byRfl rfl
theorem ow_idx {x0} {x1} : OpW P ⟨d, none, .idx x0 x1⟩ st k = EvK ((VOp.idx x0 x1).ev st.toS0) d st k := byRfl rfl
theorem od_idx {x0} {x1} : OpD P ⟨d, none, .idx x0 x1⟩ st k = EvK ((VOp.idx x0 x1).ev st.toS0) d st k := byRfl rfl
theorem ow_slc {x0} {x1} {x2} {x3} {x4} : OpW P ⟨d, none, .slc x0 x1 x2 x3 x4⟩ st k = EvK ((VOp.slc x0 x1 x2 x3 x4).ev st.toS0) d st k := byRfl rfl
theorem od_slc {x0} {x1} {x2} {x3} {x4} : OpD P ⟨d, none, .slc x0 x1 x2 x3 x4⟩ st k = EvK ((VOp.slc x0 x1 x2 x3 x4).ev st.toS0) d st k := byRfl rfl
theorem ow_ext {x0} {x1} : OpW P ⟨d, none, .ext x0 x1⟩ st k = EvK ((VOp.ext x0 x1).ev st.toS0) d st k := byRfl rfl
theorem od_ext {x0} {x1} : OpD P ⟨d, none, .ext x0 x1⟩ st k = EvK ((VOp.ext x0 x1).ev st.toS0) d st k := byRfl rfl
theorem ow_len {x0} {x1} : OpW P ⟨d, none, .len x0 x1⟩ st k = EvK ((VOp.len x0 x1).ev st.toS0) d st k := byRfl rfl
theorem od_len {x0} {x1} : OpD P ⟨d, none, .len x0 x1⟩ st k = EvK ((VOp.len x0 x1).ev st.toS0) d st k := byRfl rfl
theorem ow_app {x0} {x1} {x2} {x3} : OpW P ⟨d, none, .app x0 x1 x2 x3⟩ st k = EvK ((VOp.app x0 x1 x2 x3).ev st.toS0) d st k := byRfl rfl
theorem od_app {x0} {x1} {x2} {x3} : OpD P ⟨d, none, .app x0 x1 x2 x3⟩ st k = EvK ((VOp.app x0 x1 x2 x3).ev st.toS0) d st k := byRfl rfl
theorem ow_mm {x0} {x1} {x2} : OpW P ⟨d, none, .mm x0 x1 x2⟩ st k = EvK ((VOp.mm x0 x1 x2).ev st.toS0) d st k := byRfl rfl
theorem od_mm {x0} {x1} {x2} : OpD P ⟨d, none, .mm x0 x1 x2⟩ st k = EvK ((VOp.mm x0 x1 x2).ev st.toS0) d st k := byRfl rfl
theorem ow_mkfn {x0} {x1} : OpW P ⟨d, none, .mkfn x0 x1⟩ st k = EvK ((VOp.mkfn x0 x1).ev st.toS0) d st k := byRfl rfl
theorem od_mkfn {x0} {x1} : OpD P ⟨d, none, .mkfn x0 x1⟩ st k = EvK ((VOp.mkfn x0 x1).ev st.toS0) d st k := byRfl rfl
theorem ow_mkmap : OpW P ⟨d, none, .mkmap ⟩ st k = EvK ((VOp.mkmap ).ev st.toS0) d st k := byRfl rfl
theorem od_mkmap : OpD P ⟨d, none, .mkmap ⟩ st k = EvK ((VOp.mkmap ).ev st.toS0) d st k := byRfl rfl
theorem ow_lkp {x0} {x1} {x2} {x3} {x4} : OpW P ⟨d, none, .lkp x0 x1 x2 x3 x4⟩ st k = EvK ((VOp.lkp x0 x1 x2 x3 x4).ev st.toS0) d st k := byRfl rfl
theorem od_lkp {x0} {x1} {x2} {x3} {x4} : OpD P ⟨d, none, .lkp x0 x1 x2 x3 x4⟩ st k = EvK ((VOp.lkp x0 x1 x2 x3 x4).ev st.toS0) d st k := byRfl rfl
theorem ow_mset {x0} {x1} {x2} {x3} : OpW P ⟨d, none, .mset x0 x1 x2 x3⟩ st k = EvK ((VOp.mset x0 x1 x2 x3).ev st.toS0) d st k := byRfl rfl
theorem od_mset {x0} {x1} {x2} {x3} : OpD P ⟨d, none, .mset x0 x1 x2 x3⟩ st k = EvK ((VOp.mset x0 x1 x2 x3).ev st.toS0) d st k := byRfl rfl
theorem ow_mdel {x0} {x1} {x2} : OpW P ⟨d, none, .mdel x0 x1 x2⟩ st k = EvK ((VOp.mdel x0 x1 x2).ev st.toS0) d st k := byRfl rfl
theorem od_mdel {x0} {x1} {x2} : OpD P ⟨d, none, .mdel x0 x1 x2⟩ st k = EvK ((VOp.mdel x0 x1 x2).ev st.toS0) d st k := byRfl rfl
theorem e_call {f : Nat} {args : List Opd} {own : Option (Option Nat × Nat)} : OpW P ⟨d, none, .call f args own⟩ st k = CallW P f (args.map (Opd.ev st.env)) own d st k := byRfl rfl
theorem e_calln {f : Nat} {args : List Opd} {own : Option (Option Nat × Nat)} : OpW P ⟨d, none, .calln f args own⟩ st k = CallN P f (args.map (Opd.ev st.env)) own d st k := byRfl rfl
theorem e_callD {f : Nat} {args : List Opd} {own : Option (Option Nat × Nat)} : OpD P ⟨d, none, .call f args own⟩ st k = CallD P f (args.map (Opd.ev st.env)) own d st k := byRfl rfl
theorem evk_some {v : VV} {ob' : List Obj} : EvK (some (v, ob')) d st k = k { st with env := putD st.env d v, ob := ob' } := byRfl rfl

theorem ow_mks {x0} {x1} {x2} : OpW P ⟨d, none, .mks x0 x1 x2⟩ st k = EvK ((VOp.mks x0 x1 x2).ev st.toS0) d st k := byRfl rfl
theorem ow_mkif {x0} {x1} : OpW P ⟨d, none, .mkif x0 x1⟩ st k = EvK ((VOp.mkif x0 x1).ev st.toS0) d st k := byRfl rfl
theorem od_mkif {x0} {x1} : OpD P ⟨d, none, .mkif x0 x1⟩ st k = EvK ((VOp.mkif x0 x1).ev st.toS0) d st k := byRfl rfl
theorem ow_appr {x0} {x1} {x2} {x3} : OpW P ⟨d, none, .appr x0 x1 x2 x3⟩ st k = EvK ((VOp.appr x0 x1 x2 x3).ev st.toS0) d st k := byRfl rfl
theorem ow_store2 {x0} {x1} {x2} {x3} : OpW P ⟨d, none, .store2 x0 x1 x2 x3⟩ st k = EvK ((VOp.store2 x0 x1 x2 x3).ev st.toS0) d st k := byRfl rfl
theorem od_store2 {x0} {x1} {x2} {x3} : OpD P ⟨d, none, .store2 x0 x1 x2 x3⟩ st k = EvK ((VOp.store2 x0 x1 x2 x3).ev st.toS0) d st k := byRfl rfl
theorem od_appr {x0} {x1} {x2} {x3} : OpD P ⟨d, none, .appr x0 x1 x2 x3⟩ st k = EvK ((VOp.appr x0 x1 x2 x3).ev st.toS0) d st k := byRfl rfl
theorem ow_s2b {x0} : OpW P ⟨d, none, .s2b x0⟩ st k = EvK ((VOp.s2b x0).ev st.toS0) d st k := byRfl rfl
theorem ow_b2s {x0} : OpW P ⟨d, none, .b2s x0⟩ st k = EvK ((VOp.b2s x0).ev st.toS0) d st k := byRfl rfl
theorem od_mks {x0} {x1} {x2} : OpD P ⟨d, none, .mks x0 x1 x2⟩ st k = EvK ((VOp.mks x0 x1 x2).ev st.toS0) d st k := byRfl rfl
theorem ow_aaddr {x0} {x1} {x2} {x3} : OpW P ⟨d, none, .aaddr x0 x1 x2 x3⟩ st k = EvK ((VOp.aaddr x0 x1 x2 x3).ev st.toS0) d st k := byRfl rfl
theorem od_aaddr {x0} {x1} {x2} {x3} : OpD P ⟨d, none, .aaddr x0 x1 x2 x3⟩ st k = EvK ((VOp.aaddr x0 x1 x2 x3).ev st.toS0) d st k := byRfl rfl

theorem ow_mrng {x0} : OpW P ⟨d, none, .mrng x0⟩ st k = EvK ((VOp.mrng x0).ev st.toS0) d st k := byRfl rfl
theorem ow_mentry {x0} : OpW P ⟨d, none, .mentry x0⟩ st k = EvK ((VOp.mentry x0).ev st.toS0) d st k := byRfl rfl

theorem e_skip : Wp P .skip st K = K .nrm st := byRfl rfl
theorem e_scope {c : VC} : Wp P (.scope c) st K = Wp P c st K := byRfl rfl
theorem e_exit {id : Nat} : Wp P (.exit id) st K = K (.ext id) st := byRfl rfl
theorem e_ret : Wp P .ret st K = K .ret st := byRfl rfl
theorem e_reg {ops : List VI} : Wp P (.reg ops none) st K = Ops P ops st (nrmK K) := byRfl rfl
theorem e_regD {ops : List VI} {o : List Nat} : Wp P (.reg ops (some o)) st K = OpsD P ops st (nrmK K) := byRfl rfl
theorem e_seq {a b : VC} : Wp P (.seq a b) st K = Wp P a st (contS P b K) := by
  simp only [Wp]
  congr 1
  funext e s
  cases e <;> rfl
theorem e_block {id : Nat} {c : VC} : Wp P (.block id c) st K = Wp P c st (contB id K) := by
  simp only [Wp]
  congr 1
  funext e s
  cases e <;> rfl
theorem e_drop {s : List Nat} {c : VC} : Wp P (.drop s none c) st K = Wp P c { st with env := keepE st.env s } K := byRfl rfl
theorem e_dropk {s : List Nat} {k : Nat} {c : VC} (h : dropW st s (some k) = some { st with env := keepE st.env s, ob := st.ob.take (st.base + k) }) : Wp P (.drop s (some k) c) st K = Wp P c { st with env := keepE st.env s, ob := st.ob.take (st.base + k) } K := by
  simp only [Wp, h]
theorem dropW_ok {s : List Nat} {k : Nat} (h1 : st.base + k ≤ st.ob.length) (h2 : st.marks.all (fun o => decide (o < st.base + k)) = true) (h3 : (keepE st.env s).all (fun p => p.2.ids (st.base + k)) = true) (h4 : (st.ob.take (st.base + k)).all (Obj.idsB (st.base + k)) = true) :
    dropW st s (some k) = some { st with env := keepE st.env s, ob := st.ob.take (st.base + k) } := by
  simp only [dropW, h1, h2, h3, h4, and_self, if_true]
theorem e_if {x : Opd} {a b : VC} : Wp P (.cond x a b) st K = CondK P (x.ev st.env) a b st K := by
  simp only [Wp, CondK] <;> (cases x.ev st.env <;> rfl)
theorem if_t {a b : VC} : CondK P (.bool true) a b st K = Wp P a st K := by simp [CondK]
theorem if_f {a b : VC} : CondK P (.bool false) a b st K = Wp P b st K := by simp [CondK]
theorem if_s {t : Bool} {a b : VC} (h1 : t = true → Wp P a st K) (h2 : t = false → Wp P b st K) : CondK P (.bool t) a b st K := ⟨h1, h2⟩
theorem g_s {t : Bool} (h1 : t = b → OpW P ⟨d, none, o⟩ st k) (h2 : t = !b → k { st with env := putD st.env d (.tup []) }) : GuardW P (.bool t) b d o st k := by
  cases t <;> cases b <;> first | exact h1 rfl | exact h2 rfl
theorem gd_s {t : Bool} (h1 : t = b → OpD P ⟨d, none, o⟩ st k) (h2 : t = !b → k { st with env := putD st.env d (.tup []) }) : GuardD P (.bool t) b d o st k := by
  cases t <;> cases b <;> first | exact h1 rfl | exact h2 rfl
theorem w_drop {s : List Nat} {k : Nat} {c : VC} (h1 : st.base + k ≤ st.ob.length) (h2 : st.marks.all (fun o => decide (o < st.base + k)) = true) (h3 : (keepE st.env s).all (fun p => p.2.ids (st.base + k)) = true) (h4 : (st.ob.take (st.base + k)).all (Obj.idsB (st.base + k)) = true)
    (h : Wp P c { st with env := keepE st.env s, ob := st.ob.take (st.base + k) } K) : Wp P (.drop s (some k) c) st K := by
  simp only [Wp, dropW, h1, h2, h3, h4, and_self, if_true]
  exact h
theorem e_cond {x : Opd} {a b : VC} {t : Bool} (h : x.ev st.env = .bool t) : Wp P (.cond x a b) st K = ((t = true → Wp P a st K) ∧ (t = false → Wp P b st K)) := by
  simp only [Wp, h]
theorem contS_nrm {b : VC} : contS P b K .nrm st = Wp P b st K := byRfl rfl
theorem contS_ext {b : VC} {id : Nat} : contS P b K (.ext id) st = K (.ext id) st := byRfl rfl
theorem contS_ret {b : VC} : contS P b K .ret st = K .ret st := byRfl rfl
theorem contB_nrm {id : Nat} : contB id K .nrm st = K .nrm st := byRfl rfl
theorem contB_ret {id : Nat} : contB id K .ret st = K .ret st := byRfl rfl
theorem contB_ext {id j : Nat} : contB id K (.ext j) st = if j = id then K .nrm st else K (.ext j) st := byRfl rfl
theorem nrmK_eq : nrmK K st = K .nrm st := byRfl rfl
theorem ops_nil : Ops P [] st k = k st := byRfl rfl
theorem ops_cons {i : VI} {r : List VI} : Ops P (i :: r) st k = OpW P i st (opsK P r k) := byRfl rfl
theorem opsK_eq {r : List VI} : opsK P r k st = Ops P r st k := byRfl rfl
theorem opsD_nil : OpsD P [] st k = k st := byRfl rfl
theorem opsD_cons {i : VI} {r : List VI} : OpsD P (i :: r) st k = OpD P i st (opsDK P r k) := byRfl rfl
theorem opsDK_eq {r : List VI} : opsDK P r k st = OpsD P r st k := byRfl rfl
theorem callW_pure {f : Nat} {args args' : List VV} {d : Option Nat} {r : VV} (hp : PureC P f args' r) (ha : args.map VV.strip = args') (hi : args'.all (fun v => v.ids 0 && v.noTup) = true) (hk : k { st with env := putD st.env d r.stripT }) : CallW P f args none d st k := by
  subst ha
  exact Or.inl ⟨hi, r, hp, by simpa only [takeR] using hk⟩
theorem callD_pure {f : Nat} {args args' : List VV} {d : Option Nat} {r : VV} (hp : PureC P f args' r) (ha : args.map VV.strip = args') (hi : args'.all (fun v => v.ids 0 && v.noTup) = true) (hk : k { st with env := putD st.env d r.stripT }) : CallD P f args none d st k := by
  subst ha
  exact Or.inl ⟨hi, r, hp, by simpa only [takeR] using hk⟩

end
theorem bb1 : (true == true) = true := byRfl rfl
theorem bb2 : (true == false) = false := byRfl rfl
theorem bb3 : (false == true) = false := byRfl rfl
theorem bb4 : (false == false) = true := byRfl rfl
theorem nn1 : (!true) = false := byRfl rfl
theorem nn2 : (!false) = true := byRfl rfl
theorem nt_int {a : IntKind} {b : Int} : (VV.int a b).noTup = true := byRfl rfl
theorem st0_int {a : IntKind} {b : Int} : (VV.int a b).strip0 = (VV.int a b) := byRfl rfl
theorem st_int {a : IntKind} {b : Int} : (VV.int a b).strip = (VV.int a b) := byRfl rfl
theorem ic_int {a : IntKind} {b : Int} : (VV.int a b).isCell = true := byRfl rfl
theorem stT_int {a : IntKind} {b : Int} : (VV.int a b).stripT = (VV.int a b) := byRfl rfl
theorem ce_int {a : IntKind} {b : Int} : (VV.int a b).cells = [(VV.int a b)] := byRfl rfl
theorem nt_bool {a : Bool} : (VV.bool a).noTup = true := byRfl rfl
theorem st0_bool {a : Bool} : (VV.bool a).strip0 = (VV.bool a) := byRfl rfl
theorem st_bool {a : Bool} : (VV.bool a).strip = (VV.bool a) := byRfl rfl
theorem ic_bool {a : Bool} : (VV.bool a).isCell = true := byRfl rfl
theorem stT_bool {a : Bool} : (VV.bool a).stripT = (VV.bool a) := byRfl rfl
theorem ce_bool {a : Bool} : (VV.bool a).cells = [(VV.bool a)] := byRfl rfl
theorem nt_str {a : List UInt8} : (VV.str a).noTup = true := byRfl rfl
theorem st0_str {a : List UInt8} : (VV.str a).strip0 = (VV.str a) := byRfl rfl
theorem st_str {a : List UInt8} : (VV.str a).strip = (VV.str a) := byRfl rfl
theorem ic_str {a : List UInt8} : (VV.str a).isCell = true := byRfl rfl
theorem stT_str {a : List UInt8} : (VV.str a).stripT = (VV.str a) := byRfl rfl
theorem ce_str {a : List UInt8} : (VV.str a).cells = [(VV.str a)] := byRfl rfl
theorem nt_nilp  : (VV.nilp ).noTup = true := byRfl rfl
theorem st0_nilp  : (VV.nilp ).strip0 = (VV.nilp ) := byRfl rfl
theorem st_nilp  : (VV.nilp ).strip = (VV.nilp ) := byRfl rfl
theorem ic_nilp  : (VV.nilp ).isCell = true := byRfl rfl
theorem stT_nilp  : (VV.nilp ).stripT = (VV.nilp ) := byRfl rfl
theorem ce_nilp  : (VV.nilp ).cells = [(VV.nilp )] := byRfl rfl
theorem nt_ptr {a b : Nat} : (VV.ptr a b).noTup = true := byRfl rfl
theorem st0_ptr {a b : Nat} : (VV.ptr a b).strip0 = (VV.ptr a b) := byRfl rfl
theorem st_ptr {a b : Nat} : (VV.ptr a b).strip = (VV.ptr a b) := byRfl rfl
theorem ic_ptr {a b : Nat} : (VV.ptr a b).isCell = true := byRfl rfl
theorem stT_ptr {a b : Nat} : (VV.ptr a b).stripT = (VV.ptr a b) := byRfl rfl
theorem ce_ptr {a b : Nat} : (VV.ptr a b).cells = [(VV.ptr a b)] := byRfl rfl
theorem nt_pim {a : List VV} {b : Nat} : (VV.pim a b).noTup = true := byRfl rfl
theorem st0_pim {a : List VV} {b : Nat} : (VV.pim a b).strip0 = (VV.pim a b) := byRfl rfl
theorem st_pim {a : List VV} {b : Nat} : (VV.pim a b).strip = (VV.pim a b) := byRfl rfl
theorem ic_pim {a : List VV} {b : Nat} : (VV.pim a b).isCell = true := byRfl rfl
theorem stT_pim {a : List VV} {b : Nat} : (VV.pim a b).stripT = (VV.pim a b) := byRfl rfl
theorem ce_pim {a : List VV} {b : Nat} : (VV.pim a b).cells = [(VV.pim a b)] := byRfl rfl
theorem nt_nils  : (VV.nils ).noTup = true := byRfl rfl
theorem st0_nils  : (VV.nils ).strip0 = (VV.sl [] 0) := byRfl rfl
theorem st_nils  : (VV.nils ).strip = (VV.sl [] 0) := byRfl rfl
theorem ic_nils  : (VV.nils ).isCell = true := byRfl rfl
theorem stT_nils  : (VV.nils ).stripT = (VV.sl [] 0) := byRfl rfl
theorem ce_nils  : (VV.nils ).cells = [(VV.nils )] := byRfl rfl
theorem nt_sl {a : List VV} {b : Nat} : (VV.sl a b).noTup = true := byRfl rfl
theorem st0_sl {a : List VV} {b : Nat} : (VV.sl a b).strip0 = (VV.sl a 0) := byRfl rfl
theorem st_sl {a : List VV} {b : Nat} : (VV.sl a b).strip = (VV.sl a 0) := byRfl rfl
theorem ic_sl {a : List VV} {b : Nat} : (VV.sl a b).isCell = true := byRfl rfl
theorem stT_sl {a : List VV} {b : Nat} : (VV.sl a b).stripT = (VV.sl a 0) := byRfl rfl
theorem ce_sl {a : List VV} {b : Nat} : (VV.sl a b).cells = [(VV.sl a b)] := byRfl rfl
theorem nt_ifr {t a b c : Nat} : (VV.ifr t a b c).noTup = true := byRfl rfl
theorem st0_ifr {t a b c : Nat} : (VV.ifr t a b c).strip0 = (VV.ifr t a b c) := byRfl rfl
theorem st_ifr {t a b c : Nat} : (VV.ifr t a b c).strip = (VV.ifr t a b c) := byRfl rfl
theorem ic_ifr {t a b c : Nat} : (VV.ifr t a b c).isCell = true := byRfl rfl
theorem stT_ifr {t a b c : Nat} : (VV.ifr t a b c).stripT = (VV.ifr t a b c) := byRfl rfl
theorem ce_ifr {t a b c : Nat} : (VV.ifr t a b c).cells = [(VV.ifr t a b c)] := byRfl rfl
theorem nt_ife {t : Nat} : (VV.ife t).noTup = true := byRfl rfl
theorem st0_ife {t : Nat} : (VV.ife t).strip0 = (VV.ife t) := byRfl rfl
theorem st_ife {t : Nat} : (VV.ife t).strip = (VV.ife t) := byRfl rfl
theorem ic_ife {t : Nat} : (VV.ife t).isCell = true := byRfl rfl
theorem stT_ife {t : Nat} : (VV.ife t).stripT = (VV.ife t) := byRfl rfl
theorem ce_ife {t : Nat} : (VV.ife t).cells = [(VV.ife t)] := byRfl rfl
theorem nt_row {a b c : Nat} : (VV.row a b c).noTup = true := byRfl rfl
theorem st0_row {a b c : Nat} : (VV.row a b c).strip0 = (VV.row a b c) := byRfl rfl
theorem st_row {a b c : Nat} : (VV.row a b c).strip = (VV.row a b c) := byRfl rfl
theorem ic_row {a b c : Nat} : (VV.row a b c).isCell = true := byRfl rfl
theorem stT_row {a b c : Nat} : (VV.row a b c).stripT = (VV.row a b c) := byRfl rfl
theorem ce_row {a b c : Nat} : (VV.row a b c).cells = [(VV.row a b c)] := byRfl rfl
theorem nt_nilm  : (VV.nilm ).noTup = true := byRfl rfl
theorem st0_nilm  : (VV.nilm ).strip0 = (VV.nilm ) := byRfl rfl
theorem st_nilm  : (VV.nilm ).strip = (VV.nilm ) := byRfl rfl
theorem ic_nilm  : (VV.nilm ).isCell = true := byRfl rfl
theorem stT_nilm  : (VV.nilm ).stripT = (VV.nilm ) := byRfl rfl
theorem ce_nilm  : (VV.nilm ).cells = [(VV.nilm )] := byRfl rfl
theorem nt_mp {a : Nat} : (VV.mp a).noTup = true := byRfl rfl
theorem st0_mp {a : Nat} : (VV.mp a).strip0 = (VV.mp a) := byRfl rfl
theorem st_mp {a : Nat} : (VV.mp a).strip = (VV.mp a) := byRfl rfl
theorem ic_mp {a : Nat} : (VV.mp a).isCell = true := byRfl rfl
theorem stT_mp {a : Nat} : (VV.mp a).stripT = (VV.mp a) := byRfl rfl
theorem ce_mp {a : Nat} : (VV.mp a).cells = [(VV.mp a)] := byRfl rfl
theorem nt_nilf  : (VV.nilf ).noTup = true := byRfl rfl
theorem st0_nilf  : (VV.nilf ).strip0 = (VV.nilf ) := byRfl rfl
theorem st_nilf  : (VV.nilf ).strip = (VV.nilf ) := byRfl rfl
theorem ic_nilf  : (VV.nilf ).isCell = true := byRfl rfl
theorem stT_nilf  : (VV.nilf ).stripT = (VV.nilf ) := byRfl rfl
theorem ce_nilf  : (VV.nilf ).cells = [(VV.nilf )] := byRfl rfl
theorem nt_fn {a : Nat} {b : List VV} : (VV.fn a b).noTup = true := byRfl rfl
theorem st0_fn {a : Nat} {b : List VV} : (VV.fn a b).strip0 = (VV.fn a b) := byRfl rfl
theorem st_fn {a : Nat} {b : List VV} : (VV.fn a b).strip = (VV.fn a b) := byRfl rfl
theorem ic_fn {a : Nat} {b : List VV} : (VV.fn a b).isCell = true := byRfl rfl
theorem stT_fn {a : Nat} {b : List VV} : (VV.fn a b).stripT = (VV.fn a b) := byRfl rfl
theorem ce_fn {a : Nat} {b : List VV} : (VV.fn a b).cells = [(VV.fn a b)] := byRfl rfl
theorem nt_yld {a : Nat} : (VV.yld a).noTup = true := byRfl rfl
theorem st0_yld {a : Nat} : (VV.yld a).strip0 = (VV.yld a) := byRfl rfl
theorem st_yld {a : Nat} : (VV.yld a).strip = (VV.yld a) := byRfl rfl
theorem ic_yld {a : Nat} : (VV.yld a).isCell = true := byRfl rfl
theorem stT_yld {a : Nat} : (VV.yld a).stripT = (VV.yld a) := byRfl rfl
theorem ce_yld {a : Nat} : (VV.yld a).cells = [(VV.yld a)] := byRfl rfl
theorem nt_it {a : Nat} : (VV.it a).noTup = true := byRfl rfl
theorem st0_it {a : Nat} : (VV.it a).strip0 = (VV.it a) := byRfl rfl
theorem st_it {a : Nat} : (VV.it a).strip = (VV.it a) := byRfl rfl
theorem ic_it {a : Nat} : (VV.it a).isCell = true := byRfl rfl
theorem stT_it {a : Nat} : (VV.it a).stripT = (VV.it a) := byRfl rfl
theorem ce_it {a : Nat} : (VV.it a).cells = [(VV.it a)] := byRfl rfl
theorem nt_agg {a : List VV} : (VV.agg a).noTup = true := byRfl rfl
theorem nt_tup {a : List VV} : (VV.tup a).noTup = false := byRfl rfl
theorem st_agg' {a : List VV} : (VV.agg a).strip = .agg (a.map VV.strip0) := byRfl rfl
theorem stT_agg {a : List VV} : (VV.agg a).stripT = .agg (a.map VV.strip0) := byRfl rfl
theorem stT_tup {a : List VV} : (VV.tup a).stripT = .tup (a.map VV.strip) := byRfl rfl
theorem ce_agg {a : List VV} : (VV.agg a).cells = a := byRfl rfl
def OwnK (P : Program) (v : VV) (s sz : Nat) (c : VC) (st : St) (K : Ex → St → Prop) : Prop := match v with
  | .nils => 0 < sz ∧ Wp P c { st with env := put st.env s (.sl [] (st.ob.length + 2)), ob := st.ob ++ [.tok 0 sz] } K
  | _ => False
theorem e_own {P : Program} {K : Ex → St → Prop} {st : St} {s sz : Nat} {c : VC} : Wp P (.own s none (sz + 1) c) st K = OwnK P (get st.env s) s (sz + 1) c st K := by
  simp only [Wp, ownW, OwnK]
  cases get st.env s <;> simp
/-- a row becomes data -/
def FrzK (P : Program) (v : VV) (s n : Nat) (c : VC) (st : St) (K : Ex → St → Prop) : Prop := match v with
  | .nils => Wp P c st K
  | .sl _ _ => Wp P c st K
  | .row o off ln => match nthO st.ob o with
    | .cells cs => if off + ln * max n 1 ≤ cs.length ∧ (frzEs n off ln cs).all VV.canon = true then Wp P c { st with env := put st.env s (.sl (frzEs n off ln cs) 0), ob := st.ob.set o .gone } K else False
    | _ => False
  | .ptr o _ => match frzBox st o n with
    | some st' => Wp P c st' K
    | none => False
  | _ => False
theorem e_frz {P : Program} {K : Ex → St → Prop} {st : St} {s n : Nat} {c : VC} : Wp P (.own s (some n) 0 c) st K = FrzK P (get st.env s) s n c st K := by
  simp only [Wp, ownW, FrzK, frzW, if_true]
  cases get st.env s
  case ptr o off => rfl
  case row o off ln =>
    simp only
    cases nthO st.ob o <;> try rfl
    rename_i cs
    simp only
    by_cases h : off + ln * max n 1 ≤ cs.length ∧ (frzEs n off ln cs).all VV.canon = true
    · rw [if_pos h, if_pos h]
    · rw [if_neg h, if_neg h]
  all_goals rfl
theorem frz_sl {P : Program} {K : Ex → St → Prop} {st : St} {s n : Nat} {c : VC} {es : List VV} {t : Nat} : FrzK P (.sl es t) s n c st K = Wp P c st K := byRfl rfl
theorem frz_nils {P : Program} {K : Ex → St → Prop} {st : St} {s n : Nat} {c : VC} : FrzK P .nils s n c st K = Wp P c st K := byRfl rfl
theorem frz_row {P : Program} {K : Ex → St → Prop} {st : St} {s n : Nat} {c : VC} {o off ln : Nat} {cs : List VV} (ho : nthO st.ob o = .cells cs) (h1 : off + ln * max n 1 ≤ cs.length) (h2 : (frzEs n off ln cs).all VV.canon = true)
    (h : Wp P c { st with env := put st.env s (.sl (frzEs n off ln cs) 0), ob := st.ob.set o .gone } K) : FrzK P (.row o off ln) s n c st K := by
  simp only [FrzK, ho]
  rw [if_pos ⟨h1, h2⟩]
  exact h
/-- a whole row of cells -/
theorem frz_all {P : Program} {K : Ex → St → Prop} {st : St} {s : Nat} {c : VC} {o ln : Nat} {cs : List VV} (ho : nthO st.ob o = .cells cs) (h1 : cs.length = ln) (h2 : cs.all VV.canon = true)
    (h : Wp P c { st with env := put st.env s (.sl cs 0), ob := st.ob.set o .gone } K) : FrzK P (.row o 0 ln) s 0 c st K := by
  have e : frzEs 0 0 ln cs = cs := by simp [frzEs, ← h1]
  exact frz_row ho (by simp; omega) (by rw [e]; exact h2) (by rw [e]; exact h)
theorem frz_ptr {P : Program} {K : Ex → St → Prop} {st st' : St} {s n : Nat} {c : VC} {o off : Nat} (h : frzBox st o n = some st') (k : Wp P c st' K) : FrzK P (.ptr o off) s n c st K := by
  simp only [FrzK, h]
  exact k
/-- a slice with a handle becomes a row -/
theorem e_thaw {P : Program} {K : Ex → St → Prop} {st st' : St} {s : Nat} {c : VC} (h : thawW st s = some st') (k : Wp P c st' K) : Wp P (.own s none 0 c) st K := by
  simp only [Wp, ownW, if_true, h]
  exact k
theorem own_nils {P : Program} {K : Ex → St → Prop} {st : St} {s sz : Nat} {c : VC} : OwnK P .nils s (sz + 1) c st K = Wp P c { st with env := put st.env s (.sl [] (st.ob.length + 2)), ob := st.ob ++ [.tok 0 (sz + 1)] } K := by
  simp [OwnK]
def NilK (v : VV) (neg : Bool) (d : Option Nat) (st : St) (k : St → Prop) : Prop := match v with
  | .sl (_ :: _) _ => k { st with env := putD st.env d (.bool neg) }
  | .sl [] _ => ∀ b, k { st with env := putD st.env d (.bool b) }
  | .nils => ∀ b, k { st with env := putD st.env d (.bool b) }
  | _ => False
theorem e_isnil {P : Program} {st : St} {k : St → Prop} {d : Option Nat} {neg : Bool} {x : Opd} : OpW P ⟨d, none, .isnil neg x⟩ st k = NilK (x.ev st.env) neg d st k := byRfl rfl
theorem nilk_cons {st : St} {k : St → Prop} {d : Option Nat} {neg : Bool} {e : VV} {r : List VV} {t : Nat} : NilK (.sl (e :: r) t) neg d st k = k { st with env := putD st.env d (.bool neg) } := byRfl rfl
theorem nilk_nil {st : St} {k : St → Prop} {d : Option Nat} {neg : Bool} {t : Nat} : NilK (.sl [] t) neg d st k = ∀ b, k { st with env := putD st.env d (.bool b) } := byRfl rfl
/-- a step of a range over a map -/
def NextK (v : VV) (d : Option Nat) (st : St) (k : St → Prop) : Prop := match v with
  | .it o => match nthO st.ob o with
    | .miter m left _ => (left = [] → k { st with env := putD st.env d (.tup [.bool false]) }) ∧ ∀ p ∈ picks left, k { st with env := putD st.env d (.tup [.bool true, p.1.1, p.1.2]), ob := st.ob.set o (.miter m p.2 (some p.1)) }
    | _ => False
  | _ => False
theorem e_mnext {P : Program} {st : St} {k : St → Prop} {d : Option Nat} {x : Opd} : OpW P ⟨d, none, .mnext x⟩ st k = NextK (x.ev st.env) d st k := byRfl rfl
theorem next_s {st : St} {k : St → Prop} {d : Option Nat} {o m : Nat} {left : List (VV × VV)} {cur : Option (VV × VV)} (ho : nthO st.ob o = .miter m left cur) (h1 : left = [] → k { st with env := putD st.env d (.tup [.bool false]) })
    (h2 : ∀ p ∈ picks left, k { st with env := putD st.env d (.tup [.bool true, p.1.1, p.1.2]), ob := st.ob.set o (.miter m p.2 (some p.1)) }) : NextK (.it o) d st k := by
  simp only [NextK, ho]
  exact ⟨h1, h2⟩
/-- a loop's end of round -/
def loopK (K : Ex → St → Prop) (Q : St → Prop) : Ex → St → Prop
  | .nrm, st => Q st
  | .ext id, st => K (.ext id) st
  | .ret, st => K .ret st
theorem loopK_nrm {K : Ex → St → Prop} {st : St} {Q : St → Prop} : loopK K Q .nrm st = Q st := byRfl rfl
theorem loopK_ext {K : Ex → St → Prop} {st : St} {Q : St → Prop} {id : Nat} : loopK K Q (.ext id) st = K (.ext id) st := byRfl rfl
theorem loopK_ret {K : Ex → St → Prop} {st : St} {Q : St → Prop} : loopK K Q .ret st = K .ret st := byRfl rfl

/-- what a round leaves, told at the loop's head -/
def nextI {α : Type} (s : List Nat) (n : Nat) (base : Nat) (marks : List Nat) (pu : Bool) (good : α → Prop) (m : α → Nat) (E : α → List (Nat × VV)) (O : α → List Obj) (a : α) (st : St) : Prop :=
  ∃ a', good a' ∧ m a' < m a ∧ keepE st.env s = E a' ∧ st.ob.take n = O a' ∧ st.base = base ∧ st.marks = marks ∧ st.pure = pu

theorem v_for {P : Program} {c : VC} {K : Ex → St → Prop} {s : List Nat} {k : Nat} {α : Type} {base : Nat} {marks : List Nat} {pu : Bool} (good : α → Prop) (m : α → Nat) (E : α → List (Nat × VV)) (O : α → List Obj)
    (hi : ∀ a, good a → (E a).all (fun p => p.2.ids (base + k)) = true ∧ (O a).all (Obj.idsB (base + k)) = true ∧ (O a).length = base + k) (hm : marks.all (fun o => decide (o < base + k)) = true)
    (h : ∀ a, good a → Wp P c ⟨⟨E a, O a⟩, base, marks, pu⟩ (loopK K (nextI s (base + k) base marks pu good m E O a))) :
    ∀ a st, good a → keepE st.env s = E a → st.ob.take (base + k) = O a → st.base = base → st.marks = marks → st.pure = pu → Wp P (.loop (.drop s (some k) c)) st K := by
  intro a st g h1 h2 h3 h4 h5
  refine v_loop (fun a st => good a ∧ keepE st.env s = E a ∧ st.ob.take (base + k) = O a ∧ st.base = base ∧ st.marks = marks ∧ st.pure = pu) m ?_ a st ⟨g, h1, h2, h3, h4, h5⟩
  rintro a ⟨⟨env, ob⟩, base', marks', pu'⟩ ⟨g, h1, h2, rfl, rfl, rfl⟩
  simp only at h1 h2 h ⊢
  obtain ⟨i1, i2, i3⟩ := hi a g
  refine w_drop ?_ hm (by rw [h1]; exact i1) (by rw [h2]; exact i2) ?_
  · have := congrArg List.length h2
    rw [List.length_take, i3] at this
    show base' + k ≤ ob.length
    have hh := Nat.min_le_right (base' + k) ob.length
    rw [this] at hh
    exact hh
  · simp only [h1, h2]
    refine wp_mono _ _ _ (fun e s' hs => ?_) (h a g)
    cases e with
    | nrm => obtain ⟨a', q1, q2, q3, q4, q5, q6, q7⟩ := hs; exact ⟨a', ⟨q1, q3, q4, q5, q6, q7⟩, q2⟩
    | ext id => exact hs
    | ret => exact hs

/- what a run of V takes: one set for simp -/
theorem hd_nil {n : Nat} : hdSz [] n = true := byRfl rfl
theorem hd_cons {e : VV} {r : List VV} {n : Nat} : hdSz (e :: r) n = (e.cells.length == n) := byRfl rfl
attribute [go_sem] e_calln ow_clr ow_cap ow_load3 od_load3 ow_store3 od_store3 ow_fill od_fill oldO newO
attribute [go_sem] ow_store2 od_store2 od_appr ow_appr nt_ifr st0_ifr st_ifr ic_ifr stT_ifr ce_ifr nt_ife st0_ife st_ife ic_ife stT_ife ce_ife ow_mkif od_mkif ow_s2b ow_b2s e_isnil nilk_cons nilk_nil ow_load2 od_load2 sepO Bool.true_and ow_mrng ow_mentry e_mnext e_frz frz_sl frz_nils ow_mks od_mks ow_aaddr od_aaddr e_scope and_true implies_true fillE fillV hd_nil hd_cons false_or or_false List.replicate_succ List.replicate_zero e_own own_nils nt_int st0_int st_int ic_int stT_int ce_int nt_bool st0_bool st_bool ic_bool stT_bool ce_bool nt_str st0_str st_str ic_str stT_str ce_str nt_nilp st0_nilp st_nilp ic_nilp stT_nilp ce_nilp nt_ptr st0_ptr st_ptr ic_ptr stT_ptr ce_ptr nt_pim st0_pim st_pim ic_pim stT_pim ce_pim nt_nils st0_nils st_nils ic_nils stT_nils ce_nils nt_sl st0_sl st_sl ic_sl stT_sl ce_sl nt_row st0_row st_row ic_row stT_row ce_row nt_nilm st0_nilm st_nilm ic_nilm stT_nilm ce_nilm nt_mp st0_mp st_mp ic_mp stT_mp ce_mp nt_nilf st0_nilf st_nilf ic_nilf stT_nilf ce_nilf nt_fn st0_fn st_fn ic_fn stT_fn ce_fn nt_yld st0_yld st_yld ic_yld stT_yld ce_yld nt_it st0_it st_it ic_it stT_it ce_it nt_agg nt_tup st_agg' stT_agg stT_tup ce_agg loopK_nrm loopK_ext loopK_ret VV.ids idsL Nat.zero_lt_succ decide_true e_if if_t if_f List.cons_append List.getD_cons_succ List.drop_succ_cons List.take_succ_cons List.take_zero Nat.add_zero reduceCtorEq Nat.reduceAdd Nat.reduceMul Nat.reduceSub Nat.reduceEqDiff Nat.reduceLT Nat.reduceLeDiff Nat.reduceBEq Int.reduceAdd Int.reduceToNat Int.reduceLE Int.reduceLT box_agg box_int box_bool box_str box_sl box_nils box_fn box_nilf box_mp box_yld keepE get_put e_grd e_grdD g_tt g_ff g_tf g_ft g_tup gd_tt gd_ff gd_tf gd_ft gd_tup  e_call e_callD evk_some ow_mov od_mov ow_pick od_pick ow_alloc od_alloc ow_box od_box ow_build od_build ow_bsl od_bsl ow_load od_load ow_store od_store ow_nilck od_nilck ow_bin od_bin ow_un od_un ow_cvi od_cvi ow_faddr od_faddr ow_fld od_fld ow_iaddr od_iaddr ow_idx od_idx ow_slc od_slc ow_ext od_ext ow_len od_len ow_app od_app ow_mm od_mm ow_mkfn od_mkfn ow_mkmap od_mkmap ow_lkp od_lkp ow_mset od_mset ow_mdel od_mdel bb1 bb2 bb3 bb4 nn1 nn2 e_regD opsD_nil opsD_cons opsDK_eq e_drop e_skip e_exit e_ret e_reg e_seq e_block contS_nrm contS_ext contS_ret contB_nrm contB_ret contB_ext nrmK_eq ops_nil ops_cons opsK_eq envA V.get putD Opd.ev VOp.ev List.contains_cons List.contains_nil List.map_cons List.map_nil if_true if_false beq_iff_eq Bool.or_false Bool.false_or List.length_map Bool.true_or Bool.or_true Bool.false_eq_true Nat.lt_irrefl Nat.zero_ne_one Ty.fits Kd.fits binV binI binS Option.map_some Int.toNat_natCast Int.natCast_nonneg List.length_cons List.length_nil deref loadV nthO List.getD_cons_zero List.nil_append List.drop_zero List.take Nat.le_refl List.all_cons List.all_nil Bool.and_true Nat.zero_add and_self setCells List.set List.getElem?_cons_zero List.getElem?_cons_succ closeM resOfL resOf Option.bind_some outR true_and
end Go.V

/- V, part 30: code whose calls are all handed data ends in one state: its answer may be told by a property alone. -/
set_option linter.unusedVariables false
set_option linter.unusedSimpArgs false
namespace Go.V
open Go.RowKit

def CallP (P : Program) (f : Nat) (args : List VV) (own : Option (Option Nat × Nat)) (d : Option Nat) (st : St) (K : St → Prop) : Prop :=
  (args.map VV.strip).all (fun v => v.ids 0 && v.noTup) = true ∧ ∃ r, PureC P f (args.map VV.strip) r ∧ match takeR own st.ob r with
    | some (v, ob') => K { st with env := putD st.env d v, ob := ob' }
    | none => False

def OpP (P : Program) (i : VI) (st : St) (K : St → Prop) : Prop :=
  match wantedV st.env i.g with
  | none => False
  | some false => K { st with env := putD st.env i.dst (.tup []) }
  | some true => match i.op with
    | .call f args own => CallP P f (args.map (Opd.ev st.env)) own i.dst st K
    | .callv x args own => match fnOf (x.ev st.env) with
      | some (f, cap) => CallP P f (args.map (Opd.ev st.env) ++ cap) own i.dst st K
      | none => False
    | op => match op.ev st.toS0 with
      | some (v, ob') => K { st with env := putD st.env i.dst v, ob := ob' }
      | none => False

def OpsP (P : Program) : List VI → St → (St → Prop) → Prop
  | [], st, K => K st
  | i :: r, st, K => OpP P i st fun st' => OpsP P r st' K

def WpP (P : Program) : VC → St → (Ex → St → Prop) → Prop
  | .skip, st, K => K .nrm st
  | .reg ops _, st, K => OpsP P ops st fun st' => K .nrm st'
  | .seq a b, st, K => WpP P a st fun e st' => match e with
    | .nrm => WpP P b st' K
    | .ext id => K (.ext id) st'
    | .ret => K .ret st'
  | .cond c a b, st, K => match c.ev st.env with
    | .bool t => (t = true → WpP P a st K) ∧ (t = false → WpP P b st K)
    | _ => False
  | .block id c, st, K => WpP P c st fun e st' => match e with
    | .nrm => K .nrm st'
    | .ext j => if j = id then K .nrm st' else K (.ext j) st'
    | .ret => K .ret st'
  | .loop c, st, K => ∃ n, iterW (WpP P c) K n st
  | .exit id, st, K => K (.ext id) st
  | .ret, st, K => K .ret st
  | .scope c, st, K => WpP P c st K
  | .rfn .., _, _ => False
  | .drop s k c, st, K => match dropW st s k with
    | some st' => WpP P c st' K
    | none => False
  | .own s f sz c, st, K => match ownW st s f sz with
    | some st' => WpP P c st' K
    | none => False

section
variable {P : Program}

theorem callP_W {f : Nat} {args : List VV} {own : Option (Option Nat × Nat)} {d : Option Nat} {st : St} {K : St → Prop} (h : CallP P f args own d st K) : CallW P f args own d st K := Or.inl h
theorem callP_D {f : Nat} {args : List VV} {own : Option (Option Nat × Nat)} {d : Option Nat} {st : St} {K : St → Prop} (h : CallP P f args own d st K) : CallD P f args own d st K := Or.inl h

theorem opP_W {i : VI} {st : St} {K : St → Prop} (h : OpP P i st K) : OpW P i st K := by
  unfold OpP at h
  unfold OpW
  split at h <;> rename_i hw <;> rw [hw] <;> try exact h
  obtain ⟨d, g, op⟩ := i
  cases op <;> simp only at h ⊢ <;> first | exact h | exact callP_W h | (simp [VOp.ev] at h; done) | skip
  rename_i x args own
  cases hf : fnOf (x.ev st.env) with
  | none => rw [hf] at h; exact h.elim
  | some p => rw [hf] at h; exact callP_W h
theorem opP_D {i : VI} {st : St} {K : St → Prop} (h : OpP P i st K) : OpD P i st K := by
  unfold OpP at h
  unfold OpD
  split at h <;> rename_i hw <;> rw [hw] <;> try exact h
  obtain ⟨d, g, op⟩ := i
  cases op <;> simp only at h ⊢ <;> first | exact h | exact callP_D h | skip
  rename_i x args own
  cases hf : fnOf (x.ev st.env) with
  | none => rw [hf] at h; exact h.elim
  | some p => rw [hf] at h; exact callP_D h

theorem callP_wit {f : Nat} {args : List VV} {own : Option (Option Nat × Nat)} {d : Option Nat} {st : St} {K : St → Prop} (h : CallP P f args own d st K) : ∃ st', K st' ∧ ∀ K', K' st' → CallP P f args own d st K' := by
  obtain ⟨h1, r, h2, h3⟩ := h
  cases ht : takeR own st.ob r with
  | none => rw [ht] at h3; exact h3.elim
  | some p => rw [ht] at h3; exact ⟨_, h3, fun K' hk => ⟨h1, r, h2, by rw [ht]; exact hk⟩⟩

theorem opP_wit {i : VI} {st : St} {K : St → Prop} (h : OpP P i st K) : ∃ st', K st' ∧ ∀ K', K' st' → OpP P i st K' := by
  unfold OpP at h ⊢
  cases hw : wantedV st.env i.g with
  | none => rw [hw] at h; exact h.elim
  | some b =>
    rw [hw] at h
    cases b with
    | false => exact ⟨_, h, fun K' hk => hk⟩
    | true =>
      obtain ⟨d, g, op⟩ := i
      simp only at h ⊢
      cases op <;> simp only at h ⊢
      case call f args own => exact callP_wit h
      case callv x args own =>
        cases hf : fnOf (x.ev st.env) with
        | none => rw [hf] at h; exact h.elim
        | some p => rw [hf] at h; exact callP_wit h
      all_goals
        split at h
        · rename_i v ob' he
          exact ⟨_, h, fun K' hk => by first | exact hk | (rw [he]; exact hk)⟩
        · exact h.elim

theorem opsP_wit : ∀ {ops : List VI} {st : St} {K : St → Prop}, OpsP P ops st K → ∃ st', K st' ∧ ∀ K', K' st' → OpsP P ops st K'
  | [], st, K, h => ⟨st, h, fun K' hk => hk⟩
  | i :: r, st, K, h => by
    obtain ⟨s1, h1, w1⟩ := opP_wit h
    obtain ⟨s2, h2, w2⟩ := opsP_wit h1
    exact ⟨s2, h2, fun K' hk => w1 _ (w2 _ hk)⟩
theorem opsP_W : ∀ {ops : List VI} {st : St} {K : St → Prop}, OpsP P ops st K → Ops P ops st K
  | [], st, K, h => h
  | i :: r, st, K, h => by
    obtain ⟨s1, h1, w1⟩ := opP_wit h
    exact opP_W (w1 _ (opsP_W h1))
theorem opsP_D : ∀ {ops : List VI} {st : St} {K : St → Prop}, OpsP P ops st K → OpsD P ops st K
  | [], st, K, h => h
  | i :: r, st, K, h => by
    obtain ⟨s1, h1, w1⟩ := opP_wit h
    exact opP_D (w1 _ (opsP_D h1))

theorem iterP_wit {body : St → (Ex → St → Prop) → Prop} (hb : ∀ st K, body st K → ∃ e st', K e st' ∧ ∀ K', K' e st' → body st K') {K : Ex → St → Prop} : ∀ n st, iterW body K n st → ∃ e st', K e st' ∧ ∀ K', K' e st' → iterW body K' n st
  | 0, _, h => h.elim
  | n + 1, st, h => by
    obtain ⟨e, s, h1, w1⟩ := hb _ _ h
    cases e with
    | nrm =>
      obtain ⟨e2, s2, h2, w2⟩ := iterP_wit hb n s h1
      exact ⟨e2, s2, h2, fun K' hk => w1 _ (w2 _ hk)⟩
    | ext id => exact ⟨_, s, h1, fun K' hk => w1 _ hk⟩
    | ret => exact ⟨_, s, h1, fun K' hk => w1 _ hk⟩

theorem wpP_wit {c : VC} : ∀ {st : St} {K : Ex → St → Prop}, WpP P c st K → ∃ e st', K e st' ∧ ∀ K', K' e st' → WpP P c st K' := by
  induction c with
  | skip => exact fun {st K} h => ⟨_, _, h, fun K' hk => hk⟩
  | reg ops d =>
    intro st K h
    obtain ⟨s, h1, w⟩ := opsP_wit h
    exact ⟨_, s, h1, fun K' hk => w (fun s => K' .nrm s) hk⟩
  | seq a b iha ihb =>
    intro st K h
    obtain ⟨e, s, h1, w1⟩ := iha h
    cases e with
    | nrm =>
      obtain ⟨e2, s2, h2, w2⟩ := ihb h1
      exact ⟨e2, s2, h2, fun K' hk => w1 _ (w2 _ hk)⟩
    | ext id => exact ⟨_, s, h1, fun K' hk => w1 _ hk⟩
    | ret => exact ⟨_, s, h1, fun K' hk => w1 _ hk⟩
  | cond c a b iha ihb =>
    intro st K h
    simp only [WpP] at h ⊢
    split at h
    · rename_i t hc
      cases t with
      | true =>
        obtain ⟨e, s, h1, w⟩ := iha (h.1 rfl)
        exact ⟨e, s, h1, fun K' hk => ⟨fun _ => w _ hk, nofun⟩⟩
      | false =>
        obtain ⟨e, s, h1, w⟩ := ihb (h.2 rfl)
        exact ⟨e, s, h1, fun K' hk => ⟨nofun, fun _ => w _ hk⟩⟩
    · exact h.elim
  | block id c ih =>
    intro st K h
    obtain ⟨e, s, h1, w⟩ := ih h
    cases e with
    | nrm => exact ⟨_, s, h1, fun K' hk => w _ hk⟩
    | ret => exact ⟨_, s, h1, fun K' hk => w _ hk⟩
    | ext j =>
      by_cases hj : j = id
      · simp only [hj, if_true] at h1
        exact ⟨_, s, h1, fun K' hk => w _ (by simp only [hj, if_true]; exact hk)⟩
      · simp only [hj, if_false] at h1
        exact ⟨_, s, h1, fun K' hk => w _ (by simp only [hj, if_false]; exact hk)⟩
  | loop c ih =>
    intro st K h
    obtain ⟨n, hn⟩ := h
    obtain ⟨e, s, h1, w⟩ := iterP_wit (fun st K h => ih h) n st hn
    exact ⟨e, s, h1, fun K' hk => ⟨n, w _ hk⟩⟩
  | exit id => exact fun {st K} h => ⟨_, _, h, fun K' hk => hk⟩
  | ret => exact fun {st K} h => ⟨_, _, h, fun K' hk => hk⟩
  | scope c ih => exact fun {st K} h => ih h
  | rfn n nt f ps a b => exact fun {st K} h => h.elim
  | drop s k c ih =>
    intro st K h
    simp only [WpP] at h ⊢
    split at h
    · exact ih h
    · exact h.elim
  | own s f sz c ih =>
    intro st K h
    simp only [WpP] at h ⊢
    split at h
    · exact ih h
    · exact h.elim

theorem wp_of_p {c : VC} : ∀ {st : St} {K : Ex → St → Prop}, WpP P c st K → Wp P c st K := by
  induction c with
  | skip => exact fun {st K} h => h
  | reg ops d =>
    intro st K h
    cases d with
    | none => exact opsP_W h
    | some o => exact opsP_D h
  | seq a b iha ihb =>
    intro st K h
    have h' := iha (K := fun e st' => match e with | .nrm => WpP P b st' K | .ext id => K (.ext id) st' | .ret => K .ret st') h
    refine wp_mono (c := a) _ _ _ (fun e s hs => ?_) h'
    cases e with
    | nrm => exact ihb hs
    | ext id => exact hs
    | ret => exact hs
  | cond c a b iha ihb =>
    intro st K h
    simp only [WpP] at h
    simp only [Wp]
    split at h
    · rename_i t hc
      rw [hc]
      exact ⟨fun t => iha (h.1 t), fun t => ihb (h.2 t)⟩
    · exact h.elim
  | block id c ih => exact fun {st K} h => ih h
  | loop c ih =>
    intro st K h
    obtain ⟨n, hn⟩ := h
    refine ⟨n, ?_⟩
    have key : ∀ n st, iterW (WpP P c) K n st → iterW (Wp P c) K n st := by
      intro n
      induction n with
      | zero => exact fun st h => h
      | succ n ihn =>
        intro st h
        refine wp_mono _ _ _ (fun e s hs => ?_) (ih h)
        cases e with
        | nrm => exact ihn s hs
        | ext id => exact hs
        | ret => exact hs
    exact key n st hn
  | exit id => exact fun {st K} h => h
  | ret => exact fun {st K} h => h
  | scope c ih => exact fun {st K} h => ih h
  | rfn n nt f ps a b => exact fun {st K} h => h.elim
  | drop s k c ih =>
    intro st K h
    simp only [WpP] at h
    simp only [Wp]
    split at h
    · rename_i s' he
      rw [he]
      exact ih h
    · exact h.elim
  | own s f sz c ih =>
    intro st K h
    simp only [WpP] at h
    simp only [Wp]
    split at h
    · rename_i s' he
      rw [he]
      exact ih h
    · exact h.elim

/-- some answer with a property -/
def EndP (vf : VF) (R : VV → Prop) (e : Ex) (st : St) : Prop :=
  (match e with | .ext _ => False | _ => True) ∧ ∃ r, ((closeM st.marks st.ob).bind fun ob' => (resOfL ⟨st.env, ob'⟩ vf.results).bind (outR vf.fresh ob')) = some r ∧ r.ids 0 = true ∧ R r

theorem pure_ex {f : Nat} {vf : VF} (hm : mFn P f vf = true) {args : List VV} (hl : args.length = vf.params) (ha : args.all argOk = true) {R : VV → Prop}
    (h : WpP P vf.body { env := envA 0 args, ob := [], base := 0, pure := true } (EndP vf R)) : ∃ r, R r ∧ PureC P f args r := by
  obtain ⟨e, s, ⟨h1, r, h2, h4, h3⟩, w⟩ := wpP_wit h
  exact ⟨r, h3, pure_of_wp hm hl ha (wp_of_p (w _ ⟨trivial, h1, h2, h4⟩))⟩
end
end Go.V

/- V, part 31: the equations of part 29 for code whose calls are all handed data. -/
set_option linter.unusedVariables false
set_option linter.unusedSimpArgs false
namespace Go.V
open Go.RowKit

def contP (P : Program) (b : VC) (K : Ex → St → Prop) : Ex → St → Prop
  | .nrm, st => WpP P b st K
  | .ext id, st => K (.ext id) st
  | .ret, st => K .ret st
def opsKP (P : Program) (r : List VI) (K : St → Prop) : St → Prop := fun st => OpsP P r st K
def GuardP (P : Program) (gv : VV) (b : Bool) (d : Option Nat) (o : VOp) (st : St) (k : St → Prop) : Prop :=
  match (match gv with | .bool c => some (c == b) | .tup [] => some false | _ => none) with
  | none => False
  | some false => k { st with env := putD st.env d (.tup []) }
  | some true => OpP P ⟨d, none, o⟩ st k
def CondP (P : Program) (v : VV) (a b : VC) (st : St) (K : Ex → St → Prop) : Prop := match v with
  | .bool t => (t = true → WpP P a st K) ∧ (t = false → WpP P b st K)
  | _ => False
def OwnP (P : Program) (v : VV) (s sz : Nat) (c : VC) (st : St) (K : Ex → St → Prop) : Prop := match v with
  | .nils => 0 < sz ∧ WpP P c { st with env := put st.env s (.sl [] (st.ob.length + 2)), ob := st.ob ++ [.tok 0 sz] } K
  | _ => False
def FrzP (P : Program) (v : VV) (s n : Nat) (c : VC) (st : St) (K : Ex → St → Prop) : Prop := match v with
  | .nils => WpP P c st K
  | .sl _ _ => WpP P c st K
  | .row o off ln => match nthO st.ob o with
    | .cells cs => if off + ln * max n 1 ≤ cs.length ∧ (frzEs n off ln cs).all VV.canon = true then WpP P c { st with env := put st.env s (.sl (frzEs n off ln cs) 0), ob := st.ob.set o .gone } K else False
    | _ => False
  | .ptr o _ => match frzBox st o n with
    | some st' => WpP P c st' K
    | none => False
  | _ => False
theorem wpP_mono {P : Program} (c : VC) (st : St) (K K' : Ex → St → Prop) (hk : ∀ e s, K e s → K' e s) (h : WpP P c st K) : WpP P c st K' := by
  obtain ⟨e, s, h1, w⟩ := wpP_wit h
  exact w _ (hk _ _ h1)

theorem p_loop {P : Program} {c : VC} {K : Ex → St → Prop} {α : Type} (inv : α → St → Prop) (m : α → Nat)
    (h : ∀ a st, inv a st → WpP P c st fun e st' => match e with
      | .nrm => ∃ a', inv a' st' ∧ m a' < m a
      | .ext id => K (.ext id) st'
      | .ret => K .ret st') : ∀ a st, inv a st → WpP P (.loop c) st K := by
  have key : ∀ n a st, m a < n → inv a st → iterW (WpP P c) K n st := by
    intro n
    induction n with
    | zero => exact fun a st hlt _ => absurd hlt (Nat.not_lt_zero _)
    | succ n ih =>
      intro a st hlt hi
      refine wpP_mono _ _ _ _ (fun e s hs => ?_) (h a st hi)
      cases e with
      | nrm =>
        obtain ⟨a', hi', hm⟩ := hs
        exact ih a' s (by omega) hi'
      | ext id => exact hs
      | ret => exact hs
  exact fun a st hi => ⟨m a + 1, key _ a st (Nat.lt_succ_self _) hi⟩

section
variable {P : Program} {st : St} {K : Ex → St → Prop} {k : St → Prop} {d : Option Nat} {o : VOp} {b : Bool}

theorem pe_grd {s : Nat} : OpP P ⟨d, some (s, b), o⟩ st k = GuardP P (get st.env s) b d o st k := byRfl rfl
theorem pg_tt : GuardP P (.bool true) true d o st k = OpP P ⟨d, none, o⟩ st k := byRfl rfl
theorem pg_ff : GuardP P (.bool false) false d o st k = OpP P ⟨d, none, o⟩ st k := byRfl rfl
theorem pg_tf : GuardP P (.bool true) false d o st k = k { st with env := putD st.env d (.tup []) } := byRfl rfl
theorem pg_ft : GuardP P (.bool false) true d o st k = k { st with env := putD st.env d (.tup []) } := byRfl rfl
theorem pg_tup : GuardP P (.tup []) b d o st k = k { st with env := putD st.env d (.tup []) } := byRfl rfl
theorem pow_mov {x0} : OpP P ⟨d, none, .mov x0⟩ st k = EvK ((VOp.mov x0).ev st.toS0) d st k := byRfl rfl
theorem pow_pick {x0} {x1} {x2} : OpP P ⟨d, none, .pick x0 x1 x2⟩ st k = EvK ((VOp.pick x0 x1 x2).ev st.toS0) d st k := byRfl rfl
theorem pow_alloc {x0} : OpP P ⟨d, none, .alloc x0⟩ st k = EvK ((VOp.alloc x0).ev st.toS0) d st k := byRfl rfl
theorem pow_box {x0 : Opd} : OpP P ⟨d, none, .box x0⟩ st k = EvK (boxV (x0.ev st.env) st.ob) d st k := byRfl rfl
theorem pow_build {x0} {x1} : OpP P ⟨d, none, .build x0 x1⟩ st k = EvK ((VOp.build x0 x1).ev st.toS0) d st k := byRfl rfl
theorem pow_bsl {x0} {x1} {x2} {x3} {x4} : OpP P ⟨d, none, .bsl x0 x1 x2 x3 x4⟩ st k = EvK ((VOp.bsl x0 x1 x2 x3 x4).ev st.toS0) d st k := byRfl rfl
theorem pow_load {x0} {x1} : OpP P ⟨d, none, .load x0 x1⟩ st k = EvK ((VOp.load x0 x1).ev st.toS0) d st k := byRfl rfl
theorem pow_load2 {x0} {x1} {x2} : OpP P ⟨d, none, .load2 x0 x1 x2⟩ st k = EvK ((VOp.load2 x0 x1 x2).ev st.toS0) d st k := byRfl rfl
theorem pow_store {x0} {x1} {x2} : OpP P ⟨d, none, .store x0 x1 x2⟩ st k = EvK ((VOp.store x0 x1 x2).ev st.toS0) d st k := byRfl rfl
theorem pow_nilck {x0} : OpP P ⟨d, none, .nilck x0⟩ st k = EvK ((VOp.nilck x0).ev st.toS0) d st k := byRfl rfl
theorem pow_bin {x0} {x1} {x2} {x3} : OpP P ⟨d, none, .bin x0 x1 x2 x3⟩ st k = EvK ((VOp.bin x0 x1 x2 x3).ev st.toS0) d st k := byRfl rfl
theorem pow_un {x0} {x1} : OpP P ⟨d, none, .un x0 x1⟩ st k = EvK ((VOp.un x0 x1).ev st.toS0) d st k := byRfl rfl
theorem pow_cvi {x0} {x1} : OpP P ⟨d, none, .cvi x0 x1⟩ st k = EvK ((VOp.cvi x0 x1).ev st.toS0) d st k := byRfl rfl
theorem pow_faddr {x0} {x1} : OpP P ⟨d, none, .faddr x0 x1⟩ st k = EvK ((VOp.faddr x0 x1).ev st.toS0) d st k := byRfl rfl
theorem pow_fld {x0} {x1} {x2} : OpP P ⟨d, none, .fld x0 x1 x2⟩ st k = EvK ((VOp.fld x0 x1 x2).ev st.toS0) d st k := byRfl rfl
theorem pow_iaddr {x0} {x1} {x2} : OpP P ⟨d, none, .iaddr x0 x1 x2⟩ st k = EvK ((VOp.iaddr x0 x1 x2).ev st.toS0) d st k := byRfl rfl
theorem pow_idx {x0} {x1} : OpP P ⟨d, none, .idx x0 x1⟩ st k = EvK ((VOp.idx x0 x1).ev st.toS0) d st k := byRfl rfl
theorem pow_slc {x0} {x1} {x2} {x3} {x4} : OpP P ⟨d, none, .slc x0 x1 x2 x3 x4⟩ st k = EvK ((VOp.slc x0 x1 x2 x3 x4).ev st.toS0) d st k := byRfl rfl
theorem pow_ext {x0} {x1} : OpP P ⟨d, none, .ext x0 x1⟩ st k = EvK ((VOp.ext x0 x1).ev st.toS0) d st k := byRfl rfl
theorem pow_len {x0} {x1} : OpP P ⟨d, none, .len x0 x1⟩ st k = EvK ((VOp.len x0 x1).ev st.toS0) d st k := byRfl rfl
theorem pow_app {x0} {x1} {x2} {x3} : OpP P ⟨d, none, .app x0 x1 x2 x3⟩ st k = EvK ((VOp.app x0 x1 x2 x3).ev st.toS0) d st k := byRfl rfl
theorem pow_mm {x0} {x1} {x2} : OpP P ⟨d, none, .mm x0 x1 x2⟩ st k = EvK ((VOp.mm x0 x1 x2).ev st.toS0) d st k := byRfl rfl
theorem pow_mkfn {x0} {x1} : OpP P ⟨d, none, .mkfn x0 x1⟩ st k = EvK ((VOp.mkfn x0 x1).ev st.toS0) d st k := byRfl rfl
theorem pow_mkmap : OpP P ⟨d, none, .mkmap ⟩ st k = EvK ((VOp.mkmap ).ev st.toS0) d st k := byRfl rfl
theorem pow_lkp {x0} {x1} {x2} {x3} {x4} : OpP P ⟨d, none, .lkp x0 x1 x2 x3 x4⟩ st k = EvK ((VOp.lkp x0 x1 x2 x3 x4).ev st.toS0) d st k := byRfl rfl
theorem pow_mset {x0} {x1} {x2} {x3} : OpP P ⟨d, none, .mset x0 x1 x2 x3⟩ st k = EvK ((VOp.mset x0 x1 x2 x3).ev st.toS0) d st k := byRfl rfl
theorem pow_mdel {x0} {x1} {x2} : OpP P ⟨d, none, .mdel x0 x1 x2⟩ st k = EvK ((VOp.mdel x0 x1 x2).ev st.toS0) d st k := byRfl rfl
theorem pow_mks {x0} {x1} {x2} : OpP P ⟨d, none, .mks x0 x1 x2⟩ st k = EvK ((VOp.mks x0 x1 x2).ev st.toS0) d st k := byRfl rfl
theorem pow_aaddr {x0} {x1} {x2} {x3} : OpP P ⟨d, none, .aaddr x0 x1 x2 x3⟩ st k = EvK ((VOp.aaddr x0 x1 x2 x3).ev st.toS0) d st k := byRfl rfl
theorem pow_mrng {x0} : OpP P ⟨d, none, .mrng x0⟩ st k = EvK ((VOp.mrng x0).ev st.toS0) d st k := byRfl rfl
theorem pow_mentry {x0} : OpP P ⟨d, none, .mentry x0⟩ st k = EvK ((VOp.mentry x0).ev st.toS0) d st k := byRfl rfl

theorem pe_call {f : Nat} {args : List Opd} {own : Option (Option Nat × Nat)} : OpP P ⟨d, none, .call f args own⟩ st k = CallP P f (args.map (Opd.ev st.env)) own d st k := byRfl rfl
theorem pe_skip : WpP P .skip st K = K .nrm st := byRfl rfl
theorem pe_scope {c : VC} : WpP P (.scope c) st K = WpP P c st K := byRfl rfl
theorem pe_exit {id : Nat} : WpP P (.exit id) st K = K (.ext id) st := byRfl rfl
theorem pe_ret : WpP P .ret st K = K .ret st := byRfl rfl
theorem pe_seq {a b : VC} : WpP P (.seq a b) st K = WpP P a st (contP P b K) := by
  simp only [WpP]
  congr 1
  funext e s
  cases e <;> rfl
theorem pe_block {id : Nat} {c : VC} : WpP P (.block id c) st K = WpP P c st (contB id K) := by
  simp only [WpP]
  congr 1
  funext e s
  cases e <;> rfl
theorem pe_drop {s : List Nat} {c : VC} : WpP P (.drop s none c) st K = WpP P c { st with env := keepE st.env s } K := byRfl rfl
theorem pe_if {x : Opd} {a b : VC} : WpP P (.cond x a b) st K = CondP P (x.ev st.env) a b st K := by
  simp only [WpP, CondP] <;> (cases x.ev st.env <;> rfl)
theorem pif_t {a b : VC} : CondP P (.bool true) a b st K = WpP P a st K := by simp [CondP]
theorem pif_f {a b : VC} : CondP P (.bool false) a b st K = WpP P b st K := by simp [CondP]
theorem pcontS_nrm {b : VC} : contP P b K .nrm st = WpP P b st K := byRfl rfl
theorem pcontS_ext {b : VC} {id : Nat} : contP P b K (.ext id) st = K (.ext id) st := byRfl rfl
theorem pcontS_ret {b : VC} : contP P b K .ret st = K .ret st := byRfl rfl
theorem pops_nil : OpsP P [] st k = k st := byRfl rfl
theorem pops_cons {i : VI} {r : List VI} : OpsP P (i :: r) st k = OpP P i st (opsKP P r k) := byRfl rfl
theorem popsK_eq {r : List VI} : opsKP P r k st = OpsP P r st k := byRfl rfl
/-- no operation is guarded -/
def ng : List VI → Bool
  | [] => true
  | i :: r => i.g.isNone && ng r
theorem ng_nil : ng [] = true := byRfl rfl
theorem ng_none {o : VOp} {r : List VI} : ng (⟨d, none, o⟩ :: r) = ng r := byRfl (by simp [ng])
theorem ng_some {g : Nat × Bool} {o : VOp} {r : List VI} : ng (⟨d, some g, o⟩ :: r) = false := byRfl (by simp [ng])
theorem pe_reg {ops : List VI} {o : Option (List Nat)} (h : ng ops = true) : WpP P (.reg ops o) st K = OpsP P ops st (nrmK K) := byRfl rfl
theorem pe_regG {ops : List VI} {o : Option (List Nat)} : WpP P (.reg ops o) st K = OpsP P ops st (nrmK K) := byRfl rfl
/-- a region, its ways joined again behind it -/
theorem p_regm {α : Type} {ops : List VI} {o : Option (List Nat)} {keep : List Nat} {c : VC} (E : α → List (Nat × VV)) (O : List Obj)
    (h1 : OpsP P ops st fun st' => ∃ b, keepE st'.env keep = E b ∧ st'.ob = O ∧ st'.base = st.base ∧ st'.marks = st.marks ∧ st'.pure = st.pure)
    (h2 : ∀ b, WpP P c ⟨⟨E b, O⟩, st.base, st.marks, st.pure⟩ K) : WpP P (.reg ops o) st (contP P (.drop keep none c) K) := by
  obtain ⟨⟨⟨env, ob⟩, base, marks, pu⟩, ⟨b, e1, e2, e3, e4, e5⟩, w⟩ := opsP_wit h1
  simp only at e1 e2 e3 e4 e5
  subst e2 e3 e4 e5
  refine w (fun s => contP P (.drop keep none c) K .nrm s) ?_
  show WpP P c ⟨⟨keepE env keep, ob⟩, st.base, st.marks, st.pure⟩ K
  rw [e1]
  exact h2 b
theorem pif_s {t : Bool} {a b : VC} (h1 : t = true → WpP P a st K) (h2 : t = false → WpP P b st K) : CondP P (.bool t) a b st K := ⟨h1, h2⟩
theorem pg_s {t : Bool} (h1 : t = b → OpP P ⟨d, none, o⟩ st k) (h2 : t = !b → k { st with env := putD st.env d (.tup []) }) : GuardP P (.bool t) b d o st k := by
  cases t <;> cases b <;> first | exact h1 rfl | exact h2 rfl
theorem pw_drop {s : List Nat} {k : Nat} {c : VC} (h1 : st.base + k ≤ st.ob.length) (h2 : st.marks.all (fun o => decide (o < st.base + k)) = true) (h3 : (keepE st.env s).all (fun p => p.2.ids (st.base + k)) = true) (h4 : (st.ob.take (st.base + k)).all (Obj.idsB (st.base + k)) = true)
    (h : WpP P c { st with env := keepE st.env s, ob := st.ob.take (st.base + k) } K) : WpP P (.drop s (some k) c) st K := by
  simp only [WpP, dropW, h1, h2, h3, h4, and_self, if_true]
  exact h
theorem pcall {f : Nat} {args args' : List VV} {d : Option Nat} {r : VV} (hp : PureC P f args' r) (ha : args.map VV.strip = args') (hi : args'.all (fun v => v.ids 0 && v.noTup) = true) (hk : k { st with env := putD st.env d r.stripT }) : CallP P f args none d st k := by
  subst ha
  exact ⟨hi, r, hp, by simpa only [takeR] using hk⟩
end
theorem pe_own {P : Program} {K : Ex → St → Prop} {st : St} {s sz : Nat} {c : VC} : WpP P (.own s none (sz + 1) c) st K = OwnP P (get st.env s) s (sz + 1) c st K := by
  simp only [WpP, ownW, OwnP]
  cases get st.env s <;> simp
theorem pown_nils {P : Program} {K : Ex → St → Prop} {st : St} {s sz : Nat} {c : VC} : OwnP P .nils s (sz + 1) c st K = WpP P c { st with env := put st.env s (.sl [] (st.ob.length + 2)), ob := st.ob ++ [.tok 0 (sz + 1)] } K := by
  simp [OwnP]
theorem pe_frz {P : Program} {K : Ex → St → Prop} {st : St} {s n : Nat} {c : VC} : WpP P (.own s (some n) 0 c) st K = FrzP P (get st.env s) s n c st K := by
  simp only [WpP, ownW, FrzP, frzW, if_true]
  cases get st.env s
  case ptr o off => rfl
  case row o off ln =>
    simp only
    cases nthO st.ob o <;> try rfl
    rename_i cs
    simp only
    by_cases h : off + ln * max n 1 ≤ cs.length ∧ (frzEs n off ln cs).all VV.canon = true
    · rw [if_pos h, if_pos h]
    · rw [if_neg h, if_neg h]
  all_goals rfl
theorem pfrz_sl {P : Program} {K : Ex → St → Prop} {st : St} {s n : Nat} {c : VC} {es : List VV} {t : Nat} : FrzP P (.sl es t) s n c st K = WpP P c st K := byRfl rfl
theorem pfrz_nils {P : Program} {K : Ex → St → Prop} {st : St} {s n : Nat} {c : VC} : FrzP P .nils s n c st K = WpP P c st K := byRfl rfl
theorem pfrz_row {P : Program} {K : Ex → St → Prop} {st : St} {s n : Nat} {c : VC} {o off ln : Nat} {cs : List VV} (ho : nthO st.ob o = .cells cs) (h1 : off + ln * max n 1 ≤ cs.length) (h2 : (frzEs n off ln cs).all VV.canon = true)
    (h : WpP P c { st with env := put st.env s (.sl (frzEs n off ln cs) 0), ob := st.ob.set o .gone } K) : FrzP P (.row o off ln) s n c st K := by
  simp only [FrzP, ho]
  rw [if_pos ⟨h1, h2⟩]
  exact h
theorem pfrz_all {P : Program} {K : Ex → St → Prop} {st : St} {s : Nat} {c : VC} {o ln : Nat} {cs : List VV} (ho : nthO st.ob o = .cells cs) (h1 : cs.length = ln) (h2 : cs.all VV.canon = true)
    (h : WpP P c { st with env := put st.env s (.sl cs 0), ob := st.ob.set o .gone } K) : FrzP P (.row o 0 ln) s 0 c st K := by
  have e : frzEs 0 0 ln cs = cs := by simp [frzEs, ← h1]
  exact pfrz_row ho (by simp; omega) (by rw [e]; exact h2) (by rw [e]; exact h)
theorem pe_thaw {P : Program} {K : Ex → St → Prop} {st st' : St} {s : Nat} {c : VC} (h : thawW st s = some st') (k : WpP P c st' K) : WpP P (.own s none 0 c) st K := by
  simp only [WpP, ownW, if_true, h]
  exact k
theorem pv_for {P : Program} {c : VC} {K : Ex → St → Prop} {s : List Nat} {k : Nat} {α : Type} {base : Nat} {marks : List Nat} {pu : Bool} (good : α → Prop) (m : α → Nat) (E : α → List (Nat × VV)) (O : α → List Obj)
    (hi : ∀ a, good a → (E a).all (fun p => p.2.ids (base + k)) = true ∧ (O a).all (Obj.idsB (base + k)) = true ∧ (O a).length = base + k) (hm : marks.all (fun o => decide (o < base + k)) = true)
    (h : ∀ a, good a → WpP P c ⟨⟨E a, O a⟩, base, marks, pu⟩ (loopK K (nextI s (base + k) base marks pu good m E O a))) :
    ∀ a st, good a → keepE st.env s = E a → st.ob.take (base + k) = O a → st.base = base → st.marks = marks → st.pure = pu → WpP P (.loop (.drop s (some k) c)) st K := by
  intro a st g h1 h2 h3 h4 h5
  refine p_loop (fun a st => good a ∧ keepE st.env s = E a ∧ st.ob.take (base + k) = O a ∧ st.base = base ∧ st.marks = marks ∧ st.pure = pu) m ?_ a st ⟨g, h1, h2, h3, h4, h5⟩
  rintro a ⟨⟨env, ob⟩, base', marks', pu'⟩ ⟨g, h1, h2, rfl, rfl, rfl⟩
  simp only at h1 h2 h ⊢
  obtain ⟨i1, i2, i3⟩ := hi a g
  refine pw_drop ?_ hm (by rw [h1]; exact i1) (by rw [h2]; exact i2) ?_
  · have := congrArg List.length h2
    rw [List.length_take, i3] at this
    show base' + k ≤ ob.length
    have hh := Nat.min_le_right (base' + k) ob.length
    rw [this] at hh
    exact hh
  · simp only [h1, h2]
    refine wpP_mono _ _ _ _ (fun e s' hs => ?_) (h a g)
    cases e with
    | nrm => obtain ⟨a', q1, q2, q3, q4, q5, q6, q7⟩ := hs; exact ⟨a', ⟨q1, q3, q4, q5, q6, q7⟩, q2⟩
    | ext id => exact hs
    | ret => exact hs

attribute [go_sem] pow_load2 pe_grd pg_tt pg_ff pg_tf pg_ft pg_tup pow_mov pow_pick pow_alloc pow_box pow_build pow_bsl pow_load pow_store pow_nilck pow_bin pow_un pow_cvi pow_faddr pow_fld pow_iaddr pow_idx pow_slc pow_ext pow_len pow_app pow_mm pow_mkfn pow_mkmap pow_lkp pow_mset pow_mdel pow_mks pow_aaddr pow_mrng pow_mentry pe_call pe_skip pe_scope pe_exit pe_ret pe_seq pe_block pe_drop pe_if pif_t pif_f pcontS_nrm pcontS_ext pcontS_ret pops_nil pops_cons popsK_eq pe_reg ng_nil ng_none ng_some pe_own pown_nils pe_frz pfrz_sl pfrz_nils
end Go.V

/- V, part 32: contracts of the machine that others have proved, as contracts of V. -/
set_option linter.unusedVariables false
set_option linter.unusedSimpArgs false
namespace Go.V
open Go.RowKit Go.Sort

section
variable {P : Program} {B : Nat} {w0 : W0} {ob : List Obj} {g : Gh} {w : World}

theorem ResR.plain {n0 : Nat} {F : Nat → Nat} {r : VV} {x : Value} (h : ∀ tb, Rep w F tb r x) (hi : r.ids 0 = true) (hf : ∀ es, r ≠ .sl es 1) (ht : ∀ vs, r ≠ .tup vs) : ResR n0 w F r x :=
  ⟨h, hi, by unfold Fresh; split <;> first | exact absurd rfl (hf _) | trivial, fun vs xs e => absurd e (ht vs)⟩

theorem pure_of {f : Nat} {args : List VV} {r : VV} (hok : callOk P f = true)
    (h : ∀ (w : World) (F : Nat → Nat) (vals : Array Value), GlobOk w → (∀ b, w.heap.size ≤ b → F b = 0) → vals.size = args.length → (∀ j (h : j < args.length) (h' : j < vals.size), Rep w F (fun _ => none) args[j] vals[j]) →
      Calls P f vals w fun e w' => ∃ x F', e = .returned x ∧ BelowD w.heap.size w w' ∧ (∀ b, w'.heap.size ≤ b → F' b = 0) ∧ (∀ b, b < w.heap.size → F' b = F b) ∧ ResR w.heap.size w' F' r x) : PureC P f args r :=
  ⟨hok, fun w F vals hG hF hs hv => callsIn_wide.2 (h w F vals hG hF hs hv)⟩

theorem calls_mono {f : Nat} {vals : Array Value} {R R' : Ending → World → Prop} (h : Calls P f vals w R) (hr : ∀ e w', R e w' → R' e w') : Calls P f vals w R' :=
  (callsIn_wide (n := 0)).1 (CallsIn.mono (callsIn_wide.2 h) hr)

/-- the world stays, the result is a scalar -/
theorem pure_quiet {f : Nat} {args : List VV} {r : VV} (hok : callOk P f = true) (hi : r.ids 0 = true) (hf : ∀ es, r ≠ .sl es 1) (ht : ∀ vs, r ≠ .tup vs)
    (h : ∀ (w : World) (F : Nat → Nat) (vals : Array Value), GlobOk w → vals.size = args.length → (∀ j (h : j < args.length) (h' : j < vals.size), Rep w F (fun _ => none) args[j] vals[j]) →
      ∃ x, (∀ tb, Rep w F tb r x) ∧ Calls P f vals w fun e w' => e = .returned x ∧ w' = w) : PureC P f args r := by
  refine pure_of hok fun w F vals hG hF hs hv => ?_
  obtain ⟨x, hx, hc⟩ := h w F vals hG hs hv
  refine calls_mono hc ?_
  rintro e w' ⟨rfl, rfl⟩
  exact ⟨x, F, rfl, BelowD.refl _ _, hF, fun _ _ => rfl, ResR.plain hx hi hf ht⟩

theorem rep_str {F : Nat → Nat} {tb : Nat → Option Nat} {s : List UInt8} {x : Value} (h : Rep w F tb (.str s) x) : ∃ b : ByteArray, x = .string b ∧ b.data.toList = s := by
  cases h; exact ⟨_, rfl, ‹_›⟩
theorem rep_int {F : Nat → Nat} {tb : Nat → Option Nat} {k : IntKind} {n : Int} {x : Value} (h : Rep w F tb (.int k n) x) : x = .int k n := by
  cases h; rfl

/-! ### The world ahead, grown -/
theorem inv_ahead (H : HInv B w0 ob g w) : ∀ n, HInv B w0 ob g (Sort.ahead w n) ∧ Pres B ob g w ob g (Sort.ahead w n)
  | 0 => ⟨H, Pres.refl _ _ _ _⟩
  | n + 1 => by
    obtain ⟨h1, h2⟩ := inv_ahead H n
    rw [← ahead_drew]
    exact ⟨h1.drew, h2.trans (Pres.drew h1)⟩

theorem inv_growL (H : HInv B w0 ob g w) : ∀ (l : List _root_.Go.Obj), HInv B w0 ob g (grow w l.toArray) ∧ Pres B ob g w ob g (grow w l.toArray) := by
  intro l
  have key : ∀ (m : List _root_.Go.Obj), HInv B w0 ob g (grow w m.reverse.toArray) ∧ Pres B ob g w ob g (grow w m.reverse.toArray) := by
    intro m
    induction m with
    | nil => simpa using ⟨H, Pres.refl B ob g w⟩
    | cons o r ih =>
      have e : grow w (o :: r).reverse.toArray = (grow w r.reverse.toArray).alloc o := by
        unfold grow World.alloc
        simp
      rw [e]
      exact ⟨ih.1.alloc0 o, ih.2.trans (Pres.alloc0 ih.1 o)⟩
  have := key l.reverse
  simpa using this
theorem inv_grow (H : HInv B w0 ob g w) (os : Array _root_.Go.Obj) : HInv B w0 ob g (grow w os) ∧ Pres B ob g w ob g (grow w os) := by
  have := inv_growL H os.toList
  simpa using this

theorem putRow_setRow {α : Type} [Inhabited α] {enc : α → Value} {b off : Nat} {d : Array α} {arr : Array Value} {ty : TypeId} {fr : Nat × Nat} (h : w.heap[b]? = some (.cells arr ty fr)) :
    putRow enc w b off d = w.setRow b (putCells enc off d arr) := by
  unfold putRow mapBlock World.setRow
  congr 1
  apply Array.ext_getElem?
  intro k
  simp only [Array.getElem?_modify]
  by_cases hk : b = k
  · subst hk
    simp [h, onCells]
  · simp [hk]

theorem putCells_size {α : Type} [Inhabited α] {enc : α → Value} {off : Nat} {d : Array α} {c : Array Value} : (putCells enc off d c).size = c.size := by simp [putCells]

theorem frozen_no {b off : Nat} {arr : Array Value} {ty : TypeId} {fr : Nat × Nat} (h : w.heap[b]? = some (.cells arr ty fr)) (hfr : fr = (0, 0) ∨ arr.size ≤ fr.1) (hj : off < arr.size) : w.frozen? ⟨b, off, none⟩ = false := by
  obtain ⟨lo, hi⟩ := fr
  rcases hfr with q | q
  · cases q; simp [World.frozen?, h]
  · simp only at q
    have : ¬ lo ≤ off := by omega
    simp [World.frozen?, h, this]
def intsV (zs : List Int) : List VV := zs.map (VV.int .i64)
@[simp] theorem intsV_len (zs : List Int) : (intsV zs).length = zs.length := by simp [intsV]
theorem intsV_get (zs : List Int) (j : Nat) (h : j < (intsV zs).length) : (intsV zs)[j] = .int .i64 (zs[j]'(by simpa using h)) := by simp [intsV]

/-- a call that writes numbers into a row of numbers -/
theorem imp_row {f o : Nat} {zs ys : List Int} {r : VV} {X : Nat → Nat → Value} (hok : callOk P f = true) (ho : nthO ob o = .cells (intsV zs)) (hl : ys.length = zs.length)
    (hc : ∀ (b cap : Nat) (w : World), Holds (Value.int .i64) w b 0 zs.toArray → b < w.heap.size → zs.length ≤ cap →
      Calls P f #[.slice (some ⟨b, 0, none⟩) zs.length cap] w fun e w' => e = .returned (X b cap) ∧ ∃ n os, w' = grow (putRow (Value.int .i64) (Sort.ahead w n) b 0 ys.toArray) os)
    (hr : ∀ (B : Nat) (ob' : List Obj) (g : Gh) (w : World) (b cap : Nat), zs.length ≤ cap → g.tb o = some b → o < ob'.length → GV B ob' g w r (X b cap)) :
    ImpC P f [.row o 0 zs.length] ob (fun r' ob' => r' = r ∧ ob' = ob.set o (.cells (intsV ys))) := by
  refine ⟨hok, fun B w0 g w vals hcm H hs hv => ?_⟩
  obtain ⟨hlt, b, arr, ty, htb, hB, hF, ⟨fr, hfr, hheap⟩, hsz, hcells⟩ := H.get ho (by simp)
  have h0 := hv 0 (by simp) (by rw [hs]; simp)
  have hrep := h0.rep
  simp only [List.getElem_cons_zero] at hrep
  have hvals : ∃ cap, zs.length ≤ cap ∧ vals = #[.slice (some ⟨b, 0, none⟩) zs.length cap] := by
    generalize hx : vals[0]'(by rw [hs]; simp) = x at hrep
    cases hrep with
    | @row _ _ _ cap b' hb hle =>
      rw [htb] at hb
      cases hb
      refine ⟨cap, hle, ?_⟩
      apply Array.ext
      · simpa using hs
      · intro i h1 h2
        have : i = 0 := by simp at h2; omega
        subst this
        simpa using hx
  obtain ⟨cap, hcap, rfl⟩ := hvals
  have hsz' : zs.length ≤ arr.size := by simpa using hsz
  have harr : ∀ j (h : j < zs.length), arr[j]'(Nat.lt_of_lt_of_le h hsz') = .int .i64 zs[j] := fun j h => by
    have := (hcells j (by simpa using h)).2
    rw [intsV_get] at this
    exact this.int_inv
  have hH : Holds (Value.int .i64) w b 0 zs.toArray := by
    intro j hj
    have hj' : j < zs.length := by simpa using hj
    refine ⟨?_, ?_⟩
    · simp only [World.cell?, hheap, Nat.zero_add]
      have e : arr[j]? = some (.int .i64 zs[j]) := by rw [Array.getElem?_eq_getElem (Nat.lt_of_lt_of_le hj' hsz'), harr j hj']
      have e2 : zs.toArray[j]! = zs[j] := by simp [hj']
      simp [e, e2]
    · exact frozen_no hheap hfr (by omega)
  refine callsIn_wide.2 (calls_mono (hc b cap w hH (lt_of_heap hheap) hcap) ?_)
  rintro e w' ⟨rfl, n, os, rfl⟩
  obtain ⟨H1, p1⟩ := inv_ahead H n
  have hheap1 : (Sort.ahead w n).heap[b]? = some (.cells arr ty fr) := hheap
  rw [putRow_setRow hheap1]
  have hl2 : (intsV ys).length ≤ (putCells (Value.int .i64) 0 ys.toArray arr).size := by rw [putCells_size]; simpa [hl] using hsz'
  obtain ⟨H2, p2⟩ := H1.setObj (cs' := intsV ys) (arr' := putCells (Value.int .i64) 0 ys.toArray arr) ho htb hheap1 (by rw [putCells_size]; exact hfr) hl2 (fun j hj => by
    have hj' : j < ys.length := by simpa using hj
    have hja : j < arr.size := by omega
    refine ⟨by rw [intsV_get]; rfl, ?_⟩
    have e : (putCells (Value.int .i64) 0 ys.toArray arr)[j]'(Nat.lt_of_lt_of_le hj hl2) = .int .i64 ys[j] := by
      simp [putCells, hj']
    rw [e, intsV_get]
    exact GV.int)
  obtain ⟨H3, p3⟩ := inv_grow H2 os
  exact ⟨_, g, r, _, rfl, ⟨rfl, rfl⟩, H3, hr _ _ _ _ _ _ hcap htb (by simpa using hlt), (p1.trans p2).trans p3⟩

theorem rep_slE {F : Nat → Nat} {tb : Nat → Option Nat} {t : Nat} {x : Value} (h : Rep w F tb (.sl [] t) x) : ∃ a cap, x = .slice a 0 cap := by
  cases h with
  | slE => exact ⟨_, _, rfl⟩
  | sl vals hne => exact absurd rfl hne

theorem arr1 {vals : Array Value} {x : Value} (hs : vals.size = 1) (h : vals[0]'(by omega) = x) : vals = #[x] := by
  apply Array.ext
  · simpa using hs
  · intro i h1 h2
    have : i = 0 := by omega
    subst this
    simpa using h
theorem arr2 {vals : Array Value} {x y : Value} (hs : vals.size = 2) (h : vals[0]'(by omega) = x) (h' : vals[1]'(by omega) = y) : vals = #[x, y] := by
  apply Array.ext
  · simpa using hs
  · intro i h1 h2
    match i, h1 with
    | 0, _ => simpa using h
    | 1, _ => simpa using h'
    | i + 2, h1 => omega

/-- strings in a new block -/
theorem res_strs {F : Nat → Nat} (hF : ∀ b, w.heap.size ≤ b → F b = 0) {l : List ByteArray} (hne : l ≠ []) {ty : TypeId} :
    ∃ F', (∀ b, (w.alloc (.cells (l.map Value.string).toArray ty)).heap.size ≤ b → F' b = 0) ∧ (∀ b, b < w.heap.size → F' b = F b) ∧
      ResR w.heap.size (w.alloc (.cells (l.map Value.string).toArray ty)) F' (.sl (l.map fun b => VV.str b.data.toList) 0) (.slice (some ⟨w.heap.size, 0, none⟩) l.length l.length) := by
  refine ⟨updF F w.heap.size l.length, fun b hb => ?_, fun b hb => updF_ne _ _ (by omega), ResR.plain (fun tb => ?_) (by simp [VV.ids]) (fun es e => by cases e) (fun vs e => by cases e)⟩
  · simp at hb
    rw [updF_ne _ _ (by omega)]
    exact hF b (by omega)
  · have hb : (w.alloc (.cells (l.map Value.string).toArray ty)).heap[w.heap.size]? = some (.cells (l.map Value.string).toArray ty (0, 0)) := heap_alloc_at w _
    have := Rep.sl (w := w.alloc (.cells (l.map Value.string).toArray ty)) (F := updF F w.heap.size l.length) (tb := tb) (es := l.map fun b => VV.str b.data.toList) (t := 0) (b := w.heap.size) (o := 0) (cap := l.length) (sz := 1)
      (fun i _ => .string (l.getD i ByteArray.empty)) (by simpa using hne) (by simp) (by omega)
      (fun i hi => by simp [VV.canon, VV.canon0, VV.cells]) (fun i hi j hj => by
        have hi' : i < l.length := by simpa using hi
        have hj0 : j = 0 := by simp [VV.cells] at hj; omega
        subst hj0
        have e : (List.map Value.string l).toArray[0 + i * 1 + 0]? = some (Value.string l[i]) := by simp [hi']
        simp only [World.cell?, hb, e]
        simp [List.getD_eq_getElem?_getD, hi'])
      (fun i hi j hj => by
        have hi' : i < l.length := by simpa using hi
        have hj0 : j = 0 := by simp [VV.cells] at hj; omega
        subst hj0
        simp only [List.getElem_map, VV.cells, List.getElem_cons_zero, List.getD_eq_getElem?_getD, List.getElem?_eq_getElem hi', Option.getD_some]
        exact .str rfl) (by simp)
    simpa using this
end

/-! ### Cut at a byte -/
def splitL (c : UInt8) : List UInt8 → List (List UInt8)
  | [] => [[]]
  | b :: r => if b = c then [] :: splitL c r else match splitL c r with
    | h :: t => (b :: h) :: t
    | [] => [[b]]

theorem splitL_ne (c : UInt8) : ∀ s, splitL c s ≠ []
  | [] => by simp [splitL]
  | b :: r => by
    simp only [splitL]
    split
    · simp
    · split <;> simp
theorem splitL_none (c : UInt8) : ∀ s, c ∉ s → splitL c s = [s]
  | [], _ => rfl
  | b :: r, h => by
    simp only [List.mem_cons, not_or] at h
    have h1 : ¬ b = c := fun e => h.1 e.symm
    simp [splitL, splitL_none c r h.2, h1]
theorem splitL_at (c : UInt8) (t : List UInt8) : ∀ a, c ∉ a → splitL c (a ++ c :: t) = a :: splitL c t
  | [], _ => by simp [splitL]
  | b :: r, h => by
    simp only [List.mem_cons, not_or] at h
    have h1 : ¬ b = c := fun e => h.1 e.symm
    simp [splitL, splitL_at c t r h.2, h1]

theorem index_one (c : UInt8) : ∀ s, (Lib.index s [c] = -1 ∧ c ∉ s) ∨ ∃ a t, s = a ++ c :: t ∧ c ∉ a ∧ Lib.index s [c] = (a.length : Int)
  | [] => .inl ⟨by simp [Lib.index], by simp⟩
  | b :: r => by
    by_cases h : b = c
    · subst h
      exact .inr ⟨[], r, rfl, by simp, by simp [Lib.index]⟩
    · have hp : ([c].isPrefixOf (b :: r)) = false := by simp [List.isPrefixOf]; exact fun e => h e.symm
      rcases index_one c r with ⟨h1, h2⟩ | ⟨a, t, h1, h2, h3⟩
      · exact .inl ⟨by simp only [Lib.index, hp, Bool.false_eq_true, if_false, h1]; rfl, by simp [h2]; exact fun e => h e.symm⟩
      · refine .inr ⟨b :: a, t, by simp [h1], by simp [h2]; exact fun e => h e.symm, ?_⟩
        have : ¬ (Lib.index r [c] == -1) = true := by rw [h3]; simp
        simp only [Lib.index, hp, Bool.false_eq_true, if_false, this]
        rw [h3]; simp

theorem splitK_one (c : UInt8) : ∀ (k : Nat) (s : List UInt8), s.count c ≤ k → Lib.splitK [c] 0 k s = splitL c s
  | 0, s, h => by
    have : c ∉ s := fun hm => by have := List.count_pos_iff.2 hm; omega
    rw [splitL_none c s this]; rfl
  | k + 1, s, h => by
    rcases index_one c s with ⟨h1, h2⟩ | ⟨a, t, rfl, h2, h3⟩
    · rw [splitL_none c s h2]
      simp [Lib.splitK, h1]
    · have hne : ¬ (Lib.index (a ++ c :: t) [c] == -1) = true := by rw [h3]; simp
      rw [splitL_at c t a h2, Lib.splitK, if_neg hne, h3]
      have e1 : ((a.length : Int)).toNat = a.length := by simp
      rw [e1]
      have e2 : (a ++ c :: t).take (a.length + 0) = a := by simp
      have e3 : (a ++ c :: t).drop (a.length + [c].length) = t := by simp
      rw [e2, e3, splitK_one c k t (by
        have : a.count c = 0 := List.count_eq_zero.2 h2
        simp [List.count_append, this] at h
        omega)]

theorem countFrom_one (c : UInt8) : ∀ (k : Nat) (s : List UInt8), s.length < k → Lib.countFrom [c] k s = s.count c
  | 0, s, h => by omega
  | k + 1, s, h => by
    rcases index_one c s with ⟨h1, h2⟩ | ⟨a, t, rfl, h2, h3⟩
    · simp [Lib.countFrom, h1, List.count_eq_zero.2 h2]
    · have hne : ¬ (Lib.index (a ++ c :: t) [c] == -1) = true := by rw [h3]; simp
      rw [Lib.countFrom, if_neg hne, h3]
      have e1 : ((a.length : Int)).toNat = a.length := by simp
      have e3 : (a ++ c :: t).drop (a.length + [c].length) = t := by simp
      rw [e1, e3, countFrom_one c k t (by simp at h; omega)]
      simp [List.count_append, List.count_eq_zero.2 h2]
      omega

theorem splitB_one (c : UInt8) (s : ByteArray) : ((Lib.splitB ⟨#[c]⟩ 0 (Lib.countB s ⟨#[c]⟩) s).map fun b => VV.str b.data.toList) = (splitL c s.data.toList).map VV.str := by
  have h := Lib.splitB_data ⟨#[c]⟩ 0 (Lib.countB s ⟨#[c]⟩) s
  have e : (fun b : ByteArray => VV.str b.data.toList) = VV.str ∘ fun b : ByteArray => b.data.toList := rfl
  rw [e, ← List.map_map, h, splitK_one]
  exact Nat.le_of_eq (countFrom_one c _ _ (by simp)).symm

theorem indexByte_mem (c : UInt8) : ∀ s, decide (0 ≤ Lib.indexByte s c) = s.contains c
  | [] => by simp [Lib.indexByte]
  | b :: r => by
    have ih := indexByte_mem c r
    have hge := Lib.indexByte_ge r c
    by_cases h : b = c
    · subst h
      simp [Lib.indexByte]
    · have h1 : (b == c) = false := by simp [h]
      have h2 : (c == b) = false := by simp; exact fun e => h e.symm
      rw [List.contains_cons, h2, Bool.false_or, ← ih]
      simp only [Lib.indexByte, h1, Bool.false_eq_true, if_false]
      by_cases q : Lib.indexByte r c = -1
      · simp [q]
      · have q' : ¬ (Lib.indexByte r c == -1) = true := by simpa using q
        rw [if_neg q']
        have : 0 ≤ Lib.indexByte r c := by omega
        simp only [this, decide_true, decide_eq_true_eq]
        omega
end Go.V

/- V, encodings 1: readable data of a type, taken apart; nodes. -/
set_option linter.unusedVariables false
set_option linter.unusedSimpArgs false
namespace Go.V
open Go.RowKit

def isI (P : Program) (t : TypeId) : Bool := match P.underlying t with | some (.int .i64) => P.cellsOf t == 1 | _ => false
def isS (P : Program) (t : TypeId) : Bool := match P.underlying t with | some .string => P.cellsOf t == 1 | _ => false
def isB (P : Program) (t : TypeId) : Bool := match P.underlying t with | some .bool => P.cellsOf t == 1 | _ => false
def isSl (P : Program) (t e : TypeId) : Bool := match P.underlying t with | some (.slice e') => e' == e && P.cellsOf t == 1 | _ => false
def isSt (P : Program) (t : TypeId) (l : List TypeId) : Bool := match P.underlying t with | some (.struct fs) => fs.toList.map Field.type == l | _ => false

def I64 (m : Int) : Prop := -9223372036854775808 ≤ m ∧ m ≤ 9223372036854775807

section
variable {P : Program} {n : Nat} {t e : TypeId} {vs : List VV}

theorem ty_I (h : isI P t = true) (q : tyOk P n t vs = true) : ∃ m, vs = [.int .i64 m] ∧ I64 m := by
  unfold isI at h
  split at h
  · rename_i hu
    cases n with
    | zero => cases q
    | succ n =>
      unfold tyOk at q
      rw [hu] at q
      match vs, q with
      | [.int k' m], q =>
        simp only [Bool.and_eq_true, decide_eq_true_eq] at q
        obtain ⟨rfl, hw⟩ := q
        refine ⟨_, rfl, ?_⟩
        simp [Lit.wf, IntKind.min, IntKind.max, IntKind.signed, IntKind.bits] at hw
        exact ⟨by omega, by omega⟩
  · cases h

theorem ty_S (h : isS P t = true) (q : tyOk P n t vs = true) : ∃ s, vs = [.str s] ∧ s.length ≤ maxLen := by
  unfold isS at h
  split at h
  · rename_i hu
    cases n with
    | zero => cases q
    | succ n =>
      unfold tyOk at q
      rw [hu] at q
      match vs, q with
      | [.str s], q => exact ⟨s, rfl, by simpa using q⟩
  · cases h

theorem ty_B (h : isB P t = true) (q : tyOk P n t vs = true) : ∃ b, vs = [.bool b] := by
  unfold isB at h
  split at h
  · rename_i hu
    cases n with
    | zero => cases q
    | succ n =>
      unfold tyOk at q
      rw [hu] at q
      match vs, q with
      | [.bool s], q => exact ⟨s, rfl⟩
  · cases h

theorem ty_Sl (h : isSl P t e = true) (q : tyOk P n t vs = true) : ∃ es, vs = [.sl es 0] ∧ es.length ≤ maxLen ∧ ∃ m, m < n ∧ ∀ v ∈ es, tyOk P m e v.cells = true ∧ stOk P e v = true := by
  unfold isSl at h
  split at h
  · rename_i e' hu
    simp only [Bool.and_eq_true, beq_iff_eq] at h
    obtain ⟨rfl, _⟩ := h
    cases n with
    | zero => cases q
    | succ n =>
      unfold tyOk at q
      rw [hu] at q
      match vs, q with
      | [.sl es tk], q =>
        simp only [Bool.and_eq_true, beq_iff_eq, decide_eq_true_eq, List.all_eq_true] at q
        obtain ⟨⟨rfl, hl⟩, ha⟩ := q
        exact ⟨es, rfl, hl, n, Nat.lt_succ_self _, ha⟩
  · cases h

def splitTy (P : Program) (n : Nat) : List TypeId → List VV → Prop
  | [], vs => vs = []
  | t :: l, vs => P.cellsOf t ≤ vs.length ∧ tyOk P n t (vs.take (P.cellsOf t)) = true ∧ splitTy P n l (vs.drop (P.cellsOf t))

theorem ty_St {l : List TypeId} (h : isSt P t l = true) (q : tyOk P n t vs = true) : ∃ m, m < n ∧ splitTy P m l vs := by
  unfold isSt at h
  split at h
  · rename_i fs hu
    simp only [beq_iff_eq] at h
    cases n with
    | zero => cases q
    | succ n =>
      unfold tyOk at q
      rw [hu] at q
      refine ⟨n, Nat.lt_succ_self _, ?_⟩
      subst h
      have key : ∀ (l : List Field) (vs : List VV), fieldsOk P (tyOk P n) l vs = true → splitTy P n (l.map Field.type) vs := by
        intro l
        induction l with
        | nil => intro vs hv; simpa [fieldsOk, splitTy] using hv
        | cons f l ih =>
          intro vs hv
          simp only [fieldsOk, Bool.and_eq_true, decide_eq_true_eq] at hv
          exact ⟨hv.1.1, hv.1.2, ih _ hv.2⟩
      have q' : fieldsOk P (tyOk P n) fs.toList vs = true := by
        match vs, q with
        | [], q => exact q
        | _ :: _, q => exact q
      exact key _ _ q'
  · cases h

theorem split1 {l : List TypeId} (hc : P.cellsOf t = 1) (q : splitTy P n (t :: l) vs) : ∃ v r, vs = v :: r ∧ tyOk P n t [v] = true ∧ splitTy P n l r := by
  obtain ⟨h1, h2, h3⟩ := q
  rw [hc] at h1 h2 h3
  match vs, h1 with
  | v :: r, _ => exact ⟨v, r, rfl, by simpa using h2, by simpa using h3⟩

theorem splitN {l : List TypeId} (q : splitTy P n (t :: l) vs) : ∃ a r, vs = a ++ r ∧ a.length = P.cellsOf t ∧ tyOk P n t a = true ∧ splitTy P n l r := by
  obtain ⟨h1, h2, h3⟩ := q
  exact ⟨_, _, (List.take_append_drop _ vs).symm, by simp; omega, h2, h3⟩

theorem isI_c (h : isI P t = true) : P.cellsOf t = 1 := by
  unfold isI at h; split at h
  · simpa using h
  · cases h
theorem isS_c (h : isS P t = true) : P.cellsOf t = 1 := by
  unfold isS at h; split at h
  · simpa using h
  · cases h
theorem isB_c (h : isB P t = true) : P.cellsOf t = 1 := by
  unfold isB at h; split at h
  · simpa using h
  · cases h
theorem isSl_c (h : isSl P t e = true) : P.cellsOf t = 1 := by
  unfold isSl at h; split at h
  · simp only [Bool.and_eq_true, beq_iff_eq] at h; exact h.2
  · cases h

theorem isSt_st {l : List TypeId} (h : isSt P t l = true) : isStruct P t = true := by
  unfold isSt at h
  unfold isStruct
  cases hu : P.underlying t with
  | none => rw [hu] at h; cases h
  | some d =>
    rw [hu] at h
    cases d <;> first | rfl | (cases h)
theorem st_agg {l : List TypeId} {v : VV} (h : isSt P t l = true) (q : stOk P t v = true) : ∃ cs, v = .agg cs := by
  cases v <;> first | exact ⟨_, rfl⟩ | (simp only [stOk, isSt_st h] at q; cases q)
theorem st_cell {v : VV} (h : isStruct P t = false) (q : stOk P t v = true) : v.cells = [v] := by
  cases v <;> first | rfl | (simp only [stOk, h] at q; cases q)

/-- a list whose members are codes of things -/
theorem map_of {α : Type} {f : α → VV} : ∀ {es : List VV}, (∀ v ∈ es, ∃ a, v = f a) → ∃ l : List α, es = l.map f
  | [], _ => ⟨[], rfl⟩
  | v :: r, h => by
    obtain ⟨a, ha⟩ := h v (by simp)
    obtain ⟨l, hl⟩ := map_of (es := r) fun u hu => h u (by simp [hu])
    exact ⟨a :: l, by simp [ha, hl]⟩
theorem map_of2 {α : Type} {f : α → VV} {p : α → Prop} : ∀ {es : List VV}, (∀ v ∈ es, ∃ a, v = f a ∧ p a) → ∃ l : List α, es = l.map f ∧ ∀ a ∈ l, p a
  | [], _ => ⟨[], rfl, nofun⟩
  | v :: r, h => by
    obtain ⟨a, ha, hp⟩ := h v (by simp)
    obtain ⟨l, hl, hq⟩ := map_of2 (es := r) fun u hu => h u (by simp [hu])
    exact ⟨a :: l, by simp [ha, hl], by simpa using ⟨hp, hq⟩⟩
end

/-- a node: kind, text, its place, its kids -/
inductive Nd where
  | mk (kind : Int) (text : List UInt8) (at_ en : Int) (kids : List Nd)

mutual
def eN : Nd → VV
  | .mk k t a e ks => .agg [.int .i64 k, .str t, .int .i64 a, .int .i64 e, .sl (eNs ks) 0]
def eNs : List Nd → List VV
  | [] => []
  | n :: r => eN n :: eNs r
end
def Nd.kids : Nd → List Nd | .mk _ _ _ _ ks => ks
def Nd.kind : Nd → Int | .mk k _ _ _ _ => k
def Nd.text : Nd → List UInt8 | .mk _ t _ _ _ => t
def Nd.at' : Nd → Int | .mk _ _ a _ _ => a
def Nd.en : Nd → Int | .mk _ _ _ e _ => e

theorem eNs_map : ∀ l : List Nd, eNs l = l.map eN
  | [] => by simp [eNs]
  | n :: r => by simp [eNs, eNs_map r]
theorem eNs_len (l : List Nd) : (eNs l).length = l.length := by simp [eNs_map]
theorem eNs_get (l : List Nd) (i : Nat) : (eNs l)[i]? = l[i]?.map eN := by simp [eNs_map]

mutual
/-- sizes of readable nodes -/
def okN : Nd → Prop
  | .mk k t a e ks => I64 k ∧ I64 a ∧ I64 e ∧ t.length ≤ maxLen ∧ ks.length ≤ maxLen ∧ okNs ks
def okNs : List Nd → Prop
  | [] => True
  | n :: r => okN n ∧ okNs r
end
theorem okNs_iff : ∀ {l : List Nd}, okNs l ↔ ∀ n ∈ l, okN n
  | [] => by simp [okNs]
  | n :: r => by simp [okNs, okNs_iff (l := r)]

/-- node, list of nodes -/
def isNode (P : Program) (tn ti ts tl : TypeId) : Bool := isSt P tn [ti, ts, ti, ti, tl] && isI P ti && isS P ts && isSl P tl tn

theorem ty_N {P : Program} {tn ti ts tl : TypeId} (h : isNode P tn ti ts tl = true) : ∀ (n : Nat) (vs : List VV), tyOk P n tn vs = true → ∃ d, .agg vs = eN d ∧ okN d := by
  simp only [isNode, Bool.and_eq_true] at h
  obtain ⟨⟨⟨h1, h2⟩, h3⟩, h4⟩ := h
  intro n
  induction n using Nat.strongRecOn with
  | _ n ih =>
    intro vs q
    obtain ⟨m, hm, q⟩ := ty_St h1 q
    obtain ⟨v1, r1, rfl, q1, q⟩ := split1 (isI_c h2) q
    obtain ⟨v2, r2, rfl, q2, q⟩ := split1 (isS_c h3) q
    obtain ⟨v3, r3, rfl, q3, q⟩ := split1 (isI_c h2) q
    obtain ⟨v4, r4, rfl, q4, q⟩ := split1 (isI_c h2) q
    obtain ⟨v5, r5, rfl, q5, q⟩ := split1 (isSl_c h4) q
    cases q
    obtain ⟨k, e1, b1⟩ := ty_I h2 q1
    obtain ⟨t, e2, b2⟩ := ty_S h3 q2
    obtain ⟨a, e3, b3⟩ := ty_I h2 q3
    obtain ⟨e, e4, b4⟩ := ty_I h2 q4
    obtain ⟨es, e5, b5, m', hm', hes⟩ := ty_Sl h4 q5
    simp only [List.cons.injEq, and_true] at e1 e2 e3 e4 e5
    subst e1 e2 e3 e4 e5
    obtain ⟨ks, rfl, hks⟩ := map_of2 (f := eN) (p := okN) (es := es) fun v hv => by
      obtain ⟨w1, w2⟩ := hes v hv
      obtain ⟨cs, rfl⟩ := st_agg h1 w2
      exact ih m' (by omega) cs w1
    refine ⟨.mk k t a e ks, by simp [eN, eNs_map], ?_⟩
    simp only [okN]
    exact ⟨b1, b3, b4, b2, by simpa using b5, okNs_iff.2 hks⟩

theorem ty_NL {P : Program} {tn ti ts tl : TypeId} (h : isNode P tn ti ts tl = true) {n : Nat} {vs : List VV} (q : tyOk P n tl vs = true) : ∃ l : List Nd, vs = [.sl (l.map eN) 0] ∧ l.length ≤ maxLen ∧ ∀ d ∈ l, okN d := by
  have h' := h
  simp only [isNode, Bool.and_eq_true] at h'
  obtain ⟨⟨⟨h1, h2⟩, h3⟩, h4⟩ := h'
  obtain ⟨es, rfl, b5, m', hm', hes⟩ := ty_Sl h4 q
  obtain ⟨ks, rfl, hks⟩ := map_of2 (f := eN) (p := okN) (es := es) fun v hv => by
    obtain ⟨w1, w2⟩ := hes v hv
    obtain ⟨cs, rfl⟩ := st_agg h1 w2
    exact ty_N h m' cs w1
  exact ⟨ks, rfl, by simpa using b5, hks⟩

/-- bindings -/
abbrev Bd := List UInt8 × List Nd
def eB (b : Bd) : VV := .agg [.str b.1, .sl (b.2.map eN) 0]
def isBdL (P : Program) (tn ti ts tl tb tbl : TypeId) : Bool := isNode P tn ti ts tl && isSt P tb [ts, tl] && isSl P tbl tb

theorem ty_BL {P : Program} {tn ti ts tl tb tbl : TypeId} (h : isBdL P tn ti ts tl tb tbl = true) {n : Nat} {vs : List VV} (q : tyOk P n tbl vs = true) :
    ∃ l : List Bd, vs = [.sl (l.map eB) 0] ∧ l.length ≤ maxLen ∧ ∀ b ∈ l, b.1.length ≤ maxLen ∧ b.2.length ≤ maxLen ∧ ∀ d ∈ b.2, okN d := by
  simp only [isBdL, Bool.and_eq_true] at h
  obtain ⟨⟨h1, h2⟩, h3⟩ := h
  have h1' := h1
  simp only [isNode, Bool.and_eq_true] at h1'
  obtain ⟨es, rfl, b5, m', hm', hes⟩ := ty_Sl h3 q
  obtain ⟨ks, rfl, hks⟩ := map_of2 (f := eB) (p := fun b => b.1.length ≤ maxLen ∧ b.2.length ≤ maxLen ∧ ∀ d ∈ b.2, okN d) (es := es) fun v hv => by
    obtain ⟨w1, w2⟩ := hes v hv
    obtain ⟨cs, rfl⟩ := st_agg h2 w2
    obtain ⟨m, hm, q⟩ := ty_St h2 w1
    obtain ⟨v1, r1, rfl, q1, q⟩ := split1 (isS_c h1'.1.2) q
    obtain ⟨v2, r2, rfl, q2, q⟩ := split1 (isSl_c h1'.2) q
    cases q
    obtain ⟨t, e2, b2⟩ := ty_S h1'.1.2 q1
    obtain ⟨l, e3, b3, b4⟩ := ty_NL h1 q2
    simp only [List.cons.injEq, and_true] at e2 e3
    subst e2 e3
    exact ⟨(t, l), rfl, b2, b3, b4⟩
  exact ⟨ks, rfl, by simpa using b5, hks⟩

/-- spans -/
def eSp (b : Int × Int) : VV := .agg [.int .i64 b.1, .int .i64 b.2]
def isSpL (P : Program) (ti tp tpl : TypeId) : Bool := isI P ti && isSt P tp [ti, ti] && isSl P tpl tp
theorem ty_SpL {P : Program} {ti tp tpl : TypeId} (h : isSpL P ti tp tpl = true) {n : Nat} {vs : List VV} (q : tyOk P n tpl vs = true) :
    ∃ l : List (Int × Int), vs = [.sl (l.map eSp) 0] ∧ l.length ≤ maxLen ∧ ∀ b ∈ l, I64 b.1 ∧ I64 b.2 := by
  simp only [isSpL, Bool.and_eq_true] at h
  obtain ⟨⟨h1, h2⟩, h3⟩ := h
  obtain ⟨es, rfl, b5, m', hm', hes⟩ := ty_Sl h3 q
  obtain ⟨ks, rfl, hks⟩ := map_of2 (f := eSp) (p := fun b => I64 b.1 ∧ I64 b.2) (es := es) fun v hv => by
    obtain ⟨w1, w2⟩ := hes v hv
    obtain ⟨cs, rfl⟩ := st_agg h2 w2
    obtain ⟨m, hm, q⟩ := ty_St h2 w1
    obtain ⟨v1, r1, rfl, q1, q⟩ := split1 (isI_c h1) q
    obtain ⟨v2, r2, rfl, q2, q⟩ := split1 (isI_c h1) q
    cases q
    obtain ⟨k, e1, b1⟩ := ty_I h1 q1
    obtain ⟨t, e2, b2⟩ := ty_I h1 q2
    simp only [List.cons.injEq, and_true] at e1 e2
    subst e1 e2
    exact ⟨(k, t), rfl, b1, b2⟩
  exact ⟨ks, rfl, by simpa using b5, hks⟩
end Go.V
