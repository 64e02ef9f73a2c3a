/- V, part 25: V, run: what a run of it answers is so. -/
import Derived.Test.YtfhkgkijljfcfaaV24a
set_option linter.unusedVariables false
set_option linter.unusedSimpArgs false
namespace Go.V
open Go.RowKit

abbrev CallE := Nat → List VV → Option (Option Nat × Nat) → Option Nat → St → Option St

def stepE (call : CallE) (yld : Nat → List VV → Option Nat → St → Option St) (i : VI) (st : St) : Option St :=
  match wantedV st.env i.g with
  | none => none
  | some false => some { st with env := putD st.env i.dst (.tup []) }
  | some true => match i.op with
    | .call f args own => call f (args.map (Opd.ev st.env)) own i.dst st
    | .callv x args own => match fnOf (x.ev st.env) with
      | some (f, cap) => call f (args.map (Opd.ev st.env) ++ cap) own i.dst st
      | none => match yldOf (x.ev st.env) with
        | some o => yld o (args.map (Opd.ev st.env)) i.dst st
        | none => none
    | op => match op.ev st.toS0 with
      | some (v, ob') => some { st with env := putD st.env i.dst v, ob := ob' }
      | none => none

def opsE (call : CallE) (yld : Nat → List VV → Option Nat → St → Option St) : List VI → St → Option St
  | [], st => some st
  | i :: r, st => match stepE call yld i st with
    | some st' => opsE call yld r st'
    | none => none

mutual
def eqVV : VV → VV → Bool
  | .int k n, .int k' n' => decide (k = k') && decide (n = n')
  | .bool b, .bool b' => decide (b = b')
  | .str s, .str t => decide (s = t)
  | .nilp, .nilp => true
  | .ptr o f, .ptr o' f' => decide (o = o') && decide (f = f')
  | .pim cs f, .pim cs' f' => eqVL cs cs' && decide (f = f')
  | .nils, .nils => true
  | .sl es t, .sl es' t' => eqVL es es' && decide (t = t')
  | .row o f l, .row o' f' l' => decide (o = o') && decide (f = f') && decide (l = l')
  | .nilm, .nilm => true
  | .mp o, .mp o' => decide (o = o')
  | .nilf, .nilf => true
  | .fn f c, .fn f' c' => decide (f = f') && eqVL c c'
  | .yld o, .yld o' => decide (o = o')
  | .it o, .it o' => decide (o = o')
  | .agg cs, .agg cs' => eqVL cs cs'
  | .tup cs, .tup cs' => eqVL cs cs'
  | .dead, .dead => true
  | _, _ => false
def eqVL : List VV → List VV → Bool
  | [], [] => true
  | a :: r, b :: s => eqVV a b && eqVL r s
  | _, _ => false
end

mutual
theorem eqVV_ok : ∀ (a b : VV), eqVV a b = true → a = b := by
  intro a b h
  cases a <;> cases b <;> simp only [eqVV, Bool.and_eq_true, decide_eq_true_eq, Bool.false_eq_true] at h <;> first | rfl | skip
  case int.int => rw [h.1, h.2]
  case bool.bool => rw [h]
  case str.str => rw [h]
  case ptr.ptr => rw [h.1, h.2]
  case pim.pim cs f cs' f' => rw [eqVL_ok cs cs' h.1, h.2]
  case sl.sl cs f cs' f' => rw [eqVL_ok cs cs' h.1, h.2]
  case row.row => rw [h.1.1, h.1.2, h.2]
  case mp.mp => rw [h]
  case fn.fn f cs f' cs' => rw [eqVL_ok cs cs' h.2, h.1]
  case yld.yld => rw [h]
  case it.it => rw [h]
  case agg.agg cs cs' => rw [eqVL_ok cs cs' h]
  case tup.tup cs cs' => rw [eqVL_ok cs cs' h]
theorem eqVL_ok : ∀ (a b : List VV), eqVL a b = true → a = b := by
  intro a b h
  match a, b, h with
  | [], [], _ => rfl
  | a :: r, b :: s, h =>
    simp only [eqVL, Bool.and_eq_true] at h
    rw [eqVV_ok a b h.1, eqVL_ok r s h.2]
end

def eqEs : List (VV × VV) → List (VV × VV) → Bool
  | [], [] => true
  | (a, b) :: r, (c, d) :: s => eqVV a c && eqVV b d && eqEs r s
  | _, _ => false
theorem eqEs_ok : ∀ (a b : List (VV × VV)), eqEs a b = true → a = b
  | [], [], _ => rfl
  | (a, b) :: r, (c, d) :: s, h => by
    simp only [eqEs, Bool.and_eq_true] at h
    rw [eqVV_ok _ _ h.1.1, eqVV_ok _ _ h.1.2, eqEs_ok _ _ h.2]
  | [], _ :: _, h => by simp [eqEs] at h
  | _ :: _, [], h => by simp [eqEs] at h

/-- the same, but for what no load reads -/
def keepO : Obj → Obj → Bool
  | .cells a, .cells b => eqVL a b
  | .map a, .map b => eqEs a b
  | a, _ => a.vol

def keepsB : List Obj → List Obj → Bool
  | [], _ => true
  | a :: r, b :: s => keepO a b && keepsB r s
  | _ :: _, [] => false

theorem keepsB_ok : ∀ {a b : List Obj}, keepsB a b = true → Keeps a b
  | [], _, _ => fun o h => by simp [nthO, Obj.vol] at h
  | x :: r, [], h => by simp [keepsB] at h
  | x :: r, y :: s, h => by
    simp only [keepsB, Bool.and_eq_true] at h
    intro o h1
    cases o with
    | zero =>
      simp only [nthO, List.getD_cons_zero] at h1 ⊢
      have h := h.1
      unfold keepO at h
      split at h
      · rw [eqVL_ok _ _ h]
      · rw [eqEs_ok _ _ h]
      · rw [h] at h1; cases h1
    | succ o =>
      have := keepsB_ok h.2 o
      simp only [nthO, List.getD_cons_succ] at h1 ⊢ this
      exact this h1

def isExt : Ex → Bool
  | .ext _ => true
  | _ => false

def takeE (own : Option (Option Nat × Nat)) (d : Option Nat) (st : St) (r : VV) : Option St :=
  match takeR own st.ob r with
  | some (v, ob') => some { st with env := putD st.env d v, ob := ob' }
  | none => none

/-- is a call one of data; may it be one of objects -/
def ownD (own : Option (Option Nat × Nat)) : Bool := (markOf own).isNone
def ownI (pure : Bool) (own : Option (Option Nat × Nat)) : Bool := (markOf own).isSome || (!pure && own.isNone)

def kOf (own : Option (Option Nat × Nat)) (a b : List Obj) : Bool := match markOf own with | some true => keepsB a b | _ => true

/-- a call that is handed objects -/
def impE (tab : Nat → Option VF) (run : VC → St → Option (Ex × St)) (f : Nat) (args : List VV) (ob : List Obj) : Option (VV × List Obj) :=
  match tab f with
  | none => none
  | some vf => if args.length = vf.params then
      match run vf.body { env := envA 0 args, ob := ob, base := ob.length } with
      | none => none
      | some (e, s) => match closeM s.marks s.ob with
        | none => none
        | some ob' => if !isExt e && decide (s.base = ob.length) && decide (ob.length ≤ ob'.length) then
            match (resOfL ⟨s.env, ob'⟩ vf.results).bind outI with
            | none => none
            | some r => if r.ids ob.length && (ob'.take ob.length).all (Obj.idsB ob.length) then some (r, ob'.take ob.length)
              else if r.ids ob'.length && ob'.all (Obj.idsB ob'.length) then some (r, ob') else none
          else none
    else none

/-- a call of data -/
def pureE (tab : Nat → Option VF) (run : VC → St → Option (Ex × St)) (f : Nat) (args : List VV) : Option VV :=
  match tab f with
  | none => none
  | some vf => if args.length = vf.params ∧ args.all argOk = true then
      match run vf.body { env := envA 0 args, ob := [], base := 0 } with
      | none => none
      | some (e, s) => if isExt e then none else match (closeM s.marks s.ob).bind fun ob' => (resOfL ⟨s.env, ob'⟩ vf.results).bind (outR vf.fresh ob') with
        | none => none
        | some r => if r.ids 0 then some r else none
    else none

/-- tab: the texts of functions; ext: what is known of functions without text -/
def callE (tab : Nat → Option VF) (ext : Nat → List VV → Option VV) (run : VC → St → Option (Ex × St)) (pure : Bool) : CallE := fun f args own d st =>
  if ownD own && (args.map VV.strip).all (fun v => v.ids 0 && v.noTup) then
    match ext f (args.map VV.strip) with
    | some r => takeE own d st r
    | none => match pureE tab run f (args.map VV.strip) with
      | some r => takeE own d st r
      | none => none
  else if ownI pure own && args.all VV.noTup then
    match impE tab run f (args.map VV.strip) st.ob with
    | some (r, ob') => if kOf own st.ob ob' then some { st with env := putD st.env d r, ob := ob' } else none
    | none => none
  else none

/-- a round -/
def rndE (run : VC → St → Option (Ex × St)) (o : Nat) (args : List VV) (ob : List Obj) : Option (VV × List Obj) :=
  match nthO ob o with
  | .loop nt env ps a b s _ => if s = 0 ∧ ps.all (· < nt) = true ∧ args.length = ps.length then
      match run a { env := bindP ps args env, ob := ob, base := ob.length } with
      | some (.nrm, st1) => match setBusy st1.ob o with
        | none => none
        | some ob1 => match run b { st1 with ob := ob1 } with
          | none => none
          | some (e, st2) => match setSt st2.ob o (if e = .nrm then 0 else 2) e with
            | none => none
            | some ob' => if decide (st2.base = ob.length) && st2.marks.isEmpty && decide (ob.length ≤ ob'.length) then
                if (ob'.take ob.length).all (Obj.idsB ob.length) then some (.bool (decide (e = .nrm)), ob'.take ob.length)
                else if ob'.all (Obj.idsB ob'.length) then some (.bool (decide (e = .nrm)), ob') else none
              else none
      | _ => none
    else none
  | _ => none

def yldE (run : VC → St → Option (Ex × St)) (o : Nat) (args : List VV) (d : Option Nat) (st : St) : Option St :=
  if args.all VV.noTup then match rndE run o (args.map VV.strip) st.ob with
    | some (r, ob') => some { st with env := putD st.env d r, ob := ob' }
    | none => none
  else none

def noYld : Nat → List VV → Option Nat → St → Option St := fun _ _ _ _ => none

def exec (tab : Nat → Option VF) (ext : Nat → List VV → Option VV) : Nat → VC → St → Option (Ex × St)
  | 0, _, _ => none
  | n + 1, c, st => match c with
    | .skip => some (.nrm, st)
    | .reg ops none => match opsE (callE tab ext (exec tab ext n) false) (yldE (exec tab ext n)) ops st with
      | some st' => some (.nrm, st')
      | none => none
    | .reg ops (some _) => match opsE (callE tab ext (exec tab ext n) true) noYld ops st with
      | some st' => some (.nrm, st')
      | none => none
    | .seq a b => match exec tab ext n a st with
      | some (.nrm, st') => exec tab ext n b st'
      | r => r
    | .cond c a b => match c.ev st.env with
      | .bool true => exec tab ext n a st
      | .bool false => exec tab ext n b st
      | _ => none
    | .block id c => match exec tab ext n c st with
      | some (.ext j, st') => if j = id then some (.nrm, st') else some (.ext j, st')
      | r => r
    | .loop c => match exec tab ext n c st with
      | some (.nrm, st') => exec tab ext n (.loop c) st'
      | r => r
    | .exit id => some (.ext id, st)
    | .ret => some (.ret, st)
    | .scope _ => none
    | .rfn _ nt f ps a b => match fnOf (f.ev st.env) with
      | none => none
      | some (g, cap) => match impE tab (exec tab ext n) g ((VV.yld (st.ob.length + 1) :: cap).map VV.strip) (st.ob ++ [.dfr] ++ [.loop nt st.env ps a b 0 .nrm]) with
        | none => none
        | some (_, ob2) => match nthO ob2 (st.ob.length + 1) with
          | .loop _ _ _ _ _ s pend => if s = 0 ∨ s = 2 then some (pend, { st with ob := ob2.set (st.ob.length + 1) .gone, marks := st.ob.length :: st.marks }) else none
          | _ => none
    | .drop s k c => match dropW st s k with
      | some st' => exec tab ext n c st'
      | none => none
    | .own s f sz c => match ownW st s f sz with
      | some st' => exec tab ext n c st'
      | none => none

structure TabOk (P : Program) (tab : Nat → Option VF) (ext : Nat → List VV → Option VV) : Prop where
  t : ∀ f vf, tab f = some vf → mFn P f vf = true
  e : ∀ f args r, ext f args = some r → PureC P f args r

section
variable {P : Program} {tab : Nat → Option VF} {ext : Nat → List VV → Option VV}

def RunOk (P : Program) (run : VC → St → Option (Ex × St)) : Prop := ∀ c st e st' (K : Ex → St → Prop), run c st = some (e, st') → K e st' → Wp P c st K

theorem not_ext : ∀ {e : Ex}, isExt e = false → (match e with | .ext _ => False | _ => True)
  | .nrm, _ => trivial
  | .ret, _ => trivial
  | .ext _, h => by cases h

theorem impE_ok (T : TabOk P tab ext) {run : VC → St → Option (Ex × St)} (hr : RunOk P run) {f : Nat} {args : List VV} {ob ob' : List Obj} {r : VV} (h : impE tab run f args ob = some (r, ob')) : ImpC P f args ob (fun v o => v = r ∧ o = ob') := by
  unfold impE at h
  split at h
  · cases h
  · rename_i vf htab
    split at h
    · rename_i hlen
      split at h
      · cases h
      · rename_i e s hrun
        split at h
        · cases h
        · rename_i ob2 hcl
          split at h
          · rename_i hcond
            simp only [Bool.and_eq_true, Bool.not_eq_true', decide_eq_true_eq] at hcond
            obtain ⟨⟨c1, c2⟩, c3⟩ := hcond
            split at h
            · cases h
            · rename_i q hres
              split at h
              · rename_i hi
                simp only [Bool.and_eq_true] at hi
                cases h
                exact imp_of_wp (T.t _ _ htab) hlen (hr _ _ _ _ _ hrun ⟨not_ext c1, c2, ob2, ob.length, r, hcl, Nat.le_refl _, c3, hi.2, hres, hi.1, rfl, rfl⟩)
              · split at h
                · rename_i hi
                  simp only [Bool.and_eq_true] at hi
                  cases h
                  exact imp_of_wp (T.t _ _ htab) hlen (hr _ _ _ _ _ hrun ⟨not_ext c1, c2, ob', ob'.length, r, hcl, c3, Nat.le_refl _, by simpa using hi.2, hres, hi.1, rfl, by simp⟩)
                · cases h
          · cases h
    · cases h

theorem pureE_ok (T : TabOk P tab ext) {run : VC → St → Option (Ex × St)} (hr : RunOk P run) {f : Nat} {args : List VV} {r : VV} (h : pureE tab run f args = some r) : PureC P f args r := by
  unfold pureE at h
  split at h
  · cases h
  · rename_i vf htab
    split at h
    · rename_i hc
      split at h
      · cases h
      · rename_i e s hrun
        split at h
        · cases h
        · rename_i hne
          split at h
          · cases h
          · rename_i q hres
            split at h
            · rename_i hids
              cases h
              exact pure_of_wp (T.t _ _ htab) hc.1 hc.2 (hr _ _ _ _ _ hrun ⟨trivial, not_ext (by simpa using hne), hres, hids⟩)
            · cases h
    · cases h

theorem callE_D (T : TabOk P tab ext) {run : VC → St → Option (Ex × St)} (hr : RunOk P run) {pure : Bool} {f : Nat} {args : List VV} {own : Option (Option Nat × Nat)} {d : Option Nat} {st st' : St} {K : St → Prop}
    (h : callE tab ext run pure f args own d st = some st') (hk : K st') : CallD P f args own d st K ∨ (pure = false ∧ CallW P f args own d st K) := by
  unfold callE at h
  split at h
  · rename_i hdata
    rw [Bool.and_eq_true] at hdata
    have fin : ∀ r, PureC P f (args.map VV.strip) r → takeE own d st r = some st' → CallD P f args own d st K := fun r hp ht => by
      refine .inl ⟨hdata.2, r, hp, ?_⟩
      unfold takeE at ht
      split at ht
      · rename_i hq; rw [hq]; cases ht; exact hk
      · cases ht
    split at h
    · rename_i r he
      exact .inl (fin r (T.e _ _ _ he) h)
    · split at h
      · rename_i r he
        exact .inl (fin r (pureE_ok T hr he) h)
      · cases h
  · split at h
    · rename_i hown
      rw [Bool.and_eq_true] at hown
      obtain ⟨hown, hnt⟩ := hown
      split at h
      · rename_i r ob' hi
        split at h
        · rename_i hkp
          cases h
          have himp := impE_ok T hr hi
          cases hmk : markOf own with
          | none =>
            simp only [ownI, hmk, Option.isSome_none, Bool.false_or, Bool.and_eq_true, Bool.not_eq_true', Option.isNone_iff_eq_none] at hown
            exact .inr ⟨hown.1, .inr ⟨.inl hown.2, hnt, himp.mono (by rintro v o ⟨rfl, rfl⟩; exact hk)⟩⟩
          | some b =>
            left
            right
            refine ⟨b, hmk, hnt, r, ob', himp, fun hb => ?_, hk⟩
            subst hb
            unfold kOf at hkp
            rw [hmk] at hkp
            exact keepsB_ok hkp
        · cases h
      · cases h
    · cases h

theorem rndE_ok {run : VC → St → Option (Ex × St)} (hr : RunOk P run) {o : Nat} {args : List VV} {ob ob' : List Obj} {r : VV} (h : rndE run o args ob = some (r, ob')) : YldC P o args ob (fun v q => v = r ∧ q = ob') := by
  refine yld_of_wp ?_
  unfold rndE at h
  unfold RndW
  split at h
  · rename_i nt env ps a b s pend ho
    split at h
    · rename_i hc
      rw [ho]
      refine ⟨hc.1, hc.2.1, hc.2.2, ?_⟩
      split at h
      · rename_i st1 hrun
        refine hr _ _ _ _ _ hrun ⟨rfl, ?_⟩
        split at h
        · cases h
        · rename_i ob1 hb
          refine ⟨ob1, hb, ?_⟩
          split at h
          · cases h
          · rename_i e st2 hrun2
            split at h
            · cases h
            · rename_i ob2 hset
              split at h
              · rename_i hcond
                simp only [Bool.and_eq_true, decide_eq_true_eq, List.isEmpty_iff] at hcond
                obtain ⟨⟨c1, c2⟩, c3⟩ := hcond
                split at h
                · rename_i hi
                  cases h
                  exact hr _ _ _ _ _ hrun2 ⟨c1, c2, ob2, ob.length, hset, Nat.le_refl _, c3, hi, rfl, rfl⟩
                · split at h
                  · rename_i hi
                    cases h
                    exact hr _ _ _ _ _ hrun2 ⟨c1, c2, ob', ob'.length, hset, c3, Nat.le_refl _, by simpa using hi, rfl, by simp⟩
                  · cases h
              · cases h
      · cases h
    · cases h
  · cases h

theorem callD_W {f : Nat} {args : List VV} {own : Option (Option Nat × Nat)} {d : Option Nat} {st : St} {K : St → Prop} (h : CallD P f args own d st K) : CallW P f args own d st K := by
  rcases h with h | ⟨b, h1, h2, v, ob1, h3, _, h5⟩
  · exact .inl h
  · exact .inr ⟨.inr (by rw [h1]; rfl), h2, h3.mono (by rintro r o ⟨rfl, rfl⟩; exact h5)⟩

theorem stepE_W (T : TabOk P tab ext) {run : VC → St → Option (Ex × St)} (hr : RunOk P run) {i : VI} {st st' : St} {K : St → Prop} (h : stepE (callE tab ext run false) (yldE run) i st = some st') (hk : K st') : OpW P i st K := by
  have call : ∀ {f args own}, callE tab ext run false f args own i.dst st = some st' → CallW P f args own i.dst st K := fun h => by
    rcases callE_D T hr h hk with q | q
    · exact callD_W q
    · exact q.2
  unfold stepE at h
  unfold OpW
  split at h
  · cases h
  · rename_i hw; rw [hw]; cases h; exact hk
  · rename_i hw; rw [hw]
    simp only
    split at h
    · rename_i ho; simp only [ho]; exact call h
    · rename_i ho; simp only [ho]
      split at h
      · rename_i hf; simp only [hf]; exact call h
      · rename_i hf
        simp only [hf]
        split at h
        · rename_i o hy
          simp only [hy]
          unfold yldE at h
          split at h
          · rename_i hnt
            split at h
            · rename_i r ob' hrd
              cases h
              exact ⟨hnt, (rndE_ok hr hrd).mono (by rintro v q ⟨rfl, rfl⟩; exact hk)⟩
            · cases h
          · cases h
        · cases h
    · rename_i hn1 hn2
      split at h
      · rename_i v ob' hev
        cases h
        split
        · rename_i ho; exact absurd ho (hn1 _ _ _)
        · rename_i ho; exact absurd ho (hn2 _ _ _)
        · simp only [hev]; exact hk
      · cases h

theorem stepE_D (T : TabOk P tab ext) {run : VC → St → Option (Ex × St)} (hr : RunOk P run) {i : VI} {st st' : St} {K : St → Prop} (h : stepE (callE tab ext run true) noYld i st = some st') (hk : K st') : OpD P i st K := by
  have call : ∀ {f args own}, callE tab ext run true f args own i.dst st = some st' → CallD P f args own i.dst st K := fun h => by
    rcases callE_D T hr h hk with q | q
    · exact q
    · exact absurd q.1 (by simp)
  unfold stepE at h
  unfold OpD
  split at h
  · cases h
  · rename_i hw; rw [hw]; cases h; exact hk
  · rename_i hw; rw [hw]
    simp only
    split at h
    · rename_i ho; simp only [ho]; exact call h
    · rename_i ho; simp only [ho]
      split at h
      · rename_i hf; simp only [hf]; exact call h
      · split at h
        · cases h
        · cases h
    · rename_i hn1 hn2
      split at h
      · rename_i v ob' hev
        cases h
        split
        · rename_i ho; exact absurd ho (hn1 _ _ _)
        · rename_i ho; exact absurd ho (hn2 _ _ _)
        · simp only [hev]; exact hk
      · cases h

theorem opsE_W (T : TabOk P tab ext) {run : VC → St → Option (Ex × St)} (hr : RunOk P run) : ∀ (l : List VI) {st st' : St} {K : St → Prop}, opsE (callE tab ext run false) (yldE run) l st = some st' → K st' → Ops P l st K
  | [], st, st', K, h, hk => by cases h; exact hk
  | i :: r, st, st', K, h, hk => by
    simp only [opsE] at h
    split at h
    · rename_i s hs
      exact stepE_W T hr (K := fun s => Ops P r s K) hs (opsE_W T hr r h hk)
    · cases h

theorem opsE_D (T : TabOk P tab ext) {run : VC → St → Option (Ex × St)} (hr : RunOk P run) : ∀ (l : List VI) {st st' : St} {K : St → Prop}, opsE (callE tab ext run true) noYld l st = some st' → K st' → OpsD P l st K
  | [], st, st', K, h, hk => by cases h; exact hk
  | i :: r, st, st', K, h, hk => by
    simp only [opsE] at h
    split at h
    · rename_i s hs
      exact stepE_D T hr (K := fun s => OpsD P r s K) hs (opsE_D T hr r h hk)
    · cases h

theorem exec_ok (T : TabOk P tab ext) : ∀ n, RunOk P (exec tab ext n)
  | 0 => fun c st e st' K h _ => by simp [exec] at h
  | n + 1 => by
    have ih := exec_ok T n
    intro c st e st' K h hk
    cases c with
    | skip => simp only [exec, Option.some.injEq, Prod.mk.injEq] at h; obtain ⟨rfl, rfl⟩ := h; exact hk
    | reg ops d =>
      cases d with
      | none =>
        simp only [exec] at h
        split at h
        · rename_i s hs
          cases h
          exact opsE_W T ih ops hs hk
        · cases h
      | some o =>
        simp only [exec] at h
        split at h
        · rename_i s hs
          cases h
          exact opsE_D T ih ops hs hk
        · cases h
    | seq a b =>
      simp only [exec] at h
      split at h
      · rename_i s hs
        simp only [Wp]
        exact ih a _ _ _ _ hs (ih b _ _ _ _ h hk)
      · rename_i hn
        simp only [Wp]
        refine ih a _ _ _ _ h ?_
        cases e with
        | nrm => exact absurd h (hn _)
        | ext id => exact hk
        | ret => exact hk
    | cond c a b =>
      simp only [exec] at h
      simp only [Wp]
      split at h
      · rename_i hc; rw [hc]; exact ⟨fun _ => ih _ _ _ _ _ h hk, nofun⟩
      · rename_i hc; rw [hc]; exact ⟨nofun, fun _ => ih _ _ _ _ _ h hk⟩
      · cases h
    | block id c =>
      simp only [exec] at h
      split at h
      · rename_i j s hs
        simp only [Wp]
        refine ih c _ _ _ _ hs ?_
        simp only
        split at h
        · rename_i e; rw [if_pos e]; cases h; exact hk
        · rename_i e; rw [if_neg e]; cases h; exact hk
      · rename_i hn
        simp only [Wp]
        refine ih c _ _ _ _ h ?_
        cases e with
        | nrm => exact hk
        | ext j => exact absurd h (hn _ _)
        | ret => exact hk
    | loop c =>
      simp only [exec] at h
      split at h
      · rename_i s hs
        obtain ⟨m, hm⟩ := ih _ _ _ _ _ h hk
        exact ⟨m + 1, ih _ _ _ _ _ hs hm⟩
      · rename_i hn
        refine ⟨1, ih _ _ _ _ _ h ?_⟩
        cases e with
        | nrm => exact absurd h (hn _)
        | ext id => exact hk
        | ret => exact hk
    | exit id => simp only [exec, Option.some.injEq, Prod.mk.injEq] at h; obtain ⟨rfl, rfl⟩ := h; exact hk
    | ret => simp only [exec, Option.some.injEq, Prod.mk.injEq] at h; obtain ⟨rfl, rfl⟩ := h; exact hk
    | scope c => simp [exec] at h
    | rfn nest nt f ps a b =>
      simp only [exec] at h
      simp only [Wp]
      split at h
      · cases h
      · rename_i g cap hf
        rw [hf]
        split at h
        · cases h
        · rename_i q ob2 hi
          refine (impE_ok T ih hi).mono ?_
          rintro v o2 ⟨rfl, rfl⟩
          unfold EndL
          split at h
          · rename_i ho
            rw [ho]
            split at h
            · rename_i hs
              cases h
              exact ⟨hs, hk⟩
            · cases h
          · cases h
    | drop s k c =>
      simp only [exec] at h
      simp only [Wp]
      split at h
      · rename_i hd; rw [hd]; exact ih _ _ _ _ _ h hk
      · cases h
    | own s f sz c =>
      simp only [exec] at h
      simp only [Wp]
      split at h
      · rename_i hd; rw [hd]; exact ih _ _ _ _ _ h hk
      · cases h

/-- what a run of a function on data answers -/
def runF (tab : Nat → Option VF) (ext : Nat → List VV → Option VV) (n f : Nat) (args : List VV) : Option VV := pureE tab (exec tab ext n) f args

theorem runF_ok (T : TabOk P tab ext) {n f : Nat} {args : List VV} {r : VV} (h : runF tab ext n f args = some r) : PureC P f args r := pureE_ok T (exec_ok T n) h

end
end Go.V
