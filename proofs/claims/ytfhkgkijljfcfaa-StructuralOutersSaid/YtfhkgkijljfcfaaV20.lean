/- V, part 20: regions that draw their order of evaluation: where operations that no edge orders do not meddle with one another, one order tells of all. -/
import Derived.Test.YtfhkgkijljfcfaaV19a
import Derived.OrdersIn
set_option linter.unusedVariables false
set_option linter.unusedSimpArgs false
namespace Go.V
open Go.RowKit

def VOp.isCall : VOp → Bool
  | .call .. | .callv .. => true
  | _ => false

def fnArgs (env : List (Nat × VV)) : VOp → Option (Nat × List VV × Option (Option Nat × Nat))
  | .call f args own => some (f, args.map (Opd.ev env), own)
  | .callv x args own => (fnOf (x.ev env)).map fun p => (p.1, args.map (Opd.ev env) ++ p.2, own)
  | _ => none

/-- what no load reads -/
def Obj.vol : Obj → Bool
  | .cells _ | .map _ => false
  | _ => true
def Keeps (ob ob2 : List Obj) : Prop := ∀ o, (nthO ob o).vol = false → nthO ob2 o = nthO ob o

theorem ImpC.mono {P : Program} {f : Nat} {args : List VV} {ob : List Obj} {R R' : VV → List Obj → Prop} (h : ImpC P f args ob R) (hr : ∀ r o, R r o → R' r o) : ImpC P f args ob R' :=
  ⟨h.1, fun B w0 g w vals hcm H hs hv => CallsIn.mono (h.2 B w0 g w vals hcm H hs hv) (by rintro e w' ⟨x, g', r, ob', q1, q2, q3⟩; exact ⟨x, g', r, ob', q1, hr _ _ q2, q3⟩)⟩

def ValD (P : Program) (i : VI) (env : List (Nat × VV)) (ob : List Obj) (v : VV) (ob' : List Obj) : Prop :=
  match wantedV env i.g with
  | none => False
  | some false => v = .tup [] ∧ ob' = ob
  | some true => if i.op.isCall = true then (∃ f args own r, fnArgs env i.op = some (f, args, own) ∧ (args.map VV.strip).all (fun v => v.ids 0 && v.noTup) = true ∧ PureC P f (args.map VV.strip) r ∧ takeR own ob r = some (v, ob')) ∨
      (∃ f args own b, fnArgs env i.op = some (f, args, own) ∧ markOf own = some b ∧ args.all VV.noTup = true ∧ ImpC P f (args.map VV.strip) ob (fun r o => r = v ∧ o = ob') ∧ (b = true → Keeps ob ob'))
    else i.op.ev ⟨env, ob⟩ = some (v, ob')

def CallD (P : Program) (f : Nat) (args : List VV) (own : Option (Option Nat × Nat)) (d : Option Nat) (st : St) (K : St → Prop) : Prop :=
  ((args.map VV.strip).all (fun v => v.ids 0 && v.noTup) = true ∧ ∃ r, PureC P f (args.map VV.strip) r ∧ match takeR own st.ob r with
    | some (v, ob') => K { st with env := putD st.env d v, ob := ob' }
    | none => False) ∨
  (∃ b, markOf own = some b ∧ args.all VV.noTup = true ∧ ∃ v ob1, ImpC P f (args.map VV.strip) st.ob (fun r o => r = v ∧ o = ob1) ∧ (b = true → Keeps st.ob ob1) ∧ K { st with env := putD st.env d v, ob := ob1 })

def OpD (P : Program) (i : VI) (st : St) (K : St → Prop) : Prop :=
  match wantedV st.env i.g with
  | none => False
  | some false => K { st with env := putD st.env i.dst (.tup []) }
  | some true => match i.op with
    | .call f args own => CallD P f (args.map (Opd.ev st.env)) own i.dst st K
    | .callv x args own => match fnOf (x.ev st.env) with
      | some (f, cap) => CallD P f (args.map (Opd.ev st.env) ++ cap) own i.dst st K
      | none => False
    | op => match op.ev st.toS0 with
      | some (v, ob') => K { st with env := putD st.env i.dst v, ob := ob' }
      | none => False

def OpsD (P : Program) : List VI → St → (St → Prop) → Prop
  | [], st, K => K st
  | i :: r, st, K => OpD P i st fun st' => OpsD P r st' K

section
variable {P : Program} {env env' : List (Nat × VV)} {ob ob' : List Obj} {i j : VI} {v u : VV}

theorem fillV_congr : ∀ (ps : List (Nat × Nat × Opd)) (cs : List VV), (∀ p ∈ ps, p.2.2.ev env = p.2.2.ev env') → fillV env cs ps = fillV env' cs ps
  | [], _, _ => rfl
  | (off, sz, x) :: r, cs, h => by
    have hx := h _ (by simp : (off, sz, x) ∈ (off, sz, x) :: r)
    simp only at hx
    simp only [fillV, hx]
    split
    · exact fillV_congr r _ fun p hp => h p (by simp [hp])
    · rfl

theorem fillE_congr {sz : Nat} : ∀ (ps : List (Nat × Opd)) (cs : List VV), (∀ p ∈ ps, p.2.ev env = p.2.ev env') → fillE env sz cs ps = fillE env' sz cs ps
  | [], _, _ => rfl
  | (off, x) :: r, cs, h => by
    have hx := h _ (by simp : (off, x) ∈ (off, x) :: r)
    simp only at hx
    simp only [fillE, hx]
    split
    · exact fillE_congr r _ fun p hp => h p (by simp [hp])
    · rfl

theorem bo_congr {y d : Nat} {x : Option Opd} (h : ∀ p ∈ x.toList, p.ev env = p.ev env') : bo env y d x = bo env' y d x := by
  cases x with
  | none => rfl
  | some x => simp only [bo, bound, h x (by simp)]

theorem map_congr {l : List Opd} (h : ∀ x ∈ l, x.ev env = x.ev env') : l.map (Opd.ev env) = l.map (Opd.ev env') := List.map_congr_left h

theorem ev_congr {op : VOp} (h : ∀ x ∈ op.opds, x.ev env = x.ev env') : op.ev ⟨env, ob⟩ = op.ev ⟨env', ob⟩ := by
  cases op with
  | build z ps =>
    have := fillV_congr (env := env) (env' := env') ps z (fun p hp => h _ (List.mem_map.2 ⟨p, hp, rfl⟩))
    simp only [VOp.ev, this]
  | bsl own sz z ln ps =>
    have := fillE_congr (env := env) (env' := env') (sz := sz) ps (List.replicate ln z) (fun p hp => h _ (List.mem_map.2 ⟨p, hp, rfl⟩))
    simp only [VOp.ev, this]
  | mkfn f cap =>
    have : (cap.map fun x => (x.ev env).strip) = cap.map fun x => (x.ev env').strip := List.map_congr_left fun x hx => by rw [h x hx]
    simp only [VOp.ev, this]
  | slc sz x lo hi mx =>
    simp only [VOp.opds, List.mem_cons, List.mem_append] at h
    have h1 := h x (.inl rfl)
    have h2 : ∀ y d, bo env y d lo = bo env' y d lo := fun _ _ => bo_congr fun p hp => h p (.inr (.inl (.inl hp)))
    have h3 : ∀ y d, bo env y d hi = bo env' y d hi := fun _ _ => bo_congr fun p hp => h p (.inr (.inl (.inr hp)))
    have h4 : ∀ y d, bo env y d mx = bo env' y d mx := fun _ _ => bo_congr fun p hp => h p (.inr (.inr hp))
    cases sz <;> simp only [VOp.ev, h1, h2, h3, h4]
  | len k x =>
    have h1 := h x (by simp [VOp.opds])
    match k with
    | 0 => simp only [VOp.ev, h1]
    | 1 => simp only [VOp.ev, h1]
    | k + 2 => simp only [VOp.ev, h1]
  | call f args own => rfl
  | callv f args own => rfl
  | _ => simp only [VOp.opds, List.mem_cons, List.not_mem_nil, or_false, forall_eq_or_imp, forall_eq] at h; simp only [VOp.ev, h]

theorem opd_congr {x : Opd} (h : ∀ s ∈ x.rd, get env s = get env' s) : x.ev env = x.ev env' := by
  cases x with
  | t s => exact h s (by simp [Opd.rd])
  | _ => rfl

theorem val_congr (h : ∀ s ∈ i.rd, get env s = get env' s) : ValD P i env ob v ob' ↔ ValD P i env' ob v ob' := by
  have hg : wantedV env i.g = wantedV env' i.g := by
    unfold wantedV
    split
    · rfl
    · rename_i s b e
      rw [h s (by simp [VI.rd, e])]
  have ho : ∀ x ∈ i.op.opds, x.ev env = x.ev env' := fun x hx => opd_congr fun s hs => h s (by simp only [VI.rd, List.mem_append, List.mem_flatMap]; exact .inr ⟨x, hx, hs⟩)
  have hf : fnArgs env i.op = fnArgs env' i.op := by
    revert ho
    generalize i.op = op
    intro ho
    cases op with
    | call f args own =>
      have e := map_congr (env := env) (env' := env') (l := args) ho
      simp only [fnArgs, e]
    | callv x args own =>
      have e := map_congr (env := env) (env' := env') (l := args) fun y hy => ho y (by simp [VOp.opds, hy])
      simp only [fnArgs, e, ho x (by simp [VOp.opds])]
    | _ => rfl
  unfold ValD
  rw [hg, hf, ev_congr ho]

theorem deref_keeps {a : VV} {r : List VV × Nat} (hk : Keeps ob ob') (h : deref ob a = some r) : deref ob' a = some r := by
  cases a with
  | ptr o off =>
    simp only [deref] at h ⊢
    split at h
    · rename_i cs ho
      rw [hk o (by rw [ho]; rfl), ho]; exact h
    · cases h
  | pim cs off => exact h
  | _ => exact h

theorem op01 {op : VOp} (hc : op.cls ≤ 1) (h : op.ev ⟨env, ob⟩ = some (v, ob')) : ob' = ob ∧ ∀ ob2, (op.cls = 0 ∨ Keeps ob ob2) → op.ev ⟨env, ob2⟩ = some (v, ob2) := by
  cases op with
  | load n a =>
    simp only [VOp.ev] at h
    split at h
    · rename_i cs off hd
      cases hl : loadV n cs off with
      | none => rw [hl] at h; simp at h
      | some z =>
        rw [hl] at h
        simp only [Option.map_some, Option.some.injEq, Prod.mk.injEq] at h
        obtain ⟨rfl, rfl⟩ := h
        refine ⟨rfl, fun ob2 hk => ?_⟩
        rcases hk with hk | hk
        · simp [VOp.cls] at hk
        · simp only [VOp.ev, deref_keeps hk hd, hl, Option.map_some]
    · cases h
  | lkp ty z ok m k =>
    simp only [VOp.ev] at h
    split at h
    · cases h
    · rename_i hty
      split at h
      · cases h
      · rename_i r hr
        simp only [Option.some.injEq, Prod.mk.injEq] at h
        obtain ⟨rfl, rfl⟩ := h
        refine ⟨rfl, fun ob2 hk => ?_⟩
        rcases hk with hk | hk
        · simp [VOp.cls] at hk
        · simp only [VOp.ev, hty, if_false]
          split at hr
          · rename_i hm
            cases hr; simp only [hm]; rfl
          · rename_i o hm
            split at hr
            · rename_i es ho
              simp only [hm, hk o (by rw [ho]; rfl), ho, hr]
              rfl
            · cases hr
          · cases hr
  | len k x =>
    match k with
    | 0 =>
      simp only [VOp.ev] at h ⊢
      split at h
      · simp only [Option.some.injEq, Prod.mk.injEq] at h; obtain ⟨rfl, rfl⟩ := h; simp_all
      · cases h
    | 1 =>
      simp only [VOp.ev] at h ⊢
      split at h
      · simp only [Option.some.injEq, Prod.mk.injEq] at h; obtain ⟨rfl, rfl⟩ := h; simp_all
      · simp only [Option.some.injEq, Prod.mk.injEq] at h; obtain ⟨rfl, rfl⟩ := h; simp_all
      · simp only [Option.some.injEq, Prod.mk.injEq] at h; obtain ⟨rfl, rfl⟩ := h; simp_all
      · cases h
    | k + 2 =>
      simp only [VOp.ev] at h ⊢
      split at h
      · simp only [Option.some.injEq, Prod.mk.injEq] at h; obtain ⟨rfl, rfl⟩ := h; simp_all
      · rename_i o hm
        split at h
        · rename_i es ho
          simp only [Option.some.injEq, Prod.mk.injEq] at h; obtain ⟨rfl, rfl⟩ := h
          refine ⟨rfl, fun ob2 hk => ?_⟩
          rcases hk with hk | hk
          · simp [VOp.cls] at hk
          · simp only [hm, hk o (by rw [ho]; rfl), ho]
        · cases h
      · cases h
  | alloc z => simp [VOp.cls] at hc
  | box z => simp [VOp.cls] at hc
  | mkmap => simp [VOp.cls] at hc
  | app => simp [VOp.cls] at hc
  | store => simp [VOp.cls] at hc
  | mset => simp [VOp.cls] at hc
  | mdel => simp [VOp.cls] at hc
  | call => simp [VOp.ev] at h
  | callv => simp [VOp.ev] at h
  | bsl own sz z ln ps =>
    cases own with
    | true => simp [VOp.cls] at hc
    | false =>
      simp only [VOp.ev] at h ⊢
      split at h
      · cases h
      · simp only [Bool.false_eq_true, if_false, Option.some.injEq, Prod.mk.injEq] at h
        obtain ⟨rfl, rfl⟩ := h
        refine ⟨rfl, fun ob2 _ => ?_⟩
        simp_all
  | slc sz x lo hi mx =>
    cases sz with
    | zero =>
      simp only [VOp.ev] at h
      split at h
      · rename_i s hs
        split at h
        · cases h
        · rename_i hmx
          cases h1 : bo env s.length s.length hi with
          | none => rw [h1] at h; cases h
          | some y =>
            rw [h1] at h; simp only [Option.bind_some] at h
            cases h2 : bo env y 0 lo with
            | none => rw [h2] at h; cases h
            | some z =>
              rw [h2] at h; simp only [Option.bind_some, Option.some.injEq, Prod.mk.injEq] at h
              obtain ⟨rfl, rfl⟩ := h
              exact ⟨rfl, fun _ _ => by simp only [VOp.ev, hs, hmx, h1, h2, Option.bind_some]; rfl⟩
      · cases h
    | succ sz =>
      simp only [VOp.ev] at h
      split at h
      · rename_i es t hs
        split at h
        · cases h
        · rename_i hmx
          cases h0 : bo env es.length es.length mx with
          | none => rw [h0] at h; cases h
          | some m =>
            rw [h0] at h; simp only [Option.bind_some] at h
            cases h1 : bo env m es.length hi with
            | none => rw [h1] at h; cases h
            | some y =>
              rw [h1] at h; simp only [Option.bind_some] at h
              cases h2 : bo env y 0 lo with
              | none => rw [h2] at h; cases h
              | some z =>
                rw [h2] at h; simp only [Option.bind_some, Option.some.injEq, Prod.mk.injEq] at h
                obtain ⟨rfl, rfl⟩ := h
                exact ⟨rfl, fun _ _ => by simp only [VOp.ev, hs, hmx, if_false, h0, h1, h2, Option.bind_some]⟩
      · rename_i hs
        split at h
        · cases h
        · rename_i hmx
          cases h0 : bo env 0 0 mx with
          | none => rw [h0] at h; cases h
          | some m =>
            rw [h0] at h; simp only [Option.bind_some] at h
            cases h1 : bo env m 0 hi with
            | none => rw [h1] at h; cases h
            | some y =>
              rw [h1] at h; simp only [Option.bind_some] at h
              cases h2 : bo env y 0 lo with
              | none => rw [h2] at h; cases h
              | some z =>
                rw [h2] at h; simp only [Option.bind_some, Option.some.injEq, Prod.mk.injEq] at h
                obtain ⟨rfl, rfl⟩ := h
                exact ⟨rfl, fun _ _ => by simp only [VOp.ev, hs, hmx, if_false, h0, h1, h2, Option.bind_some]⟩
      · cases h
  | build z ps =>
    simp only [VOp.ev] at h ⊢
    cases h0 : fillV env z ps with
    | none => rw [h0] at h; cases h
    | some y => rw [h0] at h; simp only [Option.map_some, Option.some.injEq, Prod.mk.injEq] at h ⊢; obtain ⟨rfl, rfl⟩ := h; simp
  | bin op ty x y =>
    simp only [VOp.ev] at h ⊢
    split at h
    · rename_i hf
      simp only [hf, if_true]
      cases h0 : binV op (x.ev env) (y.ev env) with
      | none => rw [h0] at h; cases h
      | some y => rw [h0] at h; simp only [Option.map_some, Option.some.injEq, Prod.mk.injEq] at h ⊢; obtain ⟨rfl, rfl⟩ := h; simp
    · cases h
  | fld off n x =>
    simp only [VOp.ev] at h
    split at h
    · rename_i cs hc
      cases h0 : loadV n cs off with
      | none => rw [h0] at h; cases h
      | some y => rw [h0] at h; simp only [Option.map_some, Option.some.injEq, Prod.mk.injEq] at h; obtain ⟨rfl, rfl⟩ := h; exact ⟨rfl, fun _ _ => by simp only [VOp.ev, hc, h0, Option.map_some]⟩
    · cases h
  | mm isMax x y =>
    simp only [VOp.ev] at h
    split at h
    · rename_i h1 h2
      split at h
      · rename_i hk
        simp only [Option.some.injEq, Prod.mk.injEq] at h
        obtain ⟨rfl, rfl⟩ := h
        exact ⟨rfl, fun _ _ => by simp only [VOp.ev, h1, h2, hk, if_true]⟩
      · cases h
    · cases h
  | _ =>
    simp only [VOp.ev] at h ⊢
    (repeat' split at h) <;> first | (cases h; done) | (simp only [Option.some.injEq, Prod.mk.injEq] at h; obtain ⟨rfl, rfl⟩ := h; simp_all)

theorem keeps_push (X : Obj) : Keeps ob (ob ++ [X]) := fun o hg => nthO_app (nthO_ne_gone (fun q => by rw [q] at hg; cases hg))
theorem keeps_tok {t n s : Nat} (X : Obj) (h : nthO ob t = .tok n s) : Keeps ob (ob.set t X) := fun o h1 => by
  rw [nthO_set, if_neg]
  rintro ⟨rfl, _⟩
  rw [h] at h1; cases h1

theorem op2 {op : VOp} (hc : op.cls ≤ 2) (h : op.ev ⟨env, ob⟩ = some (v, ob')) : Keeps ob ob' := by
  have low : op.cls ≤ 1 → Keeps ob ob' := fun hc => by obtain ⟨rfl, _⟩ := op01 hc h; exact fun _ _ => rfl
  cases op with
  | alloc z => simp only [VOp.ev, Option.some.injEq, Prod.mk.injEq] at h; obtain ⟨_, rfl⟩ := h; exact keeps_push _
  | box x =>
    simp only [VOp.ev] at h
    split at h <;> first | (cases h; done) | (simp only [Option.some.injEq, Prod.mk.injEq] at h; obtain ⟨_, rfl⟩ := h; exact keeps_push _)
  | mkmap => simp only [VOp.ev, Option.some.injEq, Prod.mk.injEq] at h; obtain ⟨_, rfl⟩ := h; exact keeps_push _
  | bsl own sz z ln ps =>
    cases own with
    | false => exact low (by simp [VOp.cls])
    | true =>
      simp only [VOp.ev] at h
      split at h
      · cases h
      · simp only [if_true, Option.some.injEq, Prod.mk.injEq] at h; obtain ⟨_, rfl⟩ := h; exact keeps_push _
  | app sz b x y =>
    simp only [VOp.ev] at h
    split at h
    · cases h
    · split at h
      · cases h
      · split at h
        · split at h
          · rename_i ht
            split at h
            · simp only [Option.some.injEq, Prod.mk.injEq] at h; obtain ⟨_, rfl⟩ := h; exact keeps_tok _ ht
            · cases h
          · cases h
        · split at h
          · simp only [Option.some.injEq, Prod.mk.injEq] at h; obtain ⟨_, rfl⟩ := h; exact keeps_push _
          · cases h
        · cases h
  | store => simp [VOp.cls] at hc
  | mset => simp [VOp.cls] at hc
  | mdel => simp [VOp.cls] at hc
  | call => simp [VOp.ev] at h
  | callv => simp [VOp.ev] at h
  | len k x => exact low (by match k with | 0 => simp [VOp.cls] | 1 => simp [VOp.cls] | k + 2 => simp [VOp.cls])
  | _ => exact low (by simp [VOp.cls])

theorem isCall_own {op : VOp} {f : Nat} {args : List VV} {own : Option (Option Nat × Nat)} (h : fnArgs env op = some (f, args, own)) : op.cls = clsO own := by
  cases op with
  | call f args own => simp only [fnArgs, Option.some.injEq, Prod.mk.injEq] at h; obtain ⟨_, _, rfl⟩ := h; rfl
  | callv x args own =>
    simp only [fnArgs, Option.map_eq_some_iff] at h
    obtain ⟨p, _, h⟩ := h
    simp only [Prod.mk.injEq] at h
    obtain ⟨_, _, rfl⟩ := h; rfl
  | _ => simp [fnArgs] at h

theorem val01 (hc : i.op.cls ≤ 1) (h : ValD P i env ob v ob') : ob' = ob ∧ ∀ ob2, (i.op.cls = 0 ∨ Keeps ob ob2) → ValD P i env ob2 v ob2 := by
  unfold ValD at h ⊢
  split at h
  · exact h.elim
  · obtain ⟨rfl, rfl⟩ := h; exact ⟨rfl, fun _ _ => ⟨rfl, rfl⟩⟩
  · split at h
    · rename_i hcall
      rcases h with ⟨f, args, own, r, h1, h2, h3, h4⟩ | ⟨f, args, own, b, h1, hb, h2, h3, h4⟩
      · have := isCall_own h1
        cases own with
        | some q => rw [this] at hc; unfold clsO at hc; split at hc <;> simp_all
        | none =>
          simp only [takeR, Option.some.injEq, Prod.mk.injEq] at h4
          obtain ⟨rfl, rfl⟩ := h4
          refine ⟨rfl, fun ob2 _ => ?_⟩
          rw [if_pos hcall]
          exact .inl ⟨f, args, none, r, h1, h2, h3, rfl⟩
      · have := isCall_own h1
        rw [this] at hc; unfold clsO at hc; split at hc <;> simp_all [markOf]
    · rename_i hcall
      obtain ⟨rfl, hk⟩ := op01 hc h
      refine ⟨rfl, fun ob2 q => ?_⟩
      rw [if_neg hcall]
      exact hk ob2 q

theorem val2 (hc : i.op.cls ≤ 2) (h : ValD P i env ob v ob') : Keeps ob ob' := by
  unfold ValD at h
  split at h
  · exact h.elim
  · obtain ⟨rfl, rfl⟩ := h; exact fun _ _ => rfl
  · split at h
    · rcases h with ⟨f, args, own, r, h1, h2, h3, h4⟩ | ⟨f, args, own, b, h1, hb, h2, h3, h4⟩
      · unfold takeR at h4
        split at h4
        · simp only [Option.some.injEq, Prod.mk.injEq] at h4
          obtain ⟨_, rfl⟩ := h4; exact fun _ _ => rfl
        · split at h4
          · split at h4
            · simp only [Option.some.injEq, Prod.mk.injEq] at h4
              obtain ⟨_, rfl⟩ := h4; exact keeps_push _
            · cases h4
          · cases h4
      · refine h4 ?_
        have := isCall_own h1
        rw [this] at hc
        unfold markOf at hb
        split at hb
        · cases hb; rfl
        · simp [clsO] at hc
        · cases hb
    · exact op2 hc h

theorem put_comm (env : List (Nat × VV)) {d e : Nat} (h : d ≠ e) (v u : VV) : put (put env d v) e u = put (put env e u) d v := by
  induction env with
  | nil =>
    simp only [put]
    by_cases h1 : e < d
    · have : ¬ d < e := by omega
      simp [h, h.symm, h1, this]
    · have : d < e := by omega
      simp [h, h.symm, h1, this]
  | cons p r ih =>
    obtain ⟨k, w⟩ := p
    by_cases h1 : d = k
    · subst h1
      have h2 : ¬ e = d := fun q => h q.symm
      by_cases h3 : e < d
      · have : ¬ d < e := by omega
        simp [put, h, h2, h3, this]
      · simp [put, h, h2, h3]
    · by_cases h2 : e = k
      · subst h2
        by_cases h3 : d < e
        · have : ¬ e < d := by omega
          simp [put, h, h1, h3, this, h.symm]
        · simp [put, h, h1, h3]
      · by_cases h3 : d < k
        · by_cases h4 : e < k
          · by_cases h5 : e < d
            · have : ¬ d < e := by omega
              simp [put, h, h.symm, h1, h2, h3, h4, h5, this]
            · have : d < e := by omega
              simp [put, h, h.symm, h1, h2, h3, h4, h5, this]
          · have : ¬ e < d := by omega
            simp [put, h, h.symm, h1, h2, h3, h4, this]
        · by_cases h4 : e < k
          · have : ¬ d < e := by omega
            simp [put, h, h.symm, h1, h2, h3, h4, this]
          · simp [put, h, h.symm, h1, h2, h3, h4, ih]

theorem swap (hc : comm i j = true) {ob1 ob2 : List Obj} (h1 : ValD P i env ob v ob1) (h2 : ValD P j (putD env i.dst v) ob1 u ob2) :
    ∃ ob1', ValD P j env ob u ob1' ∧ ValD P i (putD env j.dst u) ob1' v ob2 ∧ putD (putD env i.dst v) j.dst u = putD (putD env j.dst u) i.dst v := by
  simp only [comm, Bool.and_eq_true, Bool.or_eq_true, beq_iff_eq, decide_eq_true_eq] at hc
  obtain ⟨⟨ha, hb⟩, hcl⟩ := hc
  have e1 : ∀ s ∈ j.rd, get (putD env i.dst v) s = get env s := fun s hs => by
    cases hd : i.dst with
    | none => rfl
    | some d =>
      rw [hd] at ha
      simp only [Bool.and_eq_true, Bool.not_eq_true'] at ha
      show get (put env d v) s = _
      rw [get_put, if_neg]
      rintro rfl
      have := ha.1
      simp [hs] at this
  have e2 : ∀ s ∈ i.rd, get (putD env j.dst u) s = get env s := fun s hs => by
    cases hd : j.dst with
    | none => rfl
    | some d =>
      rw [hd] at hb
      simp only [Bool.not_eq_true'] at hb
      show get (put env d u) s = _
      rw [get_put, if_neg]
      rintro rfl
      simp [hs] at hb
  have e3 : putD (putD env i.dst v) j.dst u = putD (putD env j.dst u) i.dst v := by
    cases hd : i.dst with
    | none => rfl
    | some d =>
      cases he : j.dst with
      | none => rfl
      | some e =>
        rw [hd, he] at ha
        simp only [Bool.and_eq_true, Bool.not_eq_true', beq_eq_false_iff_ne, ne_eq, Option.some.injEq] at ha
        exact put_comm env (fun q => ha.2 q.symm) v u
  rw [val_congr e1] at h2
  rcases hcl with (q | q) | ⟨q, q'⟩
  · obtain ⟨rfl, hk⟩ := val01 (by omega) h1
    exact ⟨ob2, h2, (val_congr e2).2 (hk ob2 (.inl q)), e3⟩
  · obtain ⟨rfl, hk⟩ := val01 (by omega) h2
    exact ⟨ob, hk ob (.inl q), (val_congr e2).2 h1, e3⟩
  · obtain ⟨rfl, hk⟩ := val01 (by omega) h1
    exact ⟨ob2, h2, (val_congr e2).2 (hk ob2 (.inr (val2 q' h2))), e3⟩

/-! ### Chains -/
def Chain (P : Program) : List (Nat × VI) → St → St → Prop
  | [], st, st' => st = st'
  | x :: r, st, st' => ∃ v ob1, ValD P x.2 st.env st.ob v ob1 ∧ Chain P r { st with env := putD st.env x.2.dst v, ob := ob1 } st'

theorem chain_front {x : Nat × VI} : ∀ {A C : List (Nat × VI)} {st st' : St}, (∀ y ∈ A, comm y.2 x.2 = true) → Chain P (A ++ x :: C) st st' → Chain P (x :: (A ++ C)) st st'
  | [], _, _, _, _, h => h
  | y :: A, C, st, st', hc, h => by
    obtain ⟨v, ob1, hv, h⟩ := h
    obtain ⟨u, ob2, hu, h⟩ := chain_front (A := A) (C := C) (fun z hz => hc z (by simp [hz])) h
    obtain ⟨ob1', k1, k2, k3⟩ := swap (hc y (by simp)) hv hu
    refine ⟨u, ob1', k1, v, ob2, k2, ?_⟩
    simp only [k3] at h
    exact h

theorem opD_val {st : St} {K : St → Prop} (h : OpD P i st K) : ∃ v ob1, ValD P i st.env st.ob v ob1 ∧ K { st with env := putD st.env i.dst v, ob := ob1 } := by
  unfold OpD at h
  split at h
  · exact h.elim
  · rename_i hw
    exact ⟨.tup [], st.ob, by unfold ValD; rw [hw]; exact ⟨rfl, rfl⟩, h⟩
  · rename_i hw
    have call : ∀ f args own, i.op.isCall = true → fnArgs st.env i.op = some (f, args, own) → CallD P f args own i.dst st K → ∃ v ob1, ValD P i st.env st.ob v ob1 ∧ K { st with env := putD st.env i.dst v, ob := ob1 } := by
      intro f args own hc hf h
      rcases h with ⟨h1, r, h2, h3⟩ | ⟨b, hb, h1, v, ob1, h2, h3, h4⟩
      · split at h3
        · rename_i v ob' ht
          exact ⟨v, ob', by unfold ValD; rw [hw]; simp only [hc, if_true]; exact .inl ⟨f, args, own, r, hf, h1, h2, ht⟩, h3⟩
        · exact h3.elim
      · exact ⟨v, ob1, by unfold ValD; rw [hw]; simp only [hc, if_true]; exact .inr ⟨f, args, own, b, hf, hb, h1, h2, h3⟩, h4⟩
    split at h
    · rename_i f args own ho
      exact call _ _ _ (by rw [ho]; rfl) (by rw [ho]; rfl) h
    · rename_i x args own ho
      split at h
      · rename_i f cap hf
        exact call _ _ _ (by rw [ho]; rfl) (by rw [ho]; simp only [fnArgs, hf, Option.map_some]) h
      · exact h.elim
    · rename_i op hn1 hn2
      split at h
      · rename_i v ob' hev
        refine ⟨v, ob', ?_, h⟩
        unfold ValD; rw [hw]
        have hc : ¬ i.op.isCall = true := by
          intro q
          unfold VOp.isCall at q
          split at q
          · exact hn1 _ _ _ (by assumption)
          · exact hn2 _ _ _ (by assumption)
          · cases q
        simp only [hc, if_false]
        exact hev
      · exact h.elim

theorem val_opW {st : St} {K : St → Prop} {ob1 : List Obj} (h : ValD P i st.env st.ob v ob1) (hk : K { st with env := putD st.env i.dst v, ob := ob1 }) : OpW P i st K := by
  unfold ValD at h
  unfold OpW
  split at h
  · exact h.elim
  · rename_i hw
    rw [hw]; obtain ⟨rfl, rfl⟩ := h; exact hk
  · rename_i hw
    rw [hw]
    simp only
    split at h
    · rename_i hc
      have key : ∃ f args own, fnArgs st.env i.op = some (f, args, own) ∧ CallW P f args own i.dst st K := by
        rcases h with ⟨f, args, own, r, h1, h2, h3, h4⟩ | ⟨f, args, own, b, h1, hb, h2, h3, h4⟩
        · exact ⟨f, args, own, h1, .inl ⟨h2, r, h3, by rw [h4]; exact hk⟩⟩
        · exact ⟨f, args, _, h1, .inr ⟨.inr (by rw [hb]; rfl), h2, h3.mono (by rintro r o ⟨rfl, rfl⟩; exact hk)⟩⟩
      obtain ⟨f, args, own, h1, hcall⟩ := key
      split
      · rename_i f' args' own' ho
        rw [ho] at h1
        simp only [fnArgs, Option.some.injEq, Prod.mk.injEq] at h1
        obtain ⟨rfl, rfl, rfl⟩ := h1
        exact hcall
      · rename_i x args' own' ho
        rw [ho] at h1
        simp only [fnArgs, Option.map_eq_some_iff] at h1
        obtain ⟨p, hp, h1⟩ := h1
        simp only [Prod.mk.injEq] at h1
        obtain ⟨rfl, rfl, rfl⟩ := h1
        obtain ⟨f, cap⟩ := p
        rw [hp]
        exact hcall
      · rename_i hn1 hn2
        exfalso
        unfold VOp.isCall at hc
        split at hc
        · exact hn1 _ _ _ (by assumption)
        · exact hn2 _ _ _ (by assumption)
        · cases hc
    · rename_i hc
      split
      · rename_i ho; rw [ho] at hc; exact absurd rfl hc
      · rename_i ho; rw [ho] at hc; exact absurd rfl hc
      · simp only [h]; exact hk

theorem opsD_chain : ∀ {ps : List (Nat × VI)} {st : St} {K : St → Prop}, OpsD P (ps.map (·.2)) st K → ∃ st', Chain P ps st st' ∧ K st'
  | [], st, K, h => ⟨st, rfl, h⟩
  | x :: r, st, K, h => by
    obtain ⟨v, ob1, hv, h⟩ := opD_val h
    obtain ⟨st', hc, hk⟩ := opsD_chain h
    exact ⟨st', ⟨v, ob1, hv, hc⟩, hk⟩

end
end Go.V
