/- V, part 6: more operations that only compute. -/
import Derived.Test.YtfhkgkijljfcfaaV5
set_option linter.unusedVariables false
set_option linter.unusedSimpArgs false
namespace Go.V
open Go.RowKit

theorem strLess_eq : ∀ a b : List UInt8, strLess a b = Op.bytesLess a b
  | [], [] => rfl
  | [], _ :: _ => rfl
  | _ :: _, [] => rfl
  | a :: x, b :: y => by simp [strLess, Op.bytesLess, strLess_eq x y]

section
variable {P : Program} {B : Nat} {w0 : W0} {ob : List Obj} {g : Gh} {w : World} {env : List (Nat × VV)} {ρ : Operand → Value}

theorem op_mov (H : HInv B w0 ob g w) (R : Reads B ob g w env ρ) {x : Opd} {x' : Operand} (hx : mO x x' = true) : Out P B w0 ob g w (pure (.value (ρ x'))) (x.ev env) ob :=
  Out.quiet H (by simp) (R.opd hx)

theorem op_pick (H : HInv B w0 ob g w) (R : Reads B ob g w env ρ) {c a b : Opd} {c' a' b' : Operand} (hc : mO c c' = true) (ha : mO a a' = true) (hb : mO b b' = true) {t : Bool} (he : c.ev env = .bool t) :
    Out P B w0 ob g w (do pure (.value (if ← asBool (ρ c') then ρ a' else ρ b'))) (if t then a.ev env else b.ev env) ob := by
  have h1 := R.opd hc
  rw [he] at h1
  refine Out.quiet H (x := if t then ρ a' else ρ b') (by simp [h1.bool_inv, asBool]) ?_
  cases t
  · exact R.opd hb
  · exact R.opd ha

theorem op_nilck (H : HInv B w0 ob g w) (R : Reads B ob g w env ρ) {x : Opd} {x' : Operand} (hx : mO x x' = true) {v : VV} (hv : (VOp.nilck x).ev ⟨env, ob⟩ = some (v, ob)) (o : Oper) (ho : o.op = .nilCheck x') :
    Out P B w0 ob g w (execOp ρ o) v ob := by
  have h1 := R.opd hx
  simp only [VOp.ev] at hv
  unfold execOp
  simp only [ho]
  revert h1 hv
  generalize x.ev env = u
  generalize ρ x' = y
  intro hv h1
  have hr := h1.rep
  cases u <;> simp only [Option.some.injEq, Prod.mk.injEq, and_true, reduceCtorEq] at hv <;> subst hv <;> cases hr
  all_goals exact Out.quiet H (by simp) h1

def kdTy (P : Program) (k : Kd) (t : TypeId) : Bool := match k, P.underlying t with
  | .i, some (.int _) => true
  | .b, some .bool => true
  | .s, some .string => true
  | _, _ => false
/-- a struct whose fields are numbers, bools and strings, in its cells' order -/
def stTy (P : Program) : List Kd → List Field → Nat → Bool
  | [], [], _ => true
  | k :: l, f :: r, n => f.name != "_" && f.offset == n && kdTy P k f.type && stTy P l r (n + 1)
  | _, _, _ => false
def tyIs (P : Program) (t : TypeId) : Ty → Bool
  | .sc k => kdTy P k t
  | .st l => match P.underlying t with | some (.struct fs) => stTy P l fs.toList 0 && !P.stoodInHeld t && !P.eqGuardType P.depth t | _ => false

theorem run_eq0 {t : TypeId} {u v : VV} {x y : Value} {r : Bool} {k : Kd} (hk : kdTy P k t = true) (hf : k.fits u = true) (hx : GV B ob g w u x) (hy : GV B ob g w v y) (h : eq0 u v = some r) (d : Nat) :
    (Op.equalIn (d + 1) t x y).run P w = .ok r w := by
  unfold kdTy at hk
  cases hu : P.underlying t with
  | none => cases k <;> simp [hu] at hk
  | some dd =>
    unfold eq0 at h
    split at h
    · split at h
      · rename_i ka a kb b hkk
        subst hkk; cases h
        cases k <;> simp [Kd.fits] at hf
        cases dd <;> simp [hu] at hk
        rw [hx.int_inv, hy.int_inv]
        exact run_equalIn_int w d t _ _ _ _ hu
      · cases h
    · cases h
      cases k <;> simp [Kd.fits] at hf
      cases dd <;> simp [hu] at hk
      rw [hx.bool_inv, hy.bool_inv]
      exact run_equalIn_bool w d t _ _ hu
    · cases h
      cases k <;> simp [Kd.fits] at hf
      cases dd <;> simp [hu] at hk
      obtain ⟨a, rfl, rfl⟩ := hx.str_inv
      obtain ⟨b, rfl, rfl⟩ := hy.str_inv
      rw [run_equalIn_string w d t _ _ hu, ByteArray.toList_eq, ByteArray.toList_eq]
    · cases h

theorem run_eqL : ∀ (l : List Kd) (fs : List Field) (us vs : List VV) (xs ys : Array Value) (n d : Nat) (r : Bool), stTy P l fs n = true → fitsL l us = true →
    (∀ j (h : j < us.length), ∃ x, xs[n + j]? = some x ∧ GV B ob g w us[j] x) → (∀ j (h : j < vs.length), ∃ x, ys[n + j]? = some x ∧ GV B ob g w vs[j] x) → eqL us vs = some r →
    (Op.eqFields (d + 1) xs ys fs).run P w = .ok r w
  | [], [], [], vs, xs, ys, n, d, r, _, _, _, _, h => by
    cases vs with
    | nil => simp [eqL] at h; subst h; simp [Op.eqFields]
    | cons => simp [eqL] at h
  | [], _ :: _, _, _, _, _, _, _, _, hf, _, _, _, _ => by simp [stTy] at hf
  | _ :: _, [], _, _, _, _, _, _, _, hf, _, _, _, _ => by simp [stTy] at hf
  | [], [], _ :: _, _, _, _, _, _, _, _, hf, _, _, _ => by simp [fitsL] at hf
  | _ :: _, _ :: _, [], _, _, _, _, _, _, _, hf, _, _, _ => by simp [fitsL] at hf
  | k :: l, f :: fs, u :: us, vs, xs, ys, n, d, r, he, hf, hx, hy, h => by
    cases vs with
    | nil => simp [eqL] at h
    | cons v vs =>
      simp only [stTy, Bool.and_eq_true, bne_iff_ne, ne_eq, beq_iff_eq] at he
      obtain ⟨⟨⟨h1, h2⟩, h3⟩, h4⟩ := he
      simp only [fitsL, Bool.and_eq_true] at hf
      obtain ⟨x, hx0, hxg⟩ := hx 0 (by simp)
      obtain ⟨y, hy0, hyg⟩ := hy 0 (by simp)
      simp only [Nat.add_zero] at hx0 hy0
      simp only [List.getElem_cons_zero] at hxg hyg
      have hp : ∀ (zs : Array Value) (z : Value), zs[n]? = some z → (part f.type zs f.offset).run P w = .ok z w := fun zs z hz => by
        unfold kdTy at h3
        cases hu : P.underlying f.type with
        | none => cases k <;> simp [hu] at h3
        | some dd => cases k <;> cases dd <;> simp [hu] at h3 <;> simp [part, isAgg, run_underlying hu, h2, hz]
      have hrest : ∀ r', eqL us vs = some r' → (Op.eqFields (d + 1) xs ys fs).run P w = .ok r' w := fun r' hr' =>
        run_eqL l fs us vs xs ys (n + 1) d r' h4 hf.2 (fun j hj => by have := hx (j + 1) (by simpa using hj); rwa [show n + (j + 1) = n + 1 + j by omega] at this)
          (fun j hj => by have := hy (j + 1) (by simpa using hj); rwa [show n + (j + 1) = n + 1 + j by omega] at this) hr'
      simp only [eqL] at h
      cases e0 : eq0 u v with
      | none => simp [e0] at h
      | some q =>
        have hq := run_eq0 h3 hf.1 hxg hyg e0 d
        simp only [Op.eqFields, ne_eq, h1, not_false_eq_true, if_true, Sem.run_bind, hp _ _ hx0, hp _ _ hy0, Result.andThen_ok, hq]
        cases q
        · simp [e0] at h; subst h; simp
        · simp [e0] at h; simp [hrest r h]

/-- == of two good values of a told type. -/
theorem run_eqV {t : TypeId} {ty : Ty} {u v : VV} {x y : Value} {r : Bool} (ht : tyIs P t ty = true) (hf : ty.fits u = true) (hx : GV B ob g w u x) (hy : GV B ob g w v y) (h : eqV u v = some r) :
    (Op.equal t x y).run P w = .ok r w := by
  show (Op.equalIn (9999 + 1) t x y).run P w = _
  cases ty with
  | sc k =>
    simp only [Ty.fits] at hf
    have h' : eq0 u v = some r := by
      cases u <;> cases k <;> simp [Kd.fits] at hf <;> exact h
    exact run_eq0 ht hf hx hy h' _
  | st l =>
    cases u <;> simp only [Ty.fits, Bool.false_eq_true] at hf
    rename_i us
    cases v <;> simp only [eqV, eq0, reduceCtorEq] at h
    rename_i vs
    simp only [tyIs] at ht
    cases hu : P.underlying t with
    | none => simp [hu] at ht
    | some dd =>
      cases dd <;> simp only [hu, Bool.false_eq_true] at ht
      rename_i fs
      simp only [Bool.and_eq_true, Bool.not_eq_true'] at ht
      obtain ⟨xs, rfl, _, hl, hx'⟩ := hx.agg_inv
      obtain ⟨ys, rfl, _, hl', hy'⟩ := hy.agg_inv
      have hfs : P.fieldsOf t = fs := by simp [Program.fieldsOf, hu]
      rw [run_equalIn_struct w 9999 t xs ys (by rw [hfs]; exact hu) ht.1.2, hfs]
      exact run_eqL l fs.toList us vs xs ys 0 9998 r ht.1.1 hf (fun j hj => ⟨_, by simp [hl, hj], hx' j hj⟩) (fun j hj => ⟨_, by simp [hl', hj], hy' j hj⟩) h

theorem run_guard {t : TypeId} {ty : Ty} {u v : VV} {x y : Value} (ht : tyIs P t ty = true) (hf : ty.fits u = true) (hx : GV B ob g w u x) (hy : GV B ob g w v y) (op : BinOp) (a b : Operand) :
    (eqGuard op t a b x y).run P w = .ok () w := by
  have hno : ∀ q : Value, x ≠ .nilIface := fun _ => by
    cases ty with
    | sc k =>
      cases u <;> cases k <;> simp [Ty.fits, Kd.fits] at hf
      · rw [hx.int_inv]; simp
      · rw [hx.bool_inv]; simp
      · obtain ⟨s, rfl, _⟩ := hx.str_inv; simp
    | st l =>
      cases u <;> simp only [Ty.fits, Bool.false_eq_true] at hf
      obtain ⟨xs, rfl, _⟩ := hx.agg_inv; simp
  have hag : ∀ xs, x = .agg xs → P.eqGuardType P.depth t = false := fun xs e => by
    subst e
    cases ty with
    | sc k =>
      cases u <;> cases k <;> simp [Ty.fits, Kd.fits] at hf
      · have := hx.int_inv; cases this
      · have := hx.bool_inv; cases this
      · obtain ⟨s, h, _⟩ := hx.str_inv; cases h
    | st l =>
      simp only [tyIs] at ht
      cases hu : P.underlying t with
      | none => simp [hu] at ht
      | some dd =>
        cases dd <;> simp only [hu, Bool.false_eq_true] at ht
        simp only [Bool.and_eq_true, Bool.not_eq_true'] at ht
        exact ht.2
  unfold eqGuard
  cases op <;> first
    | (simp; done)
    | (cases x <;> first
        | (exact absurd rfl (hno .nilIface))
        | (cases y <;> simp [hag _ rfl])
        | (cases y <;> simp))

theorem op_bin (H : HInv B w0 ob g w) (R : Reads B ob g w env ρ) {op : BinOp} {ty : Ty} {x y : Opd} {x' y' : Operand} {t t' : TypeId} (hx : mO x x' = true) (hy : mO y y' = true) (ht : tyIs P t ty = true)
    (hf : ty.fits (x.ev env) = true) {v : VV} (hv : binV op (x.ev env) (y.ev env) = some v) :
    Out P B w0 ob g w (do pure (.value (← (do eqGuard op t x' y' (ρ x') (ρ y'); binOp op t (ρ x') (ρ y'))))) v ob := by
  have h1 := R.opd hx
  have h2 := R.opd hy
  have hgd := run_guard ht hf h1 h2 op x' y'
  revert h1 h2 hf hv hgd
  generalize x.ev env = u
  generalize y.ev env = q
  generalize ρ x' = a
  generalize ρ y' = b
  intro hf hv h1 h2 hgd
  have key : ∀ z, (binOp op t a b).run P w = .ok z w → GV B ob g w v z → Out P B w0 ob g w (do pure (.value (← (do eqGuard op t x' y' a b; binOp op t a b)))) v ob := fun z hz hg =>
    Out.quiet H (x := z) (by simp only [Sem.run_bind, hgd, Result.andThen_ok, hz, Sem.run_pure]) hg
  unfold binV at hv
  split at hv
  · rename_i k m k' n
    obtain rfl := h1.int_inv
    obtain rfl := h2.int_inv
    split at hv
    · rename_i hk
      subst hk
      cases op <;> simp only [binI, Option.some.injEq, reduceCtorEq] at hv
      case quo => split at hv <;> cases hv; exact key _ (by simp [binOp, Op.intDiv, *]) .int
      case rem => split at hv <;> cases hv; exact key _ (by simp [binOp, Op.intDiv, *]) .int
      all_goals subst hv
      all_goals first
        | exact key _ (by simp [binOp, Op.intArith]) .int
        | exact key _ (by simp [binOp, Op.intCmp]) .bool
    · cases hv
  · rename_i s r
    obtain ⟨a', rfl, rfl⟩ := h1.str_inv
    obtain ⟨b', rfl, rfl⟩ := h2.str_inv
    cases op <;> simp only [binS, Option.some.injEq, reduceCtorEq] at hv
    case add =>
      split at hv <;> cases hv
      rename_i hl
      have hs : ¬ (((a'.size + b'.size : Nat) : Int) > IntKind.i64.max) := by
        simp only [Array.length_toList] at hl
        have : a'.size = a'.data.size := rfl
        have : b'.size = b'.data.size := rfl
        simp [IntKind.max, IntKind.bits, IntKind.signed]; omega
      refine key (.string (a' ++ b')) (by simp only [binOp, Op.stringOp]; rw [if_neg hs]; rfl) (.str (by simp))
    all_goals subst hv
    all_goals
      refine key _ (by simp only [binOp, Op.stringOp, ByteArray.toList_eq]; rfl) ?_
      try simp only [strLess_eq]
      exact .bool
  · rename_i m n
    obtain rfl := h1.bool_inv
    obtain rfl := h2.bool_inv
    have he := run_eqV ht hf h1 h2 (r := m == n) rfl
    cases op <;> simp only [Option.some.injEq, reduceCtorEq] at hv <;> subst hv <;> exact key _ (by simp [binOp, he]) .bool
  · rename_i m n
    cases op <;> simp only [Option.map_eq_some_iff, reduceCtorEq] at hv
    all_goals
      obtain ⟨r, hr, rfl⟩ := hv
      have he := run_eqV ht hf h1 h2 (r := r) hr
      obtain ⟨xs, rfl, _⟩ := h1.agg_inv
      obtain ⟨ys, rfl, _⟩ := h2.agg_inv
      exact key _ (by simp [binOp, he]) .bool
  · cases hv

end
end Go.V
