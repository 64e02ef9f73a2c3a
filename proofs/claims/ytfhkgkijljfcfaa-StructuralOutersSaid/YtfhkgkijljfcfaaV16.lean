/- V, part 16: every operation of V but the calls: where its text is the machine's text, the machine does what V says. -/
import Derived.Test.YtfhkgkijljfcfaaV15
set_option linter.unusedVariables false
set_option linter.unusedSimpArgs false
namespace Go.V
open Go.RowKit

def mBuild (P : Program) (z : List VV) (ps : List (Nat × Nat × Opd)) (t : TypeId) (qs : Array (Nat × Operand)) : Bool :=
  zeroIs P t z && (match P.underlying t with | some (.struct fs) => mParts P fs ps qs.toList && fs.toList.all (fun f => (P.info? f.type).isSome) | _ => false)

/-- the builtins -/
def mCallB (P : Program) : VOp → Call → Bool
  | .len k x, c => match c.callee, c.args.toList, c.argTypes.toList with
    | .builtin .len, [y], [t] => mO x y && kindTy P k t
    | _, _, _ => false
  | .app sz b x y, c => match c.callee, c.args.toList, c.argTypes.toList with
    | .builtin .append, [x', y'], [t, tx] => mO x x' && mO y y' && appIs P t tx sz b
    | _, _, _ => false
  | .mm isMax x y, c => match c.callee, c.args.toList with
    | .builtin .max, [x', y'] => isMax && mO x x' && mO y y'
    | .builtin .min, [x', y'] => !isMax && mO x x' && mO y y'
    | _, _ => false
  | .mdel ty m k, c => match c.callee, c.args.toList, c.argTypes.toList with
    | .builtin .delete, [m', k'], [t, _] => mO m m' && mO k k' && mapIs P t ty
    | _, _, _ => false
  | _, _ => false

def mOp (P : Program) : VOp → Op → Bool
  | .mov x, .move y => mO x y
  | .mov x, .assign y => mO x y
  | .pick c a b, .pick c' a' b' => mO c c' && mO a a' && mO b b'
  | .alloc z, .alloc t => zeroIs P t z
  | .box x, .box _ y => mO x y
  | .build z ps, .build t qs => mBuild P z ps t qs
  | .bsl _ sz z n ps, .buildSlice t m qs => n == m && bslIs P t sz n z && mElems ps qs.toList
  | .load n a, .load t a' => mO a a' && varIs P t n
  | .store n a x, .store t a' x' => mO a a' && mO x x' && sizeIs P t n
  | .nilck x, .nilCheck y => mO x y
  | .bin op ty x y, .binOp op' t x' y' _ => decide (op = op') && mO x x' && mO y y' && tyIs P t ty
  | .un op x, .unOp op' _ y => decide (op = op') && mO x y
  | .cvi k x, .convert s d y => mO x y && someTy P s && intTy P d k
  | .faddr off x, .fieldAddr t y f => mO x y && fieldIs P t f off
  | .fld off n x, .field t y f => mO x y && fieldVar P t f off n
  | .iaddr sz x i, .indexAddr t y j => mO x y && mO i j && sliceIs P t sz
  | .idx x i, .index t y j => mO x y && mO i j && strTy P t
  | .slc 0 x lo hi mx, .slice t y lo' hi' mx' => mO x y && mOO lo lo' && mOO hi hi' && mOO mx mx' && strTy P t
  | .slc (n + 1) x lo hi mx, .slice t y lo' hi' mx' => mO x y && mOO lo lo' && mOO hi hi' && mOO mx mx' && sliceIs P t (n + 1)
  | .ext x i, .extract y j => i == j && mO x y
  | .mkfn f cap, .makeFunc (.func f') first cap' => f == f' && first.isEmpty && mOL cap cap'.toList
  | .mkmap, .makeMap _ none => true
  | .lkp ty z ok m k, .lookup t m' k' ok' => ok == ok' && mO m m' && mO k k' && mapIs P t ty && mapZero P t z
  | .mset ty m k v, .mapUpdate t m' k' v' => mO m m' && mO k k' && mO v v' && mapIs P t ty
  | .mset ty m k v, .insert t m' k' v' => mO m m' && mO k k' && mO v v' && mapIs P t ty
  | v, .call c => mCallB P v c
  | _, _ => false

section
variable {P : Program} {B : Nat} {w0 : W0} {ob : List Obj} {g : Gh} {w : World} {env : List (Nat × VV)} {ρ : Operand → Value}

theorem one_of_toList {α : Type} {a : Array α} {x : α} (h : a.toList = [x]) : a = #[x] := by
  obtain ⟨a⟩ := a; simp at h; subst h; rfl
theorem two_of_toList {α : Type} {a : Array α} {x y : α} (h : a.toList = [x, y]) : a = #[x, y] := by
  obtain ⟨a⟩ := a; simp at h; subst h; rfl

theorem builtin_op (o : Oper) (c : Call) (b : Builtin) (ho : o.op = .call c) (hc : c.callee = .builtin b) :
    execOp ρ o = (do let d ← resolve ρ c o.type; invoke d.target d.args) := by
  simp [execOp, ho]

theorem call_sound (H : HInv B w0 ob g w) (R : Reads B ob g w env ρ) {vop : VOp} {c : Call} (hm : mCallB P vop c = true) (o : Oper) (ho : o.op = .call c) {v : VV} {ob' : List Obj} (hv : vop.ev ⟨env, ob⟩ = some (v, ob')) :
    Out P B w0 ob g w (execOp ρ o) v ob' := by
  obtain ⟨callee, args, argTypes⟩ := c
  unfold mCallB at hm
  split at hm
  · -- len
    rename_i k x
    split at hm
    · rename_i y t h1 h2 h3
      simp only at h1 h2 h3
      subst h1
      obtain rfl := one_of_toList h2
      obtain rfl := one_of_toList h3
      simp only [Bool.and_eq_true] at hm
      have hob : ob' = ob := by
        match k, hv with
        | 0, hv => simp only [VOp.ev] at hv; split at hv <;> simp_all
        | 1, hv => simp only [VOp.ev] at hv; split at hv <;> simp_all
        | k + 2, hv =>
          simp only [VOp.ev] at hv
          split at hv
          · simp_all
          · split at hv <;> simp_all
          · simp_all
      subst hob
      have := op_len (ty := o.type) H R hm.1 hm.2 hv
      have he : execOp ρ o = (do pure (.value (← Builtin.len_ #[t] o.type #[ρ y]))) := by simp [execOp, ho, resolve, invoke, builtin]
      rw [he]; exact this
    · cases hm
  · -- append
    rename_i sz b x y
    split at hm
    · rename_i x' y' t tx h1 h2 h3
      simp only at h1 h2 h3
      subst h1
      obtain rfl := two_of_toList h2
      obtain rfl := two_of_toList h3
      simp only [Bool.and_eq_true] at hm
      have := op_app (ty := o.type) H R hm.1.1 hm.1.2 hm.2 hv
      have he : execOp ρ o = (do pure (.value (← Builtin.append_ #[t, tx] o.type #[ρ x', ρ y']))) := by simp [execOp, ho, resolve, invoke, builtin]
      rw [he]; exact this
    · cases hm
  · -- max, min
    rename_i isMax x y
    have hob : ob' = ob := by
      simp only [VOp.ev] at hv
      split at hv
      · split at hv <;> simp_all
      · simp_all
    subst hob
    split at hm
    · rename_i x' y' h1 h2
      simp only at h1 h2
      subst h1
      obtain rfl := two_of_toList h2
      simp only [Bool.and_eq_true] at hm
      have := op_mm (P := P) (ts := argTypes) (ty := o.type) H R hm.1.2 hm.2 hv
      have he : execOp ρ o = (do pure (.value (← (if isMax then Builtin.max_ argTypes o.type #[ρ x', ρ y'] else Builtin.min_ argTypes o.type #[ρ x', ρ y'])))) := by simp [execOp, ho, resolve, invoke, builtin, hm.1.1]
      rw [he]; exact this
    · rename_i x' y' h1 h2
      simp only at h1 h2
      subst h1
      obtain rfl := two_of_toList h2
      simp only [Bool.and_eq_true, Bool.not_eq_true'] at hm
      have := op_mm (P := P) (ts := argTypes) (ty := o.type) H R hm.1.2 hm.2 hv
      have he : execOp ρ o = (do pure (.value (← (if isMax then Builtin.max_ argTypes o.type #[ρ x', ρ y'] else Builtin.min_ argTypes o.type #[ρ x', ρ y'])))) := by simp [execOp, ho, resolve, invoke, builtin, hm.1.1]
      rw [he]; exact this
    · cases hm
  · -- delete
    rename_i ty m k
    split at hm
    · rename_i m' k' t t' h1 h2 h3
      simp only at h1 h2 h3
      subst h1
      obtain rfl := two_of_toList h2
      obtain rfl := two_of_toList h3
      simp only [Bool.and_eq_true] at hm
      have := op_mdel (t' := t') (rt := o.type) H R hm.1.1 hm.1.2 hm.2 hv
      have he : execOp ρ o = (do pure (.value (← Builtin.delete_ #[t, t'] o.type #[ρ m', ρ k']))) := by simp [execOp, ho, resolve, invoke, builtin]
      rw [he]; exact this
    · cases hm
  · cases hm

theorem op_sound (H : HInv B w0 ob g w) (R : Reads B ob g w env ρ) {vop : VOp} {op : Op} (hm : mOp P vop op = true) (o : Oper) (ho : o.op = op) {v : VV} {ob' : List Obj} (hv : vop.ev ⟨env, ob⟩ = some (v, ob')) :
    Out P B w0 ob g w (execOp ρ o) v ob' := by
  unfold mOp at hm
  split at hm
  · -- mov, move
    simp only [VOp.ev, Option.some.injEq, Prod.mk.injEq] at hv
    obtain ⟨rfl, rfl⟩ := hv
    have he : execOp ρ o = pure (.value (ρ ‹Operand›)) := by simp [execOp, ho]
    rw [he]; exact op_mov H R hm
  · simp only [VOp.ev, Option.some.injEq, Prod.mk.injEq] at hv
    obtain ⟨rfl, rfl⟩ := hv
    have he : execOp ρ o = pure (.value (ρ ‹Operand›)) := by simp [execOp, ho]
    rw [he]; exact op_mov H R hm
  · rename_i c a b c' a' b'
    simp only [Bool.and_eq_true] at hm
    simp only [VOp.ev] at hv
    split at hv
    · rename_i t hc
      simp only [Option.some.injEq, Prod.mk.injEq] at hv
      obtain ⟨rfl, rfl⟩ := hv
      have he : execOp ρ o = (do pure (.value (if ← asBool (ρ c') then ρ a' else ρ b'))) := by simp [execOp, ho]
      rw [he]; exact op_pick H R hm.1.1 hm.1.2 hm.2 hc
    · cases hv
  · rename_i z t
    simp only [VOp.ev, Option.some.injEq, Prod.mk.injEq] at hv
    obtain ⟨rfl, rfl⟩ := hv
    have he : execOp ρ o = (do pure (.value (← Instr.alloc t true (.tuple #[])))) := by simp [execOp, ho]
    rw [he]; exact op_alloc H hm
  · rename_i x t y
    have he : execOp ρ o = (do pure (.value (← Instr.box t (ρ y)))) := by simp [execOp, ho]
    rw [he]; exact op_box H R hm hv
  · rename_i z ps t qs
    have hob : ob' = ob := by simp only [VOp.ev, Option.map_eq_some_iff, Prod.mk.injEq] at hv; obtain ⟨_, _, _, h⟩ := hv; exact h.symm
    subst hob
    simp only [mBuild, Bool.and_eq_true] at hm
    obtain ⟨h1, h2⟩ := hm
    cases hu : P.underlying t with
    | none => simp [hu] at h2
    | some d =>
      cases d <;> simp only [hu, Bool.false_eq_true, Bool.and_eq_true, List.all_eq_true] at h2
      rename_i fs
      have he : execOp ρ o = (do pure (.value (← Instr.build t (qs.map fun (i, x) => (i, ρ x))))) := by simp [execOp, ho]
      rw [he]
      exact op_build H R hu h1 h2.1 (fun i f hf => h2.2 f (by obtain ⟨q, rfl⟩ := Array.getElem?_eq_some_iff.1 hf; simp)) hv
  · rename_i own sz z n ps t m qs
    simp only [Bool.and_eq_true, beq_iff_eq] at hm
    obtain ⟨⟨rfl, h1⟩, h2⟩ := hm
    have he : execOp ρ o = (do pure (.value (← Instr.buildSlice t n (qs.map fun (i, x) => (i, ρ x))))) := by simp [execOp, ho]
    rw [he]; exact op_bsl H R h1 h2 hv
  · rename_i n a t a'
    simp only [Bool.and_eq_true] at hm
    simp only [VOp.ev] at hv
    split at hv
    · rename_i cs off hd
      simp only [Option.map_eq_some_iff, Prod.mk.injEq] at hv
      obtain ⟨q, hl, rfl, rfl⟩ := hv
      have he : execOp ρ o = (do pure (.value (← Instr.loadAt t (ρ a')))) := by simp [execOp, ho]
      rw [he]; exact op_load H R hm.1 hm.2 hd hl
    · cases hv
  · rename_i n a x t a' x'
    simp only [Bool.and_eq_true] at hm
    have he : execOp ρ o = (do Instr.storeAt t (ρ a') (ρ x'); pure .skip) := by simp [execOp, ho]
    rw [he]; exact op_store H R hm.1.1 hm.1.2 hm.2 hv
  · rename_i x y
    have hob : ob' = ob := by simp only [VOp.ev] at hv; split at hv <;> simp_all
    subst hob
    exact op_nilck H R hm hv o ho
  · rename_i op ty x y op' t x' y' _
    simp only [Bool.and_eq_true, decide_eq_true_eq] at hm
    obtain ⟨⟨⟨rfl, h1⟩, h2⟩, h3⟩ := hm
    simp only [VOp.ev] at hv
    split at hv
    · rename_i hf
      simp only [Option.map_eq_some_iff, Prod.mk.injEq] at hv
      obtain ⟨q, hl, rfl, rfl⟩ := hv
      have he : execOp ρ o = (do pure (.value (← (do eqGuard op t x' y' (ρ x') (ρ y'); binOp op t (ρ x') (ρ y'))))) := by simp [execOp, ho]
      rw [he]; exact op_bin (t' := t) H R h1 h2 h3 hf hl
    · cases hv
  · rename_i op x op' _ y
    simp only [Bool.and_eq_true, decide_eq_true_eq] at hm
    obtain ⟨rfl, h1⟩ := hm
    have hob : ob' = ob := by simp only [VOp.ev] at hv; split at hv <;> simp_all
    subst hob
    have he : execOp ρ o = (do pure (.value (← Op.unary op (ρ y)))) := by simp [execOp, ho]
    rw [he]; exact op_un H R h1 hv
  · rename_i k x s d y
    simp only [Bool.and_eq_true] at hm
    have hob : ob' = ob := by simp only [VOp.ev] at hv; split at hv <;> simp_all
    subst hob
    have he : execOp ρ o = (do pure (.value (← convert s d (ρ y)))) := by simp [execOp, ho]
    rw [he]; exact op_cvi H R hm.1.1 hm.1.2 hm.2 hv
  · rename_i off x t y f
    simp only [Bool.and_eq_true] at hm
    have hob : ob' = ob := by simp only [VOp.ev] at hv; split at hv <;> simp_all
    subst hob
    have he : execOp ρ o = (do pure (.value (← Instr.fieldAt t (ρ y) f))) := by simp [execOp, ho]
    rw [he]; exact op_faddr H R hm.1 hm.2 hv
  · rename_i off n x t y f
    simp only [Bool.and_eq_true] at hm
    simp only [VOp.ev] at hv
    split at hv
    · rename_i cs hc
      simp only [Option.map_eq_some_iff, Prod.mk.injEq] at hv
      obtain ⟨q, hl, rfl, rfl⟩ := hv
      have he : execOp ρ o = (do pure (.value (← Instr.field t (ρ y) f))) := by simp [execOp, ho]
      rw [he]; exact op_fld H R hm.1 hm.2 hc hl
    · cases hv
  · rename_i sz x i t y j
    simp only [Bool.and_eq_true] at hm
    have hob : ob' = ob := by
      simp only [VOp.ev] at hv
      split at hv
      · split at hv
        · split at hv <;> simp_all
        · cases hv
      · split at hv <;> simp_all
      · cases hv
    subst hob
    have he : execOp ρ o = (do pure (.value (← Instr.indexAt t (ρ y) (ρ j)))) := by simp [execOp, ho]
    rw [he]; exact op_iaddr H R hm.1.1 hm.1.2 hm.2 hv
  · rename_i x i t y j
    simp only [Bool.and_eq_true] at hm
    have hob : ob' = ob := by
      simp only [VOp.ev] at hv
      split at hv
      · split at hv <;> simp_all
      · cases hv
    subst hob
    have he : execOp ρ o = (do pure (.value (← Instr.index t (ρ y) (ρ j)))) := by simp [execOp, ho]
    rw [he]; exact op_idx H R hm.1.1 hm.1.2 hm.2 hv
  · rename_i x lo hi mx t y lo' hi' mx'
    simp only [Bool.and_eq_true] at hm
    have hob : ob' = ob := by
      simp only [VOp.ev] at hv
      split at hv
      · split at hv
        · cases hv
        · simp only [Option.bind_eq_some_iff, Option.some.injEq, Prod.mk.injEq] at hv
          obtain ⟨_, _, _, _, _, h⟩ := hv; exact h.symm
      · cases hv
    subst hob
    have he : execOp ρ o = (do pure (.value (← Instr.sliceAt t (ρ y) (lo'.map ρ) (hi'.map ρ) (mx'.map ρ)))) := by simp [execOp, ho]
    rw [he]; exact op_slcS H R hm.1.1.1.1 hm.1.1.1.2 hm.1.1.2 hm.1.2 hm.2 hv
  · rename_i n x lo hi mx t y lo' hi' mx'
    simp only [Bool.and_eq_true] at hm
    have hob : ob' = ob := by
      simp only [VOp.ev] at hv
      split at hv
      · split at hv
        · cases hv
        · simp only [Option.bind_eq_some_iff, Option.some.injEq, Prod.mk.injEq] at hv
          obtain ⟨_, _, _, _, _, _, _, h⟩ := hv; exact h.symm
      · split at hv
        · cases hv
        · simp only [Option.bind_eq_some_iff, Option.some.injEq, Prod.mk.injEq] at hv
          obtain ⟨_, _, _, _, _, _, _, h⟩ := hv; exact h.symm
      · cases hv
    subst hob
    have he : execOp ρ o = (do pure (.value (← Instr.sliceAt t (ρ y) (lo'.map ρ) (hi'.map ρ) (mx'.map ρ)))) := by simp [execOp, ho]
    rw [he]; exact op_slc H R hm.1.1.1.1 hm.1.1.1.2 hm.1.1.2 hm.1.2 hm.2 hv
  · rename_i x i y j
    simp only [Bool.and_eq_true, beq_iff_eq] at hm
    obtain ⟨rfl, h1⟩ := hm
    have hob : ob' = ob := by
      simp only [VOp.ev] at hv
      split at hv
      · split at hv <;> simp_all
      · cases hv
    subst hob
    have he : execOp ρ o = (do pure (.value (← Instr.extract (ρ y) i))) := by simp [execOp, ho]
    rw [he]; exact op_ext H R h1 hv
  · rename_i f cap f' first cap'
    simp only [Bool.and_eq_true, beq_iff_eq, Array.isEmpty_iff] at hm
    obtain ⟨⟨rfl, rfl⟩, h1⟩ := hm
    have hob : ob' = ob := by
      simp only [VOp.ev] at hv
      split at hv
      · simp only [Option.some.injEq, Prod.mk.injEq] at hv; exact hv.2.symm
      · cases hv
    subst hob
    have he : execOp ρ o = (do pure (.value (← Instr.makeFunc (.func f) (#[].map ρ) (cap'.map ρ)))) := by simp [execOp, ho]
    rw [he]; exact op_mkfn H R h1 hv
  · simp only [VOp.ev, Option.some.injEq, Prod.mk.injEq] at hv
    obtain ⟨rfl, rfl⟩ := hv
    rename_i t
    have he : execOp ρ o = (do pure (.value (← Instr.makeMap t none))) := by simp [execOp, ho]
    rw [he]; exact op_mkmap H
  · rename_i ty z ok m k t m' k' ok'
    simp only [Bool.and_eq_true, beq_iff_eq] at hm
    obtain ⟨⟨⟨⟨rfl, h1⟩, h2⟩, h3⟩, h4⟩ := hm
    have hob : ob' = ob := by
      simp only [VOp.ev] at hv
      split at hv
      · cases hv
      · split at hv
        · cases hv
        · simp only [Option.some.injEq, Prod.mk.injEq] at hv; exact hv.2.symm
    subst hob
    have he : execOp ρ o = (do pure (.value (← Instr.lookup t (ρ m') (ρ k') ok))) := by simp [execOp, ho]
    rw [he]; exact op_lkp H R h1 h2 h3 h4 hv
  · rename_i ty m k x t m' k' x'
    simp only [Bool.and_eq_true] at hm
    have he : execOp ρ o = (do Instr.mapUpdate t (ρ m') (ρ k') (ρ x'); pure .skip) := by simp [execOp, ho]
    rw [he]; exact op_mset H R hm.1.1.1 hm.1.1.2 hm.1.2 hm.2 hv
  · rename_i ty m k x t m' k' x'
    simp only [Bool.and_eq_true] at hm
    have he : execOp ρ o = (do Instr.mapUpdate t (ρ m') (ρ k') (ρ x'); pure .skip) := by simp [execOp, ho]
    rw [he]; exact op_mset H R hm.1.1.1 hm.1.1.2 hm.1.2 hm.2 hv
  · exact call_sound H R hm o ho hv
  · cases hm

end
end Go.V
