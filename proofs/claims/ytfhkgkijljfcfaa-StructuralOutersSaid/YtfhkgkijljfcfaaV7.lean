/- V, part 7: more operations that only compute: places, parts, cuts. -/
import Derived.Test.YtfhkgkijljfcfaaV6
set_option linter.unusedVariables false
set_option linter.unusedSimpArgs false
namespace Go.V
open Go.RowKit

section
variable {P : Program} {B : Nat} {w0 : W0} {ob : List Obj} {g : Gh} {w : World} {env : List (Nat × VV)} {ρ : Operand → Value}

theorem op_un (H : HInv B w0 ob g w) (R : Reads B ob g w env ρ) {op : UnOp} {x : Opd} {x' : Operand} (hx : mO x x' = true) {v : VV} (hv : (VOp.un op x).ev ⟨env, ob⟩ = some (v, ob)) :
    Out P B w0 ob g w (do pure (.value (← Op.unary op (ρ x')))) v ob := by
  have h1 := R.opd hx
  simp only [VOp.ev] at hv
  revert hv h1
  generalize x.ev env = u
  generalize ρ x' = y
  intro hv h1
  split at hv
  · cases hv
    obtain rfl := h1.int_inv
    exact Out.quiet H (by simp [Op.unary, Op.intArith]) .int
  · cases hv
    obtain rfl := h1.bool_inv
    exact Out.quiet H (by simp [Op.unary]) .bool
  · cases hv

def intTy (P : Program) (t : TypeId) (k : IntKind) : Bool := match P.underlying t with | some (.int k') => decide (k = k') | _ => false
def someTy (P : Program) (t : TypeId) : Bool := (P.underlying t).isSome

theorem op_cvi (H : HInv B w0 ob g w) (R : Reads B ob g w env ρ) {k : IntKind} {x : Opd} {x' : Operand} {s d : TypeId} (hx : mO x x' = true) (hs : someTy P s = true) (hd : intTy P d k = true) {v : VV}
    (hv : (VOp.cvi k x).ev ⟨env, ob⟩ = some (v, ob)) : Out P B w0 ob g w (do pure (.value (← convert s d (ρ x')))) v ob := by
  have h1 := R.opd hx
  simp only [VOp.ev] at hv
  revert hv h1
  generalize x.ev env = u
  generalize ρ x' = y
  intro hv h1
  split at hv
  · cases hv
    obtain rfl := h1.int_inv
    obtain ⟨ds, hs⟩ := Option.isSome_iff_exists.1 hs
    unfold intTy at hd
    cases hu : P.underlying d with
    | none => simp [hu] at hd
    | some dd =>
      cases dd <;> simp only [hu, decide_eq_true_eq, Bool.false_eq_true] at hd
      subst hd
      exact Out.quiet H (by simp [convert, run_underlying hs, run_underlying hu, Conv.intToInt]) .int
  · cases hv

theorem op_faddr (H : HInv B w0 ob g w) (R : Reads B ob g w env ρ) {off f : Nat} {x : Opd} {x' : Operand} {t : TypeId} (hx : mO x x' = true) (ht : fieldIs P t f off = true) {v : VV}
    (hv : (VOp.faddr off x).ev ⟨env, ob⟩ = some (v, ob)) : Out P B w0 ob g w (do pure (.value (← Instr.fieldAt t (ρ x') f))) v ob := by
  have h1 := R.opd hx
  simp only [VOp.ev] at hv
  revert hv h1
  generalize x.ev env = u
  generalize ρ x' = y
  intro hv h1
  unfold fieldIs at ht
  cases hu : P.underlying t with
  | none => simp [hu] at ht
  | some d =>
    cases d <;> simp only [hu, Bool.false_eq_true] at ht
    rename_i fs
    cases hf : fs[f]? with
    | none => simp [hf] at ht
    | some fl =>
      simp only [hf, Bool.and_eq_true, beq_iff_eq] at ht
      obtain ⟨rfl, hsz⟩ := ht
      cases hi : P.info? fl.type with
      | none => simp [hi] at hsz
      | some i =>
        simp only [hi, decide_eq_true_eq] at hsz
        have hsize : (sizeOf fl.type).run P w = .ok i.size w := by simp [sizeOf, typeInfo, hi]
        have key : ∀ b o, (Instr.fieldAt t (.pointer (some ⟨b, o, none⟩)) f).run P w = .ok (.pointer (some ⟨b, o + fl.offset, none⟩)) w := fun b o => by
          simp [Instr.fieldAt, run_underlying hu, hf, Instr.sureAddr, fieldPlace, hsize, Nat.pos_iff_ne_zero.1 hsz, add_at]
        split at hv
        · cases hv
          obtain ⟨b, rfl, htb⟩ := h1.ptr_inv
          exact Out.quiet H (by simp [key]) (.ptr htb H)
        · cases hv
          have hr := h1.rep
          cases hr with
          | @pim _ _ b o vals hc h hr hF =>
            exact Out.quiet H (by simp [key]; rfl) ⟨by rw [Nat.add_assoc]; exact .pim vals hc h hr hF, trivial, rfl⟩
        · cases hv

theorem op_fld (H : HInv B w0 ob g w) (R : Reads B ob g w env ρ) {off n f : Nat} {x : Opd} {x' : Operand} {t : TypeId} (hx : mO x x' = true) (ht : fieldVar P t f off n = true) {cs : List VV} {v : VV}
    (he : x.ev env = .agg cs) (hl : loadV n cs off = some v) : Out P B w0 ob g w (do pure (.value (← Instr.field t (ρ x') f))) v ob := by
  have h1 := R.opd hx
  rw [he] at h1
  obtain ⟨xs, hx', hc, hsz, hg⟩ := h1.agg_inv
  unfold fieldVar at ht
  cases hu : P.underlying t with
  | none => simp [hu] at ht
  | some d =>
    cases d <;> simp only [hu, Bool.false_eq_true] at ht
    rename_i fs
    cases hf : fs[f]? with
    | none => simp [hf] at ht
    | some fl =>
      simp only [hf, Bool.and_eq_true, beq_iff_eq] at ht
      obtain ⟨rfl, hvar⟩ := ht
      have hgood := GV.loadV hl hc (fun j => xs.getD j undef) fun j hj => by have := hg j hj; simpa [hsz, hj] using this
      obtain ⟨hoff, _⟩ := loadV_inv hl
      refine Out.quiet H ?_ hgood
      have hpart : (part fl.type xs fl.offset).run P w = .ok (if n = 0 then xs.getD fl.offset undef else .agg ((List.range n).map fun j => xs.getD (fl.offset + j) undef).toArray) w := by
        unfold varIs at hvar
        cases hu' : P.underlying fl.type with
        | none => simp [hu'] at hvar
        | some dd =>
          have hagg : ∀ (hn : 0 < n) (hs : sizeIs P fl.type n = true), (xs.extract fl.offset (fl.offset + n)) = ((List.range n).map fun j => xs.getD (fl.offset + j) undef).toArray := fun hn hs => by
            apply Array.ext
            · simp; omega
            · intro i h1 h2
              simp at h1 h2
              have : fl.offset + i < xs.size := by omega
              simp [this]
          cases dd <;> simp only [hu'] at hvar
          case struct =>
            simp only [Bool.and_eq_true, decide_eq_true_eq] at hvar
            simp [part, isAgg, run_underlying hu', run_size hvar.2, hagg hvar.1 hvar.2, Nat.pos_iff_ne_zero.1 hvar.1]
          case array =>
            simp only [Bool.and_eq_true, decide_eq_true_eq] at hvar
            simp [part, isAgg, run_underlying hu', run_size hvar.2, hagg hvar.1 hvar.2, Nat.pos_iff_ne_zero.1 hvar.1]
          all_goals
            simp only [Bool.and_eq_true, beq_iff_eq] at hvar
            have : fl.offset < xs.size := by omega
            simp [part, isAgg, run_underlying hu', hvar.1, this]
      simp only [Instr.field, hx', asAgg, Sem.run_bind, run_underlying hu, Result.andThen_ok, hf, Sem.run_pure, hpart]

theorem canon_hnd {v : VV} (h : v.canon = true) (x : Value) : Hnd B ob g w v x := by
  cases v with
  | agg cs =>
    simp only [VV.canon, List.all_eq_true] at h
    cases x <;> try trivial
    intro j v x hv _
    have hc := h v (List.mem_of_getElem? hv)
    cases v <;> simp only [VV.canon0, Bool.false_eq_true, beq_iff_eq] at hc <;> first | trivial | (subst hc; trivial)
  | sl es t =>
    simp only [VV.canon, VV.canon0, beq_iff_eq] at h
    subst h
    cases x <;> trivial
  | tup vs => simp [VV.canon, VV.canon0] at h
  | _ => cases x <;> trivial

/-- What holds data alone is good wherever it stands for something. -/
theorem GV.canon {v : VV} {x : Value} (h : v.canon = true) (hr : Rep w g.F g.tb v x) : GV B ob g w v x := ⟨hr, canon_hnd h x, canon_ids _ h⟩

theorem op_iaddr (H : HInv B w0 ob g w) (R : Reads B ob g w env ρ) {sz : Nat} {x i : Opd} {x' i' : Operand} {t : TypeId} (hx : mO x x' = true) (hi : mO i i' = true) (ht : sliceIs P t sz = true) {v : VV}
    (hv : (VOp.iaddr sz x i).ev ⟨env, ob⟩ = some (v, ob)) : Out P B w0 ob g w (do pure (.value (← Instr.indexAt t (ρ x') (ρ i')))) v ob := by
  have h1 := R.opd hx
  have h2 := R.opd hi
  simp only [VOp.ev] at hv
  revert hv h1 h2
  generalize x.ev env = u
  generalize i.ev env = q
  generalize ρ x' = y
  generalize ρ i' = z
  intro h1 h2 hv
  unfold sliceIs at ht
  cases hu : P.underlying t with
  | none => simp [hu] at ht
  | some d =>
    cases d <;> simp only [hu, Bool.false_eq_true, Bool.and_eq_true, decide_eq_true_eq] at ht
    rename_i e
    split at hv
    · rename_i es tk ki k
      obtain rfl := h2.int_inv
      split at hv
      · rename_i el hel
        split at hel
        · rename_i hk
          obtain ⟨hlt, rfl⟩ := List.getElem?_eq_some_iff.1 hel
          split at hv
          · rename_i hcl
            cases hv
            have hr := h1.rep
            cases hr with
            | slE => exact absurd hlt (by simp)
            | @sl _ _ b o cap sz' vals hne hcap hsz hc h hr hF =>
              obtain ⟨hca, hcs⟩ := hc _ hlt
              have hs : sz' = sz := by omega
              subst hs
              refine Out.quiet H (x := .pointer (some ⟨b, o + k.toNat * sz', none⟩)) ?_ ?_
              · have hk' : 0 ≤ k ∧ k < (es.length : Int) := ⟨hk, by omega⟩
                simp [Instr.indexAt, asIntOf, run_underlying hu, hk', run_size ht.2, add_at]
              · refine ⟨.pim (vals k.toNat) (canon_cells hca) (fun j hj => h _ hlt j hj) (fun j hj => hr _ hlt j hj) ?_, trivial, rfl⟩
                have h2 : (k.toNat + 1) * sz' ≤ es.length * sz' := Nat.mul_le_mul_right _ hlt
                rw [Nat.add_mul, Nat.one_mul] at h2
                show o + k.toNat * sz' + es[k.toNat].cells.length ≤ g.F b
                omega
          · cases hv
        · cases hel
      · cases hv
    · rename_i o off ln ki k
      obtain rfl := h2.int_inv
      split at hv
      · rename_i hk
        cases hv
        have hr := h1.rep
        cases hr with
        | @row _ _ _ cap b htb hl =>
          refine Out.quiet H (x := .pointer (some ⟨b, off + k.toNat * sz, none⟩)) ?_ (.ptr htb H)
          simp [Instr.indexAt, asIntOf, run_underlying hu, hk, run_size ht.2, add_at]
      · cases hv
    · cases hv

def strTy (P : Program) (t : TypeId) : Bool := match P.underlying t with | some .string => true | _ => false
theorem strTy_eq {t : TypeId} (h : strTy P t = true) : P.underlying t = some .string := by
  unfold strTy at h
  cases hu : P.underlying t with
  | none => simp [hu] at h
  | some d => cases d <;> simp [hu] at h; rfl

theorem op_idx (H : HInv B w0 ob g w) (R : Reads B ob g w env ρ) {x i : Opd} {x' i' : Operand} {t : TypeId} (hx : mO x x' = true) (hi : mO i i' = true) (ht : strTy P t = true) {v : VV}
    (hv : (VOp.idx x i).ev ⟨env, ob⟩ = some (v, ob)) : Out P B w0 ob g w (do pure (.value (← Instr.index t (ρ x') (ρ i')))) v ob := by
  have h1 := R.opd hx
  have h2 := R.opd hi
  simp only [VOp.ev] at hv
  revert hv h1 h2
  generalize x.ev env = u
  generalize i.ev env = q
  generalize ρ x' = y
  generalize ρ i' = z
  intro hv h1 h2
  split at hv
  · rename_i s ki k
    obtain ⟨b, rfl, rfl⟩ := h1.str_inv
    obtain rfl := h2.int_inv
    split at hv
    · rename_i c hc
      cases hv
      split at hc
      · rename_i hk
        obtain ⟨hlt, rfl⟩ := List.getElem?_eq_some_iff.1 hc
        have hlt' : k.toNat < b.size := by simpa using hlt
        have hget : b[k.toNat]? = some (b.data.toList[k.toNat]) := by
          rw [ByteArray.getElem?_lt' b _ hlt']
          simp
          rfl
        exact Out.quiet H (by simp [Instr.index, asIntOf, run_underlying (strTy_eq ht), hk, hget]) .int
      · cases hc
    · cases hv
  · cases hv

theorem op_ext (H : HInv B w0 ob g w) (R : Reads B ob g w env ρ) {i : Nat} {x : Opd} {x' : Operand} (hx : mO x x' = true) {v : VV}
    (hv : (VOp.ext x i).ev ⟨env, ob⟩ = some (v, ob)) : Out P B w0 ob g w (do pure (.value (← Instr.extract (ρ x') i))) v ob := by
  have h1 := R.opd hx
  simp only [VOp.ev] at hv
  revert hv h1
  generalize x.ev env = u
  generalize ρ x' = y
  intro hv h1
  split at hv
  · rename_i vs
    split at hv
    · rename_i v' hv'
      cases hv
      obtain ⟨hlt, rfl⟩ := List.getElem?_eq_some_iff.1 hv'
      have hr := h1.rep
      have hd := h1.hnd
      have hid := h1.ids
      cases hr with
      | @tup _ xs hl hc hr =>
        have hnt := List.all_eq_true.1 hc _ (List.getElem_mem hlt)
        have hlt' : i < xs.size := hl ▸ hlt
        refine Out.quiet H (x := xs[i]) (by simp [Instr.extract, hlt']) ⟨hr i hlt, ?_, idsL_get (by simpa [VV.ids] using hid) i hlt⟩
        have hh := hd i _ _ (List.getElem?_eq_getElem hlt) (Array.getElem?_eq_getElem hlt')
        have hri := hr i hlt
        revert hh hri hnt
        generalize vs[i] = q
        generalize xs[i] = z
        intro hnt hh hri
        cases q with
        | agg ds =>
          cases hri with
          | @agg _ ys hl' hc' hr' => exact fun j a c ha hc => hh.2 ds ys rfl rfl j a c ha hc
        | tup ds => simp [VV.noTup] at hnt
        | _ => cases z <;> exact hh.1
    · cases hv
  · cases hv

end
end Go.V
