/- V, part 5: operations that only compute or read: V's text and the machine's. -/
import Derived.Test.YtfhkgkijljfcfaaV4
import Derived.Laws.Panics
set_option linter.unusedVariables false
set_option linter.unusedSimpArgs false
namespace Go.V
open Go.RowKit

def isAggB (P : Program) (t : TypeId) : Bool := match P.underlying t with | some (.struct _) | some (.array _ _) => true | _ => false
def sizeIs (P : Program) (t : TypeId) (n : Nat) : Bool := match P.info? t with | some i => i.size == n | none => false
/-- a variable of this type: n cells of a struct, or one cell (n = 0) -/
def varIs (P : Program) (t : TypeId) (n : Nat) : Bool :=
  match P.underlying t with
  | none => false
  | some (.struct _) | some (.array _ _) => 0 < n && sizeIs P t n
  | some _ => n == 0 && sizeIs P t 1
def sliceIs (P : Program) (t : TypeId) (sz : Nat) : Bool := match P.underlying t with | some (.slice e) => 0 < sz && sizeIs P e sz | _ => false
def fieldIs (P : Program) (t : TypeId) (f off : Nat) : Bool :=
  match P.underlying t with
  | some (.struct fs) => match fs[f]? with
    | some x => x.offset == off && (match P.info? x.type with | some i => 0 < i.size | none => false)
    | none => false
  | _ => false
def fieldVar (P : Program) (t : TypeId) (f off n : Nat) : Bool :=
  match P.underlying t with
  | some (.struct fs) => match fs[f]? with
    | some x => x.offset == off && varIs P x.type n
    | none => false
  | _ => false

section
variable {P : Program} {B : Nat} {w0 : W0} {ob : List Obj} {g : Gh} {w : World} {env : List (Nat × VV)} {ρ : Operand → Value}

theorem run_size {t : TypeId} {n : Nat} (h : sizeIs P t n = true) (w : World) : (sizeOf t).run P w = .ok n w := by
  unfold sizeIs at h
  cases hi : P.info? t with
  | none => simp [hi] at h
  | some i => simp [hi] at h; simp [sizeOf, typeInfo, hi, h]

theorem run_loadCells_at (w : World) (b o : Nat) (n : Nat) (xs : List Value) (hl : xs.length = n) (h : ∀ j (hj : j < xs.length), w.cell? ⟨b, o + j, none⟩ = some xs[j]) :
    (loadCells ⟨b, o, none⟩ n).run P w = .ok xs.toArray w := by
  subst hl
  refine run_loadCells_list w _ xs fun j v hv => ?_
  obtain ⟨hj, rfl⟩ := List.getElem?_eq_some_iff.1 hv
  have : (⟨b, o, none⟩ : Addr).add j = ⟨b, o + j, none⟩ := by unfold Addr.add; split <;> simp_all
  rw [this]; exact h j hj

theorem add_at (b o j : Nat) : (⟨b, o, none⟩ : Addr).add j = ⟨b, o + j, none⟩ := by unfold Addr.add; split <;> simp_all

/-- What is read behind an address whose cells are told. -/
theorem run_loadVar_vals {t : TypeId} {n : Nat} (hm : varIs P t n = true) (b o : Nat) (f : Nat → Value) (h : ∀ j, j < max n 1 → w.cell? ⟨b, o + j, none⟩ = some (f j)) :
    (loadVar t ⟨b, o, none⟩).run P w = .ok (if n = 0 then f 0 else .agg ((List.range n).map f).toArray) w := by
  unfold varIs at hm
  cases hu : P.underlying t with
  | none => simp [hu] at hm
  | some d =>
    have key : ∀ (hn : 0 < n) (hs : sizeIs P t n = true), (loadCells ⟨b, o, none⟩ n).run P w = .ok ((List.range n).map f).toArray w := fun hn hs =>
      run_loadCells w _ n f fun j hj => by rw [add_at]; exact h j (by omega)
    cases d <;> simp only [hu] at hm
    case struct fs =>
      simp only [Bool.and_eq_true, decide_eq_true_eq] at hm
      simp [loadVar, isAgg, run_underlying hu, run_size hm.2, key hm.1 hm.2, Nat.pos_iff_ne_zero.1 hm.1]
    case array k e =>
      simp only [Bool.and_eq_true, decide_eq_true_eq] at hm
      simp [loadVar, isAgg, run_underlying hu, run_size hm.2, key hm.1 hm.2, Nat.pos_iff_ne_zero.1 hm.1]
    all_goals
      simp only [Bool.and_eq_true, beq_iff_eq] at hm
      have h0 := h 0 (by omega)
      simp only [Nat.add_zero] at h0
      simp [loadVar, isAgg, run_underlying hu, h0, hm.1]

theorem loadV_inv {n : Nat} {cs : List VV} {off : Nat} {v : VV} (h : loadV n cs off = some v) :
    off + max n 1 ≤ cs.length ∧ ((n = 0 ∧ ∃ hl : off < cs.length, v = cs[off]) ∨ (0 < n ∧ v = .agg ((cs.drop off).take n))) := by
  unfold loadV at h
  split at h
  · rename_i h0
    subst h0
    obtain ⟨hl, rfl⟩ := List.getElem?_eq_some_iff.1 h
    exact ⟨by simp; omega, .inl ⟨rfl, hl, rfl⟩⟩
  · split at h
    · rename_i h0 hl
      cases h
      exact ⟨by omega, .inr ⟨by omega, rfl⟩⟩
    · cases h

/-- A part of a row of good cells is good. -/
theorem GV.loadV {n : Nat} {cs : List VV} {off : Nat} {v : VV} (h : loadV n cs off = some v) (hc : cs.all VV.isCell = true) (f : Nat → Value) (hv : ∀ j (hj : j < cs.length), GV B ob g w cs[j] (f j)) :
    GV B ob g w v (if n = 0 then f off else .agg ((List.range n).map fun j => f (off + j)).toArray) := by
  obtain ⟨hl, ⟨rfl, h1, rfl⟩ | ⟨hn, rfl⟩⟩ := loadV_inv h
  · simpa using hv off h1
  · rw [if_neg (by omega)]
    have hlen : ((cs.drop off).take n).length = n := by simp; omega
    refine GV.agg (by simp [hlen]) ?_ fun j hj => ?_
    · rw [List.all_eq_true] at hc ⊢
      exact fun u hu => hc u (List.mem_of_mem_drop (List.mem_of_mem_take hu))
    · have hj' : j < n := by rw [hlen] at hj; exact hj
      have := hv (off + j) (by omega)
      simpa using this

theorem op_load (H : HInv B w0 ob g w) (R : Reads B ob g w env ρ) {n : Nat} {a : Opd} {a' : Operand} {t : TypeId} (ha : mO a a' = true) (ht : varIs P t n = true) {cs : List VV} {off : Nat} {v : VV}
    (hd : deref ob (a.ev env) = some (cs, off)) (hl : loadV n cs off = some v) : Out P B w0 ob g w (do pure (.value (← Instr.loadAt t (ρ a')))) v ob := by
  have hg := R.opd ha
  obtain ⟨hoff, _⟩ := loadV_inv hl
  unfold deref at hd
  split at hd
  · rename_i o f he
    rw [he] at hg
    obtain ⟨b, hx, htb⟩ := hg.ptr_inv
    split at hd
    · rename_i cs' ho
      cases hd
      obtain ⟨_, b', arr, ty, h1, h2, h3, h4, hsz, h5⟩ := H.get ho (by simp)
      rw [htb] at h1; cases h1
      have hcell : ∀ j (hj : j < cs.length), w.cell? ⟨b, j, none⟩ = some (arr[j]'(hsz ▸ hj)) := fun j hj => by simp [World.cell?, h4, hsz, hj]
      have hr := run_loadVar_vals (w := w) ht b off (fun j => arr.getD (off + j) undef) fun j hj => by
        rw [hcell (off + j) (by omega)]; simp [hsz, show off + j < cs.length by omega]
      refine Out.quiet H (x := if n = 0 then arr.getD (off + 0) undef else .agg ((List.range n).map fun j => arr.getD (off + j) undef).toArray) ?_ ?_
      · simp only [Instr.loadAt, hx, Instr.sureAddr, Sem.run_bind, Sem.run_pure, Result.andThen_ok, hr]
      · have := GV.loadV (B := B) (ob := ob) (g := g) (w := w) hl (List.all_eq_true.2 fun u hu => by obtain ⟨j, hj, rfl⟩ := List.getElem_of_mem hu; exact (h5 j hj).1) (fun j => arr.getD j undef)
          fun j hj => by have := (h5 j hj).2; simpa [hsz, hj] using this
        simpa using this
    · cases hd
  · rename_i cs' off' he
    cases hd
    rw [he] at hg
    have hrep := hg.rep
    revert hrep
    generalize ρ a' = x
    intro hrep
    cases hrep with
    | @pim _ _ b o vals hc h hr hF =>
      have hr' := run_loadVar_vals (w := w) ht b (o + off) (fun j => vals (off + j)) fun j hj => by
        rw [show o + off + j = o + (off + j) by omega]; exact h (off + j) (by omega)
      refine Out.quiet H (x := if n = 0 then vals (off + 0) else .agg ((List.range n).map fun j => vals (off + j)).toArray) ?_ ?_
      · simp only [Instr.loadAt, Instr.sureAddr, Sem.run_bind, Sem.run_pure, Result.andThen_ok, hr']
      · have := GV.loadV (B := B) (ob := ob) (g := g) (w := w) hl (List.all_eq_true.2 fun u hu => canon0_isCell (List.all_eq_true.1 hc u hu)) vals fun j hj =>
          ⟨hr j hj, ?_, canon0_ids _ (List.all_eq_true.1 hc _ (List.getElem_mem hj))⟩
        · simpa using this
        · have hc0 := List.all_eq_true.1 hc _ (List.getElem_mem hj)
          have hrj := hr j hj
          revert hc0 hrj
          generalize cs[j] = u
          generalize vals j = y
          intro hc0 hrj
          cases u <;> simp only [VV.canon0, Bool.false_eq_true, beq_iff_eq] at hc0 <;> first | trivial | (subst hc0; cases y <;> trivial)
  · cases hd

end
end Go.V
