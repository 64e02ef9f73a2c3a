/- V, part 8: cuts of strings and slices, lengths, min and max, function values, structs put together. -/
import Derived.Test.YtfhkgkijljfcfaaV7
set_option linter.unusedVariables false
set_option linter.unusedSimpArgs false
namespace Go.V
open Go.RowKit

def mOO : Option Opd → Option Operand → Bool
  | none, none => true
  | some x, some y => mO x y
  | _, _ => false

section
variable {P : Program} {B : Nat} {w0 : W0} {ob : List Obj} {g : Gh} {w : World} {env : List (Nat × VV)} {ρ : Operand → Value}

theorem bound_run (R : Reads B ob g w env ρ) {x : Opd} {x' : Operand} (hx : mO x x' = true) {y n m : Nat} (hm : y ≤ m) (h : bound env y x = some n) (code : BoundsCode) :
    n ≤ y ∧ (Instr.sliceBound (ρ x') m code).run P w = .ok n w := by
  have h1 := R.opd hx
  unfold bound at h
  revert h h1
  generalize x.ev env = u
  generalize ρ x' = z
  intro h h1
  split at h
  · rename_i k i
    obtain rfl := h1.int_inv
    split at h
    · rename_i hi
      cases h
      exact ⟨by omega, run_sliceBound w k i m code hi.1 (by omega)⟩
    · cases h
  · cases h

theorem sliceBounds_run (R : Reads B ob g w env ρ) {isSlice : Bool} {lo hi mx : Option Opd} {lo' hi' mx' : Option Operand} (hl : mOO lo lo' = true) (hh : mOO hi hi' = true) (hm : mOO mx mx' = true)
    {len cap m h l : Nat} (hc : len ≤ cap) (h0 : ¬ (mx.isSome ∧ hi.isNone)) (e1 : bo env len len mx = some m) (e2 : bo env m len hi = some h) (e3 : bo env h 0 lo = some l) :
    l ≤ h ∧ h ≤ m ∧ m ≤ len ∧ (Instr.sliceBounds isSlice len cap (lo'.map ρ) (hi'.map ρ) (mx'.map ρ)).run P w = .ok (l, h, if mx.isSome then m else cap) w := by
  have hmx : m ≤ len ∧ (mx.isNone → m = len) ∧ ∀ v, mx' = some v → ∀ c, (Instr.sliceBound (ρ v) cap c).run P w = .ok m w := by
    cases mx <;> cases mx' <;> simp only [mOO, Bool.false_eq_true] at hm
    · simp [bo] at e1; subst e1; simp
    · obtain ⟨q1, q2⟩ := bound_run (P := P) R hm hc e1 .index
      refine ⟨q1, by simp, fun v hv c => ?_⟩
      cases hv
      exact (bound_run (P := P) R hm hc e1 c).2
  have hhi : h ≤ m ∧ (hi = none → h = len) ∧ ∀ v, hi' = some v → ∀ c, (Instr.sliceBound (ρ v) (if mx.isSome then m else cap) c).run P w = .ok h w := by
    cases hi <;> cases hi' <;> simp only [mOO, Bool.false_eq_true] at hh
    · simp [bo] at e2; subst e2
      cases mx with
      | some q => simp at h0
      | none => simp at hmx; simp; omega
    · have hle : m ≤ (if mx.isSome then m else cap) := by split <;> omega
      obtain ⟨q1, q2⟩ := bound_run (P := P) R hh hle e2 .index
      refine ⟨q1, by simp, fun v hv c => ?_⟩
      cases hv
      exact (bound_run (P := P) R hh hle e2 c).2
  have hlo : l ≤ h ∧ (lo = none → l = 0) ∧ ∀ v, lo' = some v → ∀ c, (Instr.sliceBound (ρ v) h c).run P w = .ok l w := by
    cases lo <;> cases lo' <;> simp only [mOO, Bool.false_eq_true] at hl
    · simp [bo] at e3; subst e3; simp
    · obtain ⟨q1, q2⟩ := bound_run (P := P) R hl (Nat.le_refl _) e3 .index
      refine ⟨q1, by simp, fun v hv c => ?_⟩
      cases hv
      exact (bound_run (P := P) R hl (Nat.le_refl _) e3 c).2
  refine ⟨hlo.1, hhi.1, hmx.1, ?_⟩
  cases mx <;> cases mx' <;> simp only [mOO, Bool.false_eq_true] at hm <;> cases hi <;> cases hi' <;> simp only [mOO, Bool.false_eq_true] at hh <;> cases lo <;> cases lo' <;> simp only [mOO, Bool.false_eq_true] at hl
  all_goals first
    | (exact absurd ⟨rfl, rfl⟩ h0)
    | (simp_all [Instr.sliceBounds])

theorem op_slcS (H : HInv B w0 ob g w) (R : Reads B ob g w env ρ) {x : Opd} {x' : Operand} {lo hi mx : Option Opd} {lo' hi' mx' : Option Operand} {t : TypeId} (hx : mO x x' = true) (hl : mOO lo lo' = true) (hh : mOO hi hi' = true) (hm : mOO mx mx' = true)
    (ht : strTy P t = true) {v : VV} (hv : (VOp.slc 0 x lo hi mx).ev ⟨env, ob⟩ = some (v, ob)) : Out P B w0 ob g w (do pure (.value (← Instr.sliceAt t (ρ x') (lo'.map ρ) (hi'.map ρ) (mx'.map ρ)))) v ob := by
  have h1 := R.opd hx
  simp only [VOp.ev] at hv
  split at hv
  · rename_i s he
    rw [he] at h1
    obtain ⟨b, hb, rfl⟩ := h1.str_inv
    split at hv
    · cases hv
    · rename_i hnm
      cases mx <;> cases mx' <;> simp only [mOO, Bool.false_eq_true] at hm <;> simp at hnm
      simp only [Option.bind_eq_some_iff, Option.some.injEq, Prod.mk.injEq, and_true] at hv
      obtain ⟨h, e2, l, e3, rfl⟩ := hv
      obtain ⟨q1, q2, q3, hr⟩ := sliceBounds_run (P := P) (isSlice := false) (mx := none) (mx' := none) R hl hh rfl (len := b.size) (cap := b.size) (Nat.le_refl _) (by simp) rfl (by simpa using e2) e3
      refine Out.quiet H (x := .string (b.extract l h)) ?_ ?_
      · simp only [Option.map_none, Option.isSome_none, Bool.false_eq_true, if_false] at hr
        simp [Instr.sliceAt, Instr.slice, run_underlying (strTy_eq ht), hb, hr]
      · refine .str ?_
        rw [ByteArray.data_extract]
        simp [Array.toList_extract, List.extract]
        rw [List.drop_take]
  · cases hv

theorem op_slc (H : HInv B w0 ob g w) (R : Reads B ob g w env ρ) {sz : Nat} {x : Opd} {x' : Operand} {lo hi mx : Option Opd} {lo' hi' mx' : Option Operand} {t : TypeId} (hx : mO x x' = true) (hl : mOO lo lo' = true) (hh : mOO hi hi' = true) (hm : mOO mx mx' = true)
    (ht : sliceIs P t (sz + 1) = true) {v : VV} (hv : (VOp.slc (sz + 1) x lo hi mx).ev ⟨env, ob⟩ = some (v, ob)) : Out P B w0 ob g w (do pure (.value (← Instr.sliceAt t (ρ x') (lo'.map ρ) (hi'.map ρ) (mx'.map ρ)))) v ob := by
  have h1 := R.opd hx
  unfold sliceIs at ht
  cases hu : P.underlying t with
  | none => simp [hu] at ht
  | some d =>
  cases d <;> simp only [hu, Bool.false_eq_true, Bool.and_eq_true, decide_eq_true_eq] at ht
  rename_i el
  simp only [VOp.ev] at hv
  split at hv
  · rename_i es tk he
    rw [he] at h1
    split at hv
    · cases hv
    · rename_i hnm
      have hnm1 : ¬ (mx.isSome ∧ hi.isNone) := fun q => hnm (.inl (by simpa using q))
      have hnm2 : hdSz es (sz + 1) = true := by
        cases q : hdSz es (sz + 1) with
        | true => rfl
        | false => exact absurd (.inr q) hnm
      simp only [Option.bind_eq_some_iff, Option.some.injEq, Prod.mk.injEq, and_true] at hv
      obtain ⟨m, e1, h, e2, l, e3, rfl⟩ := hv
      have hr := h1.rep
      revert hr
      generalize hy : ρ x' = y
      intro hr
      cases hr with
      | @slE _ a cap =>
        simp only [List.length_nil] at e1 e2
        obtain ⟨q1, q2, q3, hrun⟩ := sliceBounds_run (P := P) (isSlice := true) R hl hh hm (len := 0) (cap := cap) (Nat.zero_le _) hnm1 e1 e2 e3
        obtain rfl : m = 0 := by omega
        obtain rfl : h = 0 := by omega
        obtain rfl : l = 0 := by omega
        refine Out.quiet H (x := .slice (if (if mx.isSome then 0 else cap) = 0 then a else a.map (·.add (0 * (sz + 1)))) (0 - 0) ((if mx.isSome then 0 else cap) - 0)) ?_ ?_
        · simp only [Instr.sliceAt, Instr.slice, run_underlying hu, hy, Sem.run_bind, Result.andThen_ok, hrun, run_size ht.2, Sem.run_pure]
        · by_cases hms : mx.isSome
          · simp only [hms, true_and, if_true]
            exact ⟨.nils, trivial, rfl⟩
          · simp only [hms, Bool.false_eq_true, false_and, if_false, List.take_nil, List.drop_nil]
            exact ⟨.slE, trivial, by simp [VV.ids]⟩
      | @sl _ _ b o cap sz' vals hne hcap hsz hc hcell hr hF =>
        have hs : sz' = sz + 1 := by
          cases es with
          | nil => exact absurd rfl hne
          | cons e r =>
            simp only [hdSz, beq_iff_eq] at hnm2
            have := (hc 0 (by simp)).2
            simp at this
            omega
        subst hs
        obtain ⟨q1, q2, q3, hrun⟩ := sliceBounds_run (P := P) (isSlice := true) R hl hh hm (len := es.length) (cap := cap) hcap hnm1 e1 e2 e3
        refine Out.quiet H (x := .slice (if (if mx.isSome then m else cap) = l then some ⟨b, o, none⟩ else (some (⟨b, o, none⟩ : Addr)).map (·.add (l * (sz + 1)))) (h - l) ((if mx.isSome then m else cap) - l)) ?_ ?_
        · simp only [Instr.sliceAt, Instr.slice, run_underlying hu, hy, Sem.run_bind, Result.andThen_ok, hrun, run_size ht.2, Sem.run_pure]
        · by_cases hms : mx.isSome ∧ m = l
          · obtain ⟨hms, rfl⟩ := hms
            obtain rfl : h = m := by omega
            simp only [hms, and_self, if_true, Nat.sub_self]
            exact ⟨.nils, trivial, rfl⟩
          · rw [if_neg hms]
            have hlen : ((es.take h).drop l).length = h - l := by simp; omega
            by_cases hemp : h = l
            · subst hemp
              have : (es.take h).drop h = [] := List.eq_nil_of_length_eq_zero (by rw [hlen]; omega)
              rw [this, Nat.sub_self]
              exact ⟨.slE, trivial, by simp [VV.ids]⟩
            · have hml : (if mx.isSome then m else cap) ≠ l := by split <;> omega
              rw [if_neg hml]
              simp only [Option.map_some, add_at]
              refine ⟨?_, trivial, by simp [VV.ids]⟩
              rw [← hlen]
              have hget : ∀ i (hi : i < ((es.take h).drop l).length), ((es.take h).drop l)[i] = es[l + i]'(by rw [hlen] at hi; omega) := fun i hi => by simp
              have hmul : ∀ i, (l + i) * (sz + 1) = l * (sz + 1) + i * (sz + 1) := fun i => Nat.add_mul _ _ _
              refine Rep.sl (sz := sz + 1) (fun i j => vals (l + i) j) (fun q => by rw [q] at hlen; simp at hlen; omega) (by rw [hlen]; split <;> omega) (Nat.succ_pos _) (fun i hi => ?_) (fun i hi j hj => ?_) (fun i hi j hj => ?_) ?_
              · rw [hget i hi]; exact hc _ _
              · have hj' : j < (es[l + i]'(by rw [hlen] at hi; omega)).cells.length := by rw [← hget i hi]; exact hj
                have := hcell (l + i) (by rw [hlen] at hi; omega) j hj'
                rw [hmul] at this
                rwa [show o + l * (sz + 1) + i * (sz + 1) + j = o + (l * (sz + 1) + i * (sz + 1)) + j by omega]
              · have hj' : j < (es[l + i]'(by rw [hlen] at hi; omega)).cells.length := by rw [← hget i hi]; exact hj
                have := hr (l + i) (by rw [hlen] at hi; omega) j hj'
                simpa [hget i hi] using this
              · rw [hlen]
                have h2 : (l + (h - l)) * (sz + 1) ≤ es.length * (sz + 1) := Nat.mul_le_mul_right _ (by omega)
                rw [hmul] at h2
                show o + l * (sz + 1) + (h - l) * (sz + 1) ≤ g.F b
                omega
  · rename_i he
    rw [he] at h1
    split at hv
    · cases hv
    · rename_i hnm
      simp only [Option.bind_eq_some_iff, Option.some.injEq, Prod.mk.injEq, and_true] at hv
      obtain ⟨m, e1, h, e2, l, e3, rfl⟩ := hv
      have hr := h1.rep
      revert hr
      generalize hy : ρ x' = y
      intro hr
      cases hr with
      | @nils a =>
        obtain ⟨q1, q2, q3, hrun⟩ := sliceBounds_run (P := P) (isSlice := true) R hl hh hm (len := 0) (cap := 0) (Nat.le_refl _) hnm e1 e2 e3
        obtain rfl : m = 0 := by omega
        obtain rfl : h = 0 := by omega
        obtain rfl : l = 0 := by omega
        refine Out.quiet H (x := .slice (if (if mx.isSome then 0 else 0) = 0 then a else a.map (·.add (0 * (sz + 1)))) (0 - 0) ((if mx.isSome then 0 else 0) - 0)) ?_ ?_
        · simp only [Instr.sliceAt, Instr.slice, run_underlying hu, hy, Sem.run_bind, Result.andThen_ok, hrun, run_size ht.2, Sem.run_pure]
        · have : (if mx.isSome = true then 0 else 0) - 0 = 0 := by split <;> rfl
          rw [this]
          exact ⟨.nils, trivial, rfl⟩
  · cases hv

end
end Go.V
