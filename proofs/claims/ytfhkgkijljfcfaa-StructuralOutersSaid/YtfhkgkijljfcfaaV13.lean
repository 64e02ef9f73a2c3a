/- V, part 13: literals of slices. -/
import Derived.Test.YtfhkgkijljfcfaaV12
set_option linter.unusedVariables false
set_option linter.unusedSimpArgs false
namespace Go.V
open Go.RowKit

def mElems : List (Nat × Opd) → List (Nat × Operand) → Bool
  | [], [] => true
  | (i, x) :: r, (j, y) :: s => i == j && mO x y && mElems r s
  | _, _ => false

/-- elements of a slice of this type: sz cells, this zero -/
def bslIs (P : Program) (t : TypeId) (sz len : Nat) (zero : VV) : Bool :=
  match P.underlying t with
  | some (.slice e) => sizeIs P e sz && 0 < sz && len * sz ≤ 16777216 && zero.canon && zero.cells.length == sz && (match P.info? e with | some i => (match i.zero with | some z => repCL zero.cells z.cells.toList | none => false) | none => false)
  | _ => false

section
variable {P : Program} {B : Nat} {w0 : W0} {ob : List Obj} {g : Gh} {w : World} {env : List (Nat × VV)} {ρ : Operand → Value}

theorem strip_cells_len (v : VV) : v.strip.cells.length = v.cells.length := by
  cases v <;> simp [VV.strip, VV.strip0, VV.cells]

theorem strip_canon_cells {v : VV} (h : v.strip.canon = true) : v.cells.all VV.isCell = true := by
  rw [List.all_eq_true]
  cases v with
  | agg cs =>
    intro u hu
    simp only [VV.strip, VV.canon, List.all_eq_true, List.mem_map, forall_exists_index, and_imp, forall_apply_eq_imp_iff₂] at h
    have := h u hu
    cases u <;> simp_all [VV.strip0, VV.canon0, VV.isCell]
  | _ => simp_all [VV.strip, VV.strip0, VV.canon, VV.canon0, VV.cells, VV.isCell]

theorem strip_cells_get {v : VV} (hn : v.noTup = true) (j : Nat) (h : j < v.strip.cells.length) : v.strip.cells[j] = (v.cells[j]'(by rw [← strip_cells_len]; exact h)).strip0 := by
  cases v with
  | agg cs => simp [VV.strip, VV.cells]
  | _ =>
    have : j = 0 := by simp [VV.strip, VV.strip0, VV.cells] at h; exact h
    subst this
    first | rfl | simp [VV.strip, VV.strip0, VV.cells]

theorem strip0_rep {v : VV} {x : Value} (hc : v.isCell = true) (h : Rep w g.F g.tb v x) : Rep w g.F g.tb v.strip0 x := by
  have := strip_rep h
  cases v <;> first | exact this | (simp [VV.isCell] at hc)

theorem canon_noTup {v : VV} (h : v.strip.canon = true) : v.noTup = true := by
  cases v <;> simp_all [VV.strip, VV.strip0, VV.canon, VV.canon0, VV.noTup]

theorem fillE_run (R : Reads B ob g w env ρ) {sz : Nat} (h0 : 0 < sz) : ∀ (parts : List (Nat × Opd)) (ps : List (Nat × Operand)) (es es' : List VV) (arr : Array Value),
    mElems parts ps = true → fillE env sz es parts = some es' → FlatR w g.F g.tb sz es arr.toList →
    ∃ arr', Instr.fill (fun i => some (i * sz, sz)) arr (ps.map fun (i, x) => (i, ρ x)) = some arr' ∧ FlatR w g.F g.tb sz es' arr'.toList ∧ es'.length = es.length
  | [], [], es, es', arr, _, hf, hfl => by
    simp only [fillE, Option.some.injEq] at hf
    subst hf
    exact ⟨arr, rfl, hfl, rfl⟩
  | [], _ :: _, _, _, _, hm, _, _ => by simp [mElems] at hm
  | _ :: _, [], _, _, _, hm, _, _ => by simp [mElems] at hm
  | (i, x) :: r, (j, y) :: s, es, es', arr, hm, hf, hfl => by
    simp only [mElems, Bool.and_eq_true, beq_iff_eq] at hm
    obtain ⟨⟨rfl, h2⟩, h3⟩ := hm
    simp only [fillE] at hf
    split at hf
    · rename_i hcond
      obtain ⟨hlen, hi, hcan⟩ := hcond
      have hv := R.opd h2
      have hnt := canon_noTup hcan
      have hcell := strip_canon_cells hcan
      obtain ⟨hs, hcells⟩ := hv.cells hcell
      have hcl : (x.ev env).cells.length = sz := by rw [← strip_cells_len]; exact hlen
      have hal : arr.size = es.length * sz := by simpa using hfl.1
      have hlt : i * sz + sz ≤ es.length * sz := by
        have : (i + 1) * sz ≤ es.length * sz := Nat.mul_le_mul_right _ hi
        rw [Nat.add_mul, Nat.one_mul] at this; exact this
      have hfill : Instr.fill (fun i => some (i * sz, sz)) arr (((i, y) :: s).map fun (i, x) => (i, ρ x)) = Instr.fill (fun i => some (i * sz, sz)) ((ρ y).cells.zipIdx.foldl (fun cs (c, j) => cs.setIfInBounds (i * sz + j) c) arr) (s.map fun (i, x) => (i, ρ x)) := by
        simp only [List.map_cons, Instr.fill]
        rw [if_neg]
        simp only [ne_eq, gt_iff_lt, Bool.or_eq_true, decide_eq_true_eq, not_or, Decidable.not_not]
        omega
      have hfold : ((ρ y).cells.zipIdx.foldl (fun cs (c, j) => cs.setIfInBounds (i * sz + j) c) arr) = (((ρ y).cells.toList.zipIdx 0).foldl (fun cs (c, j) => cs.setIfInBounds (i * sz + j) c) arr) := by
        rw [← Array.foldl_toList, Array.toList_zipIdx]
      rw [hfill, hfold]
      have hget := fun q => foldl_set (ρ y).cells.toList (i * sz) 0 arr q (by simp; omega)
      simp only [Nat.add_zero, Array.length_toList] at hget
      obtain ⟨arr', q1, q2, q3⟩ := fillE_run R h0 r s (es.set i (x.ev env).strip) es' (((ρ y).cells.toList.zipIdx 0).foldl (fun cs (c, j) => cs.setIfInBounds (i * sz + j) c) arr) h3 hf ⟨by simp [foldl_set_size, hal], fun k hk => by
        have hk' : k < es.length := by simpa using hk
        by_cases e : k = i
        · subst e
          simp only [List.getElem_set_self]
          refine ⟨hcan, hlen, fun q hq => ?_⟩
          have hq' : q < sz := by omega
          refine ⟨(ρ y).cells[q]'(by omega), ?_, ?_⟩
          · rw [Array.getElem?_toList, hget, if_pos (by omega), show k * sz + q - k * sz = q by omega]
            simp [show q < (ρ y).cells.size by omega]
          · rw [strip_cells_get hnt q hq]
            exact strip0_rep (List.all_eq_true.1 hcell _ (List.getElem_mem _)) (hcells q (by omega) (by omega)).rep
        · rw [List.getElem_set_ne (fun q => e q.symm)]
          refine ⟨(hfl.2 k hk').1, (hfl.2 k hk').2.1, fun q hq => ?_⟩
          obtain ⟨z, hz, hr⟩ := (hfl.2 k hk').2.2 q hq
          refine ⟨z, ?_, hr⟩
          have hq' : q < sz := by have := (hfl.2 k hk').2.1; omega
          rw [Array.getElem?_toList, hget, if_neg, ← Array.getElem?_toList]
          · exact hz
          · rintro ⟨a1, a2⟩
            rcases Nat.lt_or_ge k i with hlt' | hge
            · have := mul_lt hlt' hq'; omega
            · have : (i + 1) * sz ≤ k * sz := Nat.mul_le_mul_right _ (by omega)
              rw [Nat.add_mul, Nat.one_mul] at this
              omega⟩
      exact ⟨arr', q1, q2, by rw [q3]; simp⟩
    · cases hf

theorem op_bsl (H : HInv B w0 ob g w) (R : Reads B ob g w env ρ) {own : Bool} {sz len : Nat} {zero : VV} {parts : List (Nat × Opd)} {ps : Array (Nat × Operand)} {t : TypeId} (ht : bslIs P t sz len zero = true) (hm : mElems parts ps.toList = true) {v : VV} {ob' : List Obj}
    (hv : (VOp.bsl own sz zero len parts).ev ⟨env, ob⟩ = some (v, ob')) : Out P B w0 ob g w (do pure (.value (← Instr.buildSlice t len (ps.map fun (i, x) => (i, ρ x))))) v ob' := by
  unfold bslIs at ht
  cases hu : P.underlying t with
  | none => simp [hu] at ht
  | some d =>
  cases d <;> simp only [hu, Bool.false_eq_true] at ht
  rename_i e
  simp only [Bool.and_eq_true, decide_eq_true_eq, beq_iff_eq] at ht
  obtain ⟨⟨⟨⟨⟨hsz, h0⟩, hbig⟩, hcan⟩, hzl⟩, hzz⟩ := ht
  cases hi : P.info? e with
  | none => simp [hi] at hzz
  | some i =>
  simp only [hi] at hzz
  cases hiz : i.zero with
  | none => simp [hiz] at hzz
  | some z =>
  simp only [hiz] at hzz
  have hzl2 := repCL_len hzz
  simp only [Array.length_toList] at hzl2
  have hbase : FlatR w g.F g.tb sz (List.replicate len zero) ((List.range (len * sz)).map fun k => z.cells[k % z.cells.size]!) := by
    refine ⟨by simp, fun q hq => ?_⟩
    have hq' : q < len := by simpa using hq
    simp only [List.getElem_replicate]
    refine ⟨hcan, hzl, fun j hj => ?_⟩
    have hj' : j < z.cells.size := by omega
    refine ⟨z.cells[j], ?_, (GV.const0 (B := B) (ob := ob) (g := g) (w := w) (by have := repCL_get hzz j hj (by simpa using hj'); rwa [Array.getElem_toList] at this)).rep⟩
    have hlt : q * sz + j < len * sz := mul_lt hq' (by omega)
    have e2 : (q * sz + j) % z.cells.size = j := by rw [show z.cells.size = sz by omega, Nat.add_comm, Nat.add_mul_mod_self_right, Nat.mod_eq_of_lt (by omega)]
    simp [hlt, e2, hj']
  simp only [VOp.ev] at hv
  split at hv
  · cases hv
  rename_i es hes
  have harr0 : ((Array.range (len * sz)).map fun k => z.cells[k % z.cells.size]!) = ((List.range (len * sz)).map fun k => z.cells[k % z.cells.size]!).toArray := by
    apply Array.ext'
    simp
  obtain ⟨arr', q1, q2, q3⟩ := fillE_run R h0 parts ps.toList (List.replicate len zero) es (((List.range (len * sz)).map fun k => z.cells[k % z.cells.size]!).toArray) hm hes (by simpa using hbase)
  have hel : es.length = len := by rw [q3]; simp
  have hrun : (Instr.buildSlice t len (ps.map fun (i, x) => (i, ρ x))).run P w = .ok (.slice (some ⟨w.heap.size, 0, none⟩) len len) (w.alloc (.cells (arr'.toList ++ []).toArray e)) := by
    have hps : (ps.map fun (i, x) => (i, ρ x)).toList = ps.toList.map fun (i, x) => (i, ρ x) := by simp
    have hb' : ¬ (len * sz > 2 ^ 24) := by omega
    by_cases hl0 : len = 0
    · subst hl0
      have hp0 : ps.toList = [] ∧ arr'.toList = [] := by
        have he : es = [] := List.eq_nil_of_length_eq_zero hel
        refine ⟨?_, List.eq_nil_of_length_eq_zero (by have := q2.1; rw [hel] at this; simpa using this)⟩
        cases parts with
        | nil => revert hm; cases ps.toList with
          | nil => exact fun _ => rfl
          | cons a r => intro hm; simp [mElems] at hm
        | cons a r =>
          obtain ⟨i, x⟩ := a
          simp [fillE] at hes
      have hps0 : ps = #[] := by apply Array.ext'; simpa using hp0.1
      subst hps0
      simp only [Instr.buildSlice, Sem.run_bind, run_underlying hu, Result.andThen_ok, run_size hsz, hb', if_false, Nat.zero_mul, if_true, Sem.run_pure]
      have ha0 : arr' = #[] := by apply Array.ext'; simpa using hp0.2
      simp [Instr.fill, newRow, ha0]
      congr 2
      apply Array.ext'
      simp
    · have hne : ¬ (len * sz = 0) := by
        have := Nat.mul_pos (Nat.pos_of_ne_zero hl0) h0
        omega
      simp only [Instr.buildSlice, Sem.run_bind, run_underlying hu, Result.andThen_ok, run_size hsz, hb', if_false, hne, zeroValue, typeInfo, run_program, hi, hiz, Sem.run_pure]
      rw [harr0, hps, q1]
      simp [newRow]
  have hfl2 : FlatR w g.F g.tb sz es arr'.toList := q2
  cases own with
  | true =>
    simp only [if_true, Option.some.injEq, Prod.mk.injEq] at hv
    obtain ⟨rfl, rfl⟩ := hv
    obtain ⟨g', H', p', hg'⟩ := newRow_own H h0 hfl2 (rest := []) (cap := len) (by omega) (by have := hfl2.1; rw [hel] at this; simp at this ⊢; omega) e (by omega)
    rw [hel] at H' p' hg'
    exact ⟨_, g', _, .inl (by simp only [Sem.run_bind, hrun, Result.andThen_ok, Sem.run_pure]), H', hg', p'⟩
  | false =>
    simp only [Bool.false_eq_true, if_false, Option.some.injEq, Prod.mk.injEq] at hv
    obtain ⟨rfl, rfl⟩ := hv
    have H1 := H.alloc (.cells (arr'.toList ++ []).toArray e) (len * sz)
    have p1 := Pres.alloc H (.cells (arr'.toList ++ []).toArray e) (len * sz)
    refine ⟨.slice (some ⟨w.heap.size, 0, none⟩) len len, _, _, .inl (by simp only [Sem.run_bind, hrun, Result.andThen_ok, Sem.run_pure]), H1, ⟨?_, Hnd.sl.2 trivial, by simp [VV.ids]⟩, p1⟩
    have := hfl2.rep (w' := w.alloc (.cells (arr'.toList ++ []).toArray e)) (F' := updF g.F w.heap.size (len * sz)) (tb' := g.tb) h0 (fun b o h => World.cell?_alloc_lt w _ _ (H.F_pos h)) (fun b => by
      by_cases e : b = w.heap.size
      · subst e; rw [H.fz _ (Nat.le_refl _)]; exact Nat.zero_le _
      · rw [updF_ne _ _ e]; exact Nat.le_refl _) (b := w.heap.size) (o := 0) (cap := len) (t := 0) (fun k u hk => by rw [Nat.zero_add, World.cell?_alloc_new]; simpa using hk) (by omega) (by rw [updF_same, hel]; omega)
    rw [hel] at this
    exact this

end
end Go.V
