/- V, part 9: lengths, min and max, function values, structs put together; new variables. -/
import Derived.Test.YtfhkgkijljfcfaaV8
set_option linter.unusedVariables false
set_option linter.unusedSimpArgs false
namespace Go.V
open Go.RowKit

def kindTy (P : Program) (k : Nat) (t : TypeId) : Bool := match k, P.underlying t with
  | 0, some .string => true
  | 1, some (.slice _) => true
  | 2, some (.map _ _) => true
  | _, _ => false

def zeroIs (P : Program) (t : TypeId) (zero : List VV) : Bool := match P.info? t with
  | some i => match i.zero with
    | some z => repCL zero z.cells.toList
    | none => false
  | none => false

/-- the parts of a struct: at the fields' places -/
def mParts (P : Program) (fs : Array Field) : List (Nat × Nat × Opd) → List (Nat × Operand) → Bool
  | [], [] => true
  | (off, sz, x) :: r, (i, y) :: s => (match fs[i]? with | some f => f.offset == off && sizeIs P f.type sz | none => false) && mO x y && mParts P fs r s
  | _, _ => false

section
variable {P : Program} {B : Nat} {w0 : W0} {ob : List Obj} {g : Gh} {w : World} {env : List (Nat × VV)} {ρ : Operand → Value}

theorem op_len (H : HInv B w0 ob g w) (R : Reads B ob g w env ρ) {k : Nat} {x : Opd} {x' : Operand} {t ty : TypeId} (hx : mO x x' = true) (ht : kindTy P k t = true) {v : VV}
    (hv : (VOp.len k x).ev ⟨env, ob⟩ = some (v, ob)) : Out P B w0 ob g w (do pure (.value (← Builtin.len_ #[t] ty #[ρ x']))) v ob := by
  have h1 := R.opd hx
  revert h1
  generalize hy : ρ x' = y
  intro h1
  unfold kindTy at ht
  cases hu : P.underlying t with
  | none => simp [hu] at ht
  | some d =>
  have key : ∀ z, (Builtin.len_ #[t] ty #[y]).run P w = .ok z w → GV B ob g w v z → Out P B w0 ob g w (do pure (.value (← Builtin.len_ #[t] ty #[y]))) v ob := fun z hz hg =>
    Out.quiet H (x := z) (by simp only [Sem.run_bind, hz, Result.andThen_ok, Sem.run_pure]) hg
  split at ht
  · rename_i e
    cases hu.symm.trans e
    simp only [VOp.ev] at hv
    split at hv
    · rename_i s he
      cases hv
      rw [he] at h1
      obtain ⟨b, rfl, rfl⟩ := h1.str_inv
      exact key (.int .i64 b.size) (by simp [Builtin.len_, run_underlying hu, goInt]) (by rw [Array.length_toList]; exact .int)
    · cases hv
  · rename_i el e
    cases hu.symm.trans e
    simp only [VOp.ev] at hv
    split at hv
    · rename_i es tk he
      cases hv
      rw [he] at h1
      have hr := h1.rep
      cases hr
      all_goals exact key _ (by simp [Builtin.len_, run_underlying hu, goInt]) .int
    · rename_i he
      cases hv
      rw [he] at h1
      have hr := h1.rep
      cases hr
      exact key _ (by simp [Builtin.len_, run_underlying hu, goInt]) .int
    · rename_i o off ln he
      cases hv
      rw [he] at h1
      have hr := h1.rep
      cases hr
      exact key _ (by simp [Builtin.len_, run_underlying hu, goInt]) .int
    · cases hv
  · rename_i kk el e
    cases hu.symm.trans e
    simp only [VOp.ev] at hv
    split at hv
    · rename_i he
      cases hv
      rw [he] at h1
      have hr := h1.rep
      cases hr
      exact key _ (by simp [Builtin.len_, run_underlying hu, goInt]) .int
    · rename_i o he
      rw [he] at h1
      have hr := h1.rep
      cases hr with
      | @mp _ b htb =>
      split at hv
      · rename_i es ho
        cases hv
        obtain ⟨_, b', arr, clock, q1, q2, q3, q4, hsz, q5⟩ := H.get ho (by simp)
        rw [htb] at q1; cases q1
        refine key (.int .i64 arr.size) ?_ (by rw [hsz]; exact .int)
        simp [Builtin.len_, run_underlying hu, goInt, getObj, Sem.run, q4]
      · cases hv
    · cases hv
  · cases ht

theorem op_mm (H : HInv B w0 ob g w) (R : Reads B ob g w env ρ) {mx : Bool} {x y : Opd} {x' y' : Operand} {ts : Array TypeId} {ty : TypeId} (hx : mO x x' = true) (hy : mO y y' = true) {v : VV}
    (hv : (VOp.mm mx x y).ev ⟨env, ob⟩ = some (v, ob)) : Out P B w0 ob g w (do pure (.value (← (if mx then Builtin.max_ ts ty #[ρ x', ρ y'] else Builtin.min_ ts ty #[ρ x', ρ y'])))) v ob := by
  have h1 := R.opd hx
  have h2 := R.opd hy
  simp only [VOp.ev] at hv
  split at hv
  · rename_i k a k' b e1 e2
    rw [e1] at h1
    rw [e2] at h2
    split at hv
    · rename_i hk
      subst hk
      cases hv
      have q1 := h1.int_inv
      have q2 := h2.int_inv
      cases mx
      · refine Out.quiet H (x := .int k (if b < a then b else a)) (by simp [q1, q2, run_min_int2]) ?_
        have : (if b < a then b else a) = (if (false : Bool) = true then (if a ≥ b then a else b) else (if a ≤ b then a else b)) := by
          simp; split <;> split <;> omega
        rw [this]; exact .int
      · refine Out.quiet H (x := .int k (if b > a then b else a)) (by simp [q1, q2, run_max_int2]) ?_
        have : (if b > a then b else a) = (if (true : Bool) = true then (if a ≥ b then a else b) else (if a ≤ b then a else b)) := by
          simp; split <;> split <;> omega
        rw [this]; exact .int
    · cases hv
  · cases hv

theorem strip_rep {v : VV} {x : Value} (h : Rep w g.F g.tb v x) : Rep w g.F g.tb v.strip x := by
  have h0 : ∀ {v : VV} {x : Value}, Rep w g.F g.tb v x → Rep w g.F g.tb v.strip0 x := fun {v x} h => by
    cases h with
    | nils => exact .slE
    | slE => exact .slE
    | sl vals hne hcap hsz hc h hr hF => exact .sl vals hne hcap hsz hc h hr hF
    | int k n => exact .int k n
    | bool b => exact .bool b
    | str h => exact .str h
    | nilp => exact .nilp
    | ptr h => exact .ptr h
    | pim vals hc h hr hF => exact .pim vals hc h hr hF
    | row h hl => exact .row h hl
    | nilm => exact .nilm
    | mp h => exact .mp h
    | nilf => exact .nilf
    | fn hcn hl hr => exact .fn hcn hl hr
    | yld h => exact .yld h
    | it h => exact .it h
    | agg hl hc hr => exact .agg hl hc hr
    | tup hl hc hr => exact .tup hl hc hr
    | dead => exact .dead
  cases v with
  | agg cs =>
    cases h with
    | @agg _ xs hl hc hr =>
      refine .agg (by simpa using hl) ?_ fun j hj => ?_
      · rw [List.all_eq_true] at hc ⊢
        intro u hu
        obtain ⟨q, hq, rfl⟩ := List.mem_map.1 hu
        have := hc q hq
        cases q <;> simp_all [VV.strip0, VV.isCell]
      · have := h0 (hr j (by simpa using hj))
        simpa using this
  | _ => exact h0 h

theorem strip_ids {v : VV} {n : Nat} (h : v.ids n = true) : v.strip.ids n = true := by
  have h0 : ∀ {v : VV}, v.ids n = true → v.strip0.ids n = true := fun {v} h => by
    cases v <;> simp_all [VV.strip0, VV.ids]
  cases v with
  | agg cs =>
    simp only [VV.ids] at h
    simp only [VV.strip, VV.ids]
    refine idsL_of fun u hu => ?_
    obtain ⟨q, hq, rfl⟩ := List.mem_map.1 hu
    obtain ⟨j, hj, rfl⟩ := List.getElem_of_mem hq
    exact h0 (idsL_get h j hj)
  | _ => exact h0 h

theorem strip_hnd (v : VV) (x : Value) (hn : v.noTup = true) : Hnd B ob g w v.strip x := by
  have h0 : ∀ (v : VV) (x : Value), Hnd1 B ob g w v.strip0 x := fun v x => by
    cases v <;> trivial
  cases v with
  | agg cs =>
    cases x <;> try trivial
    intro j u y hu _
    simp only [List.getElem?_map, Option.map_eq_some_iff] at hu
    obtain ⟨q, _, rfl⟩ := hu
    exact h0 q y
  | tup vs => simp [VV.noTup] at hn
  | _ => cases x <;> trivial

theorem GV.strip {v : VV} {x : Value} (hn : v.noTup = true) (h : GV B ob g w v x) : GV B ob g w v.strip x := ⟨strip_rep h.rep, strip_hnd v x hn, strip_ids h.ids⟩

theorem op_mkfn (H : HInv B w0 ob g w) (R : Reads B ob g w env ρ) {f : Nat} {cap : List Opd} {cap' : Array Operand} (hc : mOL cap cap'.toList = true) {v : VV}
    (hv : (VOp.mkfn f cap).ev ⟨env, ob⟩ = some (v, ob)) : Out P B w0 ob g w (do pure (.value (← Instr.makeFunc (.func f) (#[].map ρ) (cap'.map ρ)))) v ob := by
  simp only [VOp.ev] at hv
  split at hv
  case isFalse => cases hv
  rename_i hcn
  simp only [Option.some.injEq, Prod.mk.injEq, and_true] at hv
  subst hv
  have hl := mOL_len hc
  simp only [Array.length_toList] at hl
  have hg : ∀ j (hj : j < cap.length), GV B ob g w (cap[j].ev env) (ρ (cap'[j]'(hl ▸ hj))) := fun j hj => R.opd (by have := mOL_get hc j hj (by simpa using hl ▸ hj); rwa [Array.getElem_toList] at this)
  refine Out.quiet H (x := .func (.func f) #[] (cap'.map ρ)) (by simp [Instr.makeFunc]) ⟨.fn hcn (by simpa using hl) fun j hj => ?_, trivial, ?_⟩
  · have := strip_rep (hg j (by simpa using hj)).rep
    simpa using this
  · simp only [VV.ids]
    refine idsL_of fun u hu => ?_
    obtain ⟨q, hq, rfl⟩ := List.mem_map.1 hu
    obtain ⟨j, hj, rfl⟩ := List.getElem_of_mem hq
    exact strip_ids (hg j hj).ids

/-- cells laid over cells, one after the other, as the machine lays them -/
theorem setCells_len : ∀ (vs cs : List VV) (off : Nat), (setCells cs off vs).length = cs.length
  | [], _, _ => rfl
  | v :: r, cs, off => by simp [setCells, setCells_len r]
theorem setCells_get : ∀ (vs cs : List VV) (off j : Nat), off + vs.length ≤ cs.length → (setCells cs off vs)[j]? = if off ≤ j ∧ j < off + vs.length then vs[j - off]? else cs[j]?
  | [], cs, off, j, _ => by simp [setCells]; intro h1 h2; omega
  | v :: r, cs, off, j, h => by
    simp only [List.length_cons] at h
    rw [setCells, setCells_get r (cs.set off v) (off + 1) j (by simp; omega)]
    simp only [List.length_cons, List.getElem?_set]
    by_cases e : off = j
    · subst e
      rw [if_neg (by omega), if_pos rfl, if_pos (by omega), if_pos (by omega)]
      simp
    · by_cases h1 : off + 1 ≤ j ∧ j < off + 1 + r.length
      · rw [if_pos h1, if_pos (by omega)]
        rw [show j - off = (j - (off + 1)) + 1 by omega, List.getElem?_cons_succ]
      · rw [if_neg h1, if_neg e, if_neg (by omega)]

theorem foldl_set : ∀ (xs : List Value) (off k : Nat) (arr : Array Value) (j : Nat), off + k + xs.length ≤ arr.size →
    ((xs.zipIdx k).foldl (fun cs (c, i) => cs.setIfInBounds (off + i) c) arr)[j]? = if off + k ≤ j ∧ j < off + k + xs.length then xs[j - (off + k)]? else arr[j]?
  | [], off, k, arr, j, _ => by simp; intro h1 h2; omega
  | x :: r, off, k, arr, j, h => by
    simp only [List.length_cons] at h
    simp only [List.zipIdx_cons, List.foldl_cons]
    rw [foldl_set r off (k + 1) (arr.setIfInBounds (off + k) x) j (by simp; omega)]
    simp only [List.length_cons, Array.getElem?_setIfInBounds]
    by_cases e : off + k = j
    · subst e
      rw [if_neg (by omega), if_pos rfl, if_pos (by omega), if_pos (by omega)]
      simp
    · by_cases h1 : off + (k + 1) ≤ j ∧ j < off + (k + 1) + r.length
      · rw [if_pos h1, if_pos (by omega)]
        rw [show j - (off + k) = (j - (off + (k + 1))) + 1 by omega, List.getElem?_cons_succ]
      · rw [if_neg h1, if_neg e, if_neg (by omega)]

theorem foldl_set_size : ∀ (xs : List Value) (off k : Nat) (arr : Array Value), ((xs.zipIdx k).foldl (fun cs (c, i) => cs.setIfInBounds (off + i) c) arr).size = arr.size
  | [], _, _, _ => rfl
  | x :: r, off, k, arr => by simp only [List.zipIdx_cons, List.foldl_cons]; rw [foldl_set_size r off (k + 1)]; simp

/-- a value's cells, one by one -/
theorem GV.cells {v : VV} {x : Value} (h : GV B ob g w v x) (hc : v.cells.all VV.isCell = true) : x.cells.size = v.cells.length ∧ ∀ j (hj : j < v.cells.length) (hj' : j < x.cells.size), GV B ob g w v.cells[j] x.cells[j] := by
  cases v with
  | agg cs =>
    obtain ⟨xs, rfl, _, hl, hg⟩ := h.agg_inv
    exact ⟨hl, fun j hj _ => hg j hj⟩
  | _ =>
    have hx : x.cells = #[x] := by
      have hr := h.rep
      cases hr <;> first | rfl | (simp [VV.cells, VV.isCell] at hc)
    simp only [hx, VV.cells]
    refine ⟨rfl, fun j hj hj' => ?_⟩
    simp at hj
    subst hj
    simpa using h

theorem fill_run (R : Reads B ob g w env ρ) (fs : Array Field) (place : Nat → Option (Nat × Nat)) : ∀ (parts : List (Nat × Nat × Opd)) (ps : List (Nat × Operand)) (cs cs' : List VV) (arr : Array Value),
    mParts P fs parts ps = true → (∀ i f n, fs[i]? = some f → sizeIs P f.type n = true → place i = some (f.offset, n)) → fillV env cs parts = some cs' → cs.all VV.isCell = true →
    (hl : arr.size = cs.length) → (∀ j (h : j < cs.length), GV B ob g w cs[j] (arr[j]'(hl ▸ h))) →
    ∃ arr', Instr.fill place arr (ps.map fun (i, x) => (i, ρ x)) = some arr' ∧ cs'.all VV.isCell = true ∧ ∃ hl' : arr'.size = cs'.length, ∀ j (h : j < cs'.length), GV B ob g w cs'[j] (arr'[j]'(hl' ▸ h))
  | [], [], cs, cs', arr, _, _, hf, hc, hl, hg => by
    simp only [fillV, Option.some.injEq] at hf
    subst hf
    exact ⟨arr, rfl, hc, hl, hg⟩
  | [], _ :: _, _, _, _, hm, _, _, _, _, _ => by simp [mParts] at hm
  | _ :: _, [], _, _, _, hm, _, _, _, _, _ => by simp [mParts] at hm
  | (off, sz, x) :: r, (i, y) :: s, cs, cs', arr, hm, hp, hf, hc, hl, hg => by
    simp only [mParts, Bool.and_eq_true] at hm
    obtain ⟨⟨h1, h2⟩, h3⟩ := hm
    cases hfi : fs[i]? with
    | none => simp [hfi] at h1
    | some f =>
      simp only [hfi, Bool.and_eq_true, beq_iff_eq] at h1
      obtain ⟨rfl, hsz⟩ := h1
      simp only [fillV] at hf
      split at hf
      · rename_i hcond
        obtain ⟨hlen, hle, hcell⟩ := hcond
        have hv := R.opd h2
        obtain ⟨hs, hcells⟩ := hv.cells hcell
        have hplace := hp i f sz hfi hsz
        have hfill : Instr.fill place arr (((i, y) :: s).map fun (i, x) => (i, ρ x)) = Instr.fill place ((ρ y).cells.zipIdx.foldl (fun cs (c, j) => cs.setIfInBounds (f.offset + j) c) arr) (s.map fun (i, x) => (i, ρ x)) := by
          simp only [List.map_cons, Instr.fill, hplace]
          rw [if_neg]
          simp only [ne_eq, gt_iff_lt, Bool.or_eq_true, decide_eq_true_eq, not_or, Decidable.not_not]
          omega
        have hfold : ((ρ y).cells.zipIdx.foldl (fun cs (c, j) => cs.setIfInBounds (f.offset + j) c) arr) = (((ρ y).cells.toList.zipIdx 0).foldl (fun cs (c, j) => cs.setIfInBounds (f.offset + j) c) arr) := by
          rw [← Array.foldl_toList, Array.toList_zipIdx]
        have hsz1 : (setCells cs f.offset (x.ev env).cells).length = cs.length := setCells_len _ _ _
        rw [hfill, hfold]
        refine fill_run R fs place r s _ cs' _ h3 hp hf ?_ ?_ ?_
        · rw [List.all_eq_true]
          intro u hu
          obtain ⟨j, hj, rfl⟩ := List.getElem_of_mem hu
          have := setCells_get (x.ev env).cells cs f.offset j (by omega)
          rw [List.getElem?_eq_getElem hj] at this
          split at this
          · obtain ⟨q, e⟩ := List.getElem?_eq_some_iff.1 this.symm
            rw [← e]
            exact List.all_eq_true.1 hcell _ (List.getElem_mem q)
          · obtain ⟨q, e⟩ := List.getElem?_eq_some_iff.1 this.symm
            rw [← e]
            exact List.all_eq_true.1 hc _ (List.getElem_mem q)
        · rw [foldl_set_size, hsz1]; exact hl
        · intro j hj
          have e1 := setCells_get (x.ev env).cells cs f.offset j (by omega)
          have e2 := foldl_set (ρ y).cells.toList f.offset 0 arr j (by simp; omega)
          rw [List.getElem?_eq_getElem hj] at e1
          rw [Array.getElem?_eq_getElem (by rw [foldl_set_size, hl, ← hsz1]; exact hj)] at e2
          by_cases hin : f.offset ≤ j ∧ j < f.offset + (x.ev env).cells.length
          · rw [if_pos hin] at e1
            rw [if_pos (by simp; omega)] at e2
            obtain ⟨q1, e1⟩ := List.getElem?_eq_some_iff.1 e1.symm
            obtain ⟨q2, e2⟩ := List.getElem?_eq_some_iff.1 e2.symm
            have := hcells (j - f.offset) q1 (by omega)
            rw [← e1, ← e2]
            simpa using this
          · rw [if_neg hin] at e1
            rw [if_neg (by simp; omega)] at e2
            obtain ⟨q1, e1⟩ := List.getElem?_eq_some_iff.1 e1.symm
            obtain ⟨q2, e2⟩ := Array.getElem?_eq_some_iff.1 e2.symm
            rw [← e1, ← e2]
            exact hg j q1
      · cases hf

end
end Go.V
