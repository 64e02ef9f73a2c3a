/- V, part 10: new variables, stores, literals of slices. -/
import Derived.Test.YtfhkgkijljfcfaaV9
set_option linter.unusedVariables false
set_option linter.unusedSimpArgs false
namespace Go.V
open Go.RowKit

section
variable {P : Program} {B : Nat} {w0 : W0} {ob : List Obj} {g : Gh} {w : World} {env : List (Nat × VV)} {ρ : Operand → Value}

theorem op_build (H : HInv B w0 ob g w) (R : Reads B ob g w env ρ) {zero : List VV} {parts : List (Nat × Nat × Opd)} {ps : Array (Nat × Operand)} {t : TypeId} {fs : Array Field} (hu : P.underlying t = some (.struct fs)) (hz : zeroIs P t zero = true)
    (hm : mParts P fs parts ps.toList = true) (hsz : ∀ (i : Nat) (f : Field), fs[i]? = some f → (P.info? f.type).isSome = true) {v : VV} (hv : (VOp.build zero parts).ev ⟨env, ob⟩ = some (v, ob)) :
    Out P B w0 ob g w (do pure (.value (← Instr.build t (ps.map fun (i, x) => (i, ρ x))))) v ob := by
  simp only [VOp.ev, Option.map_eq_some_iff, Prod.mk.injEq, and_true] at hv
  obtain ⟨cs, hf, rfl⟩ := hv
  unfold zeroIs at hz
  cases hi : P.info? t with
  | none => simp [hi] at hz
  | some info =>
  simp only [hi] at hz
  cases hzz : info.zero with
  | none => simp [hzz] at hz
  | some z =>
  simp only [hzz] at hz
  have hzl := repCL_len hz
  simp only [Array.length_toList] at hzl
  have hzero : (zeroValue t).run P w = .ok z w := by simp [zeroValue, typeInfo, hi, hzz]
  have hplaces : ∃ places : Array (Nat × Nat), (fs.mapM fun f => (do pure (f.offset, ← sizeOf f.type) : Sem (Nat × Nat))).run P w = .ok places w ∧ ∀ (i : Nat) (f : Field) (n : Nat), fs[i]? = some f → sizeIs P f.type n = true → places[i]? = some (f.offset, n) := by
    have key : ∀ (l : List Field), (∀ f ∈ l, (P.info? f.type).isSome = true) → (l.mapM fun f => (do pure (f.offset, ← sizeOf f.type) : Sem (Nat × Nat))).run P w = .ok (l.map fun f => (f.offset, P.cellsOf f.type)) w := by
      intro l
      induction l with
      | nil => intro _; simp
      | cons f r ih =>
        intro h
        obtain ⟨i, hi⟩ := Option.isSome_iff_exists.1 (h f (by simp))
        simp only [List.mapM_cons, Sem.run_bind, run_sizeOf w hi, Result.andThen_ok, Sem.run_pure, ih (fun f hf => h f (by simp [hf])), List.map_cons]
    refine ⟨(fs.toList.map fun f => (f.offset, P.cellsOf f.type)).toArray, ?_, fun i f n h1 h2 => ?_⟩
    · rw [Array.mapM_eq_mapM_toList]
      have := key fs.toList fun f hf => by
        obtain ⟨i, hi, rfl⟩ := List.getElem_of_mem hf
        exact hsz i _ (by simp [Array.getElem?_eq_getElem (show i < fs.size by simpa using hi)])
      simp only [Sem.run_map, this, Result.andThen_ok]
    · have : P.cellsOf f.type = n := by
        unfold sizeIs at h2
        cases hi : P.info? f.type with
        | none => simp [hi] at h2
        | some i => simp [hi] at h2; simp [Program.cellsOf, hi, h2]
      simp [h1, this]
  obtain ⟨places, hpl, hpl'⟩ := hplaces
  obtain ⟨arr', hfill, hcell, hl', hg'⟩ := fill_run (P := P) (w := w) R fs (places[·]?) parts ps.toList zero cs z.cells hm hpl' hf (repCL_cells hz) hzl fun j hj => GV.const0 (by
    have := repCL_get hz j hj (by simpa using hzl ▸ hj); rwa [Array.getElem_toList] at this)
  refine Out.quiet H (x := .agg arr') ?_ (GV.agg hl' hcell hg')
  have hps : (ps.map fun (i, x) => (i, ρ x)).toList = ps.toList.map fun (i, x) => (i, ρ x) := by simp
  simp only [Instr.build, Sem.run_bind, hzero, Result.andThen_ok, run_underlying hu, hpl, hps, hfill, Sem.run_pure]

theorem op_alloc (H : HInv B w0 ob g w) {zero : List VV} {t : TypeId} (hz : zeroIs P t zero = true) :
    Out P B w0 ob g w (do pure (.value (← Instr.alloc t true (.tuple #[])))) (.ptr ob.length 0) (ob ++ [.cells zero]) := by
  unfold zeroIs at hz
  cases hi : P.info? t with
  | none => simp [hi] at hz
  | some info =>
  simp only [hi] at hz
  cases hzz : info.zero with
  | none => simp [hzz] at hz
  | some z =>
  simp only [hzz] at hz
  have hzl := repCL_len hz
  simp only [Array.length_toList] at hzl
  have hzero : (zeroValue t).run P w = .ok z w := by simp [zeroValue, typeInfo, hi, hzz]
  obtain ⟨H', hp⟩ := H.push (.cells z.cells t) (.cells zero) (by simp) ⟨w.heap.size, z.cells, t, by simp, H.hB, H.fz _ (Nat.le_refl _), heap_alloc_at _ _, hzl, fun j hj =>
    ⟨List.all_eq_true.1 (repCL_cells hz) _ (List.getElem_mem hj), GV.const0 (by have := repCL_get hz j hj (by simpa using hzl ▸ hj); rwa [Array.getElem_toList] at this)⟩⟩
  refine ⟨.pointer (some ⟨w.heap.size, 0, none⟩), _, w.alloc (.cells z.cells t), .inl ?_, H', GV.ptr (by simp) H', hp⟩
  simp [Instr.alloc, hzero, newVar, newRow]

theorem op_box (H : HInv B w0 ob g w) (R : Reads B ob g w env ρ) {x : Opd} {x' : Operand} {t : TypeId} (hx : mO x x' = true) {v : VV} {ob' : List Obj} (hv : (VOp.box x).ev ⟨env, ob⟩ = some (v, ob')) :
    Out P B w0 ob g w (do pure (.value (← Instr.box t (ρ x')))) v ob' := by
  have h1 := R.opd hx
  have hcell : (x.ev env).cells.all VV.isCell = true ∧ v = .ptr ob.length 0 ∧ ob' = ob ++ [.cells (x.ev env).cells] := by
    simp only [VOp.ev] at hv
    revert hv h1
    generalize x.ev env = u
    intro hv h1
    split at hv
    · cases hv
    · cases hv
    · simp only [Option.some.injEq, Prod.mk.injEq] at hv
      obtain ⟨rfl, rfl⟩ := hv
      refine ⟨?_, rfl, rfl⟩
      cases u with
      | agg cs => obtain ⟨_, _, hc, _⟩ := h1.agg_inv; exact hc
      | _ => simp_all [VV.cells, VV.isCell]
  obtain ⟨hc, rfl, rfl⟩ := hcell
  obtain ⟨hs, hg⟩ := h1.cells hc
  have hp0 := Pres.alloc0 H (.cells (ρ x').cells t)
  obtain ⟨H', hp⟩ := H.push (.cells (ρ x').cells t) (.cells (x.ev env).cells) (by simp) ⟨w.heap.size, (ρ x').cells, t, by simp, H.hB, H.fz _ (Nat.le_refl _), heap_alloc_at _ _, hs, fun j hj =>
    ⟨List.all_eq_true.1 hc _ (List.getElem_mem hj), Pres.push (H.alloc0 _) _ (by simp) _ _ (hp0 _ _ (hg j hj (hs ▸ hj)))⟩⟩
  refine ⟨.pointer (some ⟨w.heap.size, 0, none⟩), _, w.alloc (.cells (ρ x').cells t), .inl ?_, H', GV.ptr (by simp) H', hp⟩
  simp [Instr.box, newVar, newRow]

/-! ### A store into an object -/
theorem setRow_heap' {w : World} {b : Nat} {arr new : Array Value} {ty : TypeId} {fr : Nat × Nat} (h : w.heap[b]? = some (.cells arr ty fr)) : (w.setRow b new).heap[b]? = some (.cells new ty fr) := setRow_heap w b arr new ty fr h

/-- A block that is an object gets new cells. -/
theorem HInv.setObj (H : HInv B w0 ob g w) {o b : Nat} {cs cs' : List VV} {arr arr' : Array Value} {ty : TypeId} (ho : nthO ob o = .cells cs) (htb : g.tb o = some b) (hb : w.heap[b]? = some (.cells arr ty (0, 0)))
    (hl : arr'.size = cs'.length) (hg : ∀ j (h : j < cs'.length), cs'[j].isCell = true ∧ GV B ob g w cs'[j] (arr'[j]'(hl ▸ h))) :
    HInv B w0 (ob.set o (.cells cs')) g (w.setRow b arr') ∧ Pres B ob g w (ob.set o (.cells cs')) g (w.setRow b arr') := by
  obtain ⟨hlt, b', arr0, ty0, k1, k2, k3, k4, k5, k6⟩ := H.get ho (by simp)
  rw [htb] at k1; cases k1
  have hw : ∀ b' o', o' < g.F b' → (w.setRow b arr').cell? ⟨b', o', none⟩ = w.cell? ⟨b', o', none⟩ := fun b' o' h => by
    have hne : b' ≠ b := fun e => by subst e; rw [k3] at h; omega
    simp only [World.cell?, setRow_other w b b' arr' hne]
  have hp : Pres B ob g w (ob.set o (.cells cs')) g (w.setRow b arr') := by
    refine Pres.of (by simp) hw (fun _ => Nat.le_refl _) (fun _ _ _ h => h) fun t n sz ht => ⟨n, ?_, Nat.le_refl _, fun _ x hc => ?_⟩
    · rw [nthO_set]
      rw [if_neg]
      · exact ht
      · rintro ⟨rfl, _⟩; rw [ho] at ht; cases ht
    · rcases hc with ⟨a, rfl, rfl⟩ | ⟨b1, o1, cap, arr1, ty1, q1, rfl, q3, q4, q5, q6, q7⟩
      · exact .inl ⟨a, rfl, rfl⟩
      · have hne : b1 ≠ b := fun e => by subst e; exact H.apart _ _ _ htb q1
        exact .inr ⟨b1, o1, cap, arr1, ty1, q1, rfl, q3, by rw [setRow_other w b b1 arr' hne]; exact q4, q5, q6, q7⟩
  refine ⟨⟨?_, by rw [setRow_size]; exact H.hB, fun b1 hb1 => H.fz b1 (by simpa using hb1), H.f0, H.c0, fun i b1 h => by simpa using H.tbl i b1 h, fun i b1 h => by simpa using H.kbl i b1 h, H.inj, H.injk, H.apart, fun i hi => ?_⟩, hp⟩
  · have hbl := H.below
    exact hbl.trans ⟨rfl, rfl, rfl, by rw [setRow_size]; exact Nat.le_refl _, fun k hk => setRow_other w b k arr' (by omega)⟩
  · by_cases e : i = o
    · subst e
      simp only [List.getElem_set_self]
      exact ⟨b, arr', ty, htb, k2, k3, setRow_heap' hb, hl, fun j hj => ⟨(hg j hj).1, hp _ _ (hg j hj).2⟩⟩
    · rw [List.getElem_set_ne (fun q => e q.symm)]
      have hi' : i < ob.length := by simpa using hi
      refine (H.obs i hi').keep hp (rep_keep hw fun _ => Nat.le_refl _) (fun b1 hb1 => ⟨hb1, rfl, ?_⟩) (fun h => h)
      exact setRow_other w b b1 arr' fun q => e (H.inj _ _ _ hb1 (q ▸ htb))

theorem oneCell_of {v : VV} {x : Value} (hc : v.isCell = true) (h : GV B ob g w v x) : x.oneCell' = true := by
  have hr := h.rep
  cases hr <;> first | rfl | (simp [VV.isCell] at hc)

theorem op_store (H : HInv B w0 ob g w) (R : Reads B ob g w env ρ) {n : Nat} {a x : Opd} {a' x' : Operand} {t : TypeId} (ha : mO a a' = true) (hx : mO x x' = true) (ht : sizeIs P t n = true) {v : VV} {ob' : List Obj}
    (hv : (VOp.store n a x).ev ⟨env, ob⟩ = some (v, ob')) : Out P B w0 ob g w (do Instr.storeAt t (ρ a') (ρ x'); pure .skip) v ob' := by
  have h1 := R.opd ha
  have h2 := R.opd hx
  simp only [VOp.ev] at hv
  split at hv
  · rename_i o off he
    rw [he] at h1
    obtain ⟨b, hb, htb⟩ := h1.ptr_inv
    split at hv
    · rename_i cs ho
      split at hv
      · rename_i hcond
        obtain ⟨hlen, hle, hcell⟩ := hcond
        simp only [Option.some.injEq, Prod.mk.injEq] at hv
        obtain ⟨rfl, rfl⟩ := hv
        obtain ⟨hlt, b', arr, ty, k1, k2, k3, k4, k5, k6⟩ := H.get ho (by simp)
        rw [htb] at k1; cases k1
        obtain ⟨hs, hg⟩ := h2.cells hcell
        obtain ⟨arr', harr'⟩ : ∃ arr' : Array Value, arr' = (arr.toList.take (off + 0) ++ (ρ x').cells.toList ++ arr.toList.drop (off + 0 + (ρ x').cells.toList.length)).toArray := ⟨_, rfl⟩
        have hrun := run_storeCells_at (P := P) b off ty (ρ x').cells.toList 0 arr w k4 (by simp; omega) (fun z hz => by
          obtain ⟨j, hj, rfl⟩ := List.getElem_of_mem hz
          have hj' : j < (x.ev env).cells.length := by simp at hj; omega
          have := oneCell_of (List.all_eq_true.1 hcell _ (List.getElem_mem hj')) (hg j hj' (by simpa using hj))
          simpa using this)
        rw [← harr'] at hrun
        have hsz : arr'.size = (setCells cs off (x.ev env).cells).length := by
          rw [setCells_len, harr']; simp; omega
        have hget : ∀ j (h : j < arr'.size), arr'[j]? = if off ≤ j ∧ j < off + n then (ρ x').cells[j - off]? else arr[j]? := fun j h => by
          rw [harr']
          simp only [Nat.add_zero, List.getElem?_toArray, List.getElem?_append, List.length_append, List.length_take, Array.length_toList, List.getElem?_take, List.getElem?_drop, Array.getElem?_toList]
          have : (ρ x').cells.size = n := by omega
          by_cases q1 : j < off
          · rw [if_pos (by omega), if_pos (by omega), if_pos q1, if_neg (by omega)]
          · by_cases q2 : j < off + n
            · rw [if_pos (by omega), if_neg (by omega), if_pos (by omega)]
              congr 1; omega
            · rw [if_neg (by omega), if_neg (by omega)]
              congr 1; omega
        obtain ⟨H', hp⟩ := H.setObj (arr' := arr') (cs' := setCells cs off (x.ev env).cells) ho htb k4 hsz (fun j hj => by
          have e1 := setCells_get (x.ev env).cells cs off j (by omega)
          have e2 := hget j (hsz ▸ hj)
          rw [List.getElem?_eq_getElem hj] at e1
          rw [Array.getElem?_eq_getElem (hsz ▸ hj)] at e2
          rw [hlen] at e1
          by_cases hin : off ≤ j ∧ j < off + n
          · rw [if_pos hin] at e1 e2
            obtain ⟨q1, e1⟩ := List.getElem?_eq_some_iff.1 e1.symm
            obtain ⟨q2, e2⟩ := Array.getElem?_eq_some_iff.1 e2.symm
            rw [← e1, ← e2]
            exact ⟨List.all_eq_true.1 hcell _ (List.getElem_mem q1), hg _ q1 q2⟩
          · rw [if_neg hin] at e1 e2
            obtain ⟨q1, e1⟩ := List.getElem?_eq_some_iff.1 e1.symm
            obtain ⟨q2, e2⟩ := Array.getElem?_eq_some_iff.1 e2.symm
            rw [← e1, ← e2]
            exact k6 j q1)
        refine ⟨undef, g, w.setRow b arr', .inr ⟨?_, rfl⟩, H', .dead, hp⟩
        have hsz2 : (ρ x').cells.size = n := by omega
        simp only [Instr.storeAt, hb, Instr.sureAddr, storeVar, Sem.run_bind, Sem.run_pure, Result.andThen_ok, run_size ht, ne_eq, hsz2, not_true, if_false, hrun]
      · cases hv
    · cases hv
  · cases hv

end
end Go.V
