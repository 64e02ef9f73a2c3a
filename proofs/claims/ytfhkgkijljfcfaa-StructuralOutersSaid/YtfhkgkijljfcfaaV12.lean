/- V, part 12: append; literals of slices. -/
import Derived.Test.YtfhkgkijljfcfaaV11
set_option linter.unusedVariables false
set_option linter.unusedSimpArgs false
namespace Go.V
open Go.RowKit

section
variable {P : Program} {B : Nat} {w0 : W0} {ob : List Obj} {g : Gh} {w : World} {env : List (Nat × VV)} {ρ : Operand → Value}

/-- A handle moves to the end of another block, its count grown. -/
theorem HInv.moveTok (H : HInv B w0 ob g w) {t n k sz b : Nat} (ht : nthO ob t = .tok n sz) (hk : 0 < k) (h0 : 0 < sz) (hb : b < w.heap.size ∧ (∀ i, g.tb i ≠ some b) ∧ (∀ i, g.kb i ≠ some b)) :
    HInv B w0 (ob.set t (.tok (n + k) sz)) { g with kb := upd g.kb t b } w ∧ Pres B ob g w (ob.set t (.tok (n + k) sz)) { g with kb := upd g.kb t b } w := by
  have htl := nthO_ne_gone (ob := ob) (i := t) (by rw [ht]; simp)
  have hp : Pres B ob g w (ob.set t (.tok (n + k) sz)) { g with kb := upd g.kb t b } w := by
    refine Pres.of (by simp) (fun _ _ _ => rfl) (fun _ => Nat.le_refl _) (fun _ _ _ h => h) fun t' m s h => ?_
    by_cases e : t' = t
    · subst e
      rw [ht] at h; cases h
      exact ⟨n + k, by rw [nthO_set, if_pos ⟨rfl, htl⟩], by omega, fun hk => by omega⟩
    · refine ⟨m, by rw [nthO_set, if_neg (fun q => e q.1)]; exact h, Nat.le_refl _, fun _ x hc => ?_⟩
      rcases hc with ⟨a, rfl, rfl⟩ | ⟨b1, o1, cap, arr1, ty1, q1, rfl, q3⟩
      · exact .inl ⟨a, rfl, rfl⟩
      · exact .inr ⟨b1, o1, cap, arr1, ty1, by show upd _ _ _ _ = _; rw [upd_ne _ _ e]; exact q1, rfl, q3⟩
  have hkb : ∀ i b', upd g.kb t b i = some b' → (i = t ∧ b' = b) ∨ (i ≠ t ∧ g.kb i = some b') := fun i b' h => by
    by_cases e : i = t
    · subst e; simp at h; exact .inl ⟨rfl, h.symm⟩
    · rw [upd_ne _ _ e] at h; exact .inr ⟨e, h⟩
  refine ⟨⟨H.below, H.hB, H.fz, H.f0, H.c0, fun i b' h => by simpa using H.tbl i b' h, fun i b' h => ?_, H.inj, fun i j b' h h' => ?_, fun i j b' h h' => ?_, fun i hi => ?_⟩, hp⟩
  · rcases hkb i b' h with ⟨rfl, rfl⟩ | ⟨_, h⟩
    · simp; exact ⟨htl, hb.1⟩
    · simpa using H.kbl i b' h
  · rcases hkb i b' h with ⟨e1, e2⟩ | ⟨_, q⟩ <;> rcases hkb j _ h' with ⟨e3, e4⟩ | ⟨_, q'⟩
    · omega
    · exact absurd (e2 ▸ q') (hb.2.2 j)
    · exact absurd (e4 ▸ q) (hb.2.2 i)
    · exact H.injk _ _ _ q q'
  · rcases hkb j b' h' with ⟨rfl, rfl⟩ | ⟨_, h'⟩
    · exact hb.2.1 i h
    · exact H.apart _ _ _ h h'
  · have hi' : i < ob.length := by simpa using hi
    by_cases e : i = t
    · subst e
      simp only [List.getElem_set_self]
      have := H.obs i hi'
      rw [← nthO_lt hi', ht] at this
      exact ⟨h0, this.2⟩
    · rw [List.getElem_set_ne (fun q => e q.symm)]
      exact (H.obs i hi').keep hp (rep_keep (fun _ _ _ => rfl) fun _ => Nat.le_refl _) (fun b1 hb1 => ⟨hb1, rfl, rfl⟩) (fun h => h)

theorem newRow_move (H : HInv B w0 ob g w) {t n k sz : Nat} (ht : nthO ob t = .tok n sz) (hk : 0 < k) (h0 : 0 < sz) {es : List VV} {xs rest : List Value} (hn : es.length = n + k) (hfl : FlatR w g.F g.tb sz es xs) {cap : Nat} (hcap : es.length ≤ cap) (hrest : cap * sz ≤ xs.length + rest.length) (ty : TypeId) :
    ∃ g', HInv B w0 (ob.set t (.tok (n + k) sz)) g' (w.alloc (.cells (xs ++ rest).toArray ty)) ∧ Pres B ob g w (ob.set t (.tok (n + k) sz)) g' (w.alloc (.cells (xs ++ rest).toArray ty)) ∧
      GV B (ob.set t (.tok (n + k) sz)) g' (w.alloc (.cells (xs ++ rest).toArray ty)) (.sl es (t + 2)) (.slice (some ⟨w.heap.size, 0, none⟩) es.length cap) := by
  have htl := nthO_ne_gone (ob := ob) (i := t) (by rw [ht]; simp)
  have H1 := H.alloc (.cells (xs ++ rest).toArray ty) (es.length * sz)
  have p1 := Pres.alloc H (.cells (xs ++ rest).toArray ty) (es.length * sz)
  obtain ⟨H2, p2⟩ := H1.moveTok (b := w.heap.size) ht hk h0 ⟨by simp, fun i h => by have := (H.tbl i _ h).2; omega, fun i h => by have := (H.kbl i _ h).2; omega⟩
  refine ⟨_, H2, p1.trans p2, ?_, ?_, ?_⟩
  · refine hfl.rep h0 (fun b o h => World.cell?_alloc_lt w _ _ (H.F_pos h)) (fun b => ?_) (fun k z hz => ?_) hcap ?_
    · by_cases e : b = w.heap.size
      · subst e; rw [H.fz _ (Nat.le_refl _)]; exact Nat.zero_le _
      · show g.F b ≤ updF _ _ _ _; rw [updF_ne _ _ e]; exact Nat.le_refl _
    · rw [Nat.zero_add, World.cell?_alloc_new]
      have hk := (List.getElem?_eq_some_iff.1 hz).1
      simp [List.getElem?_append_left hk, hz]
    · show 0 + es.length * sz ≤ updF g.F w.heap.size (es.length * sz) w.heap.size
      simp
  · refine Hnd.sl.2 ⟨n + k, sz, by rw [nthO_set, if_pos ⟨rfl, htl⟩], h0, by omega, fun _ => .inr ⟨w.heap.size, 0, cap, (xs ++ rest).toArray, ty, by simp, by rw [hn], by omega, heap_alloc_at _ _, ?_, ?_, H.hB, by omega⟩, fun i hi => (hfl.2 i hi).2.1⟩
    · simp; exact hrest
    · show updF g.F w.heap.size (es.length * sz) w.heap.size = _; simp [hn]
  · simp [VV.ids]; omega

theorem appIs_inv {t tx : TypeId} {sz bytes : Nat} (h : appIs P t tx sz bytes = true) : ∃ e i z, P.underlying t = some (.slice e) ∧ (∃ e', P.underlying tx = some (.slice e')) ∧ P.info? e = some i ∧ i.zero = some z ∧ i.size = sz ∧ i.bytes = bytes ∧ 0 < sz ∧ 0 < bytes ∧ z.cells.size = sz := by
  unfold appIs at h
  cases hu : P.underlying t with
  | none => simp [hu] at h
  | some d =>
  cases hu' : P.underlying tx with
  | none => cases d <;> simp [hu, hu'] at h
  | some d' =>
  cases d <;> cases d' <;> simp only [hu, hu', Bool.false_eq_true] at h
  rename_i e e'
  cases hi : P.info? e with
  | none => simp [hi] at h
  | some i =>
    simp only [hi, Bool.and_eq_true, beq_iff_eq, decide_eq_true_eq] at h
    obtain ⟨⟨⟨⟨h1, h2⟩, h3⟩, h4⟩, h5⟩ := h
    cases hz : i.zero with
    | none => simp [hz] at h5
    | some z => simp [hz] at h5; exact ⟨e, i, z, rfl, ⟨e', rfl⟩, hi, hz, h1, h2, h3, h4, h5⟩

/-- append, room or not. -/
theorem op_app (H : HInv B w0 ob g w) (R : Reads B ob g w env ρ) {sz bytes : Nat} {x y : Opd} {x' y' : Operand} {t tx ty : TypeId} (hx : mO x x' = true) (hy : mO y y' = true) (ht : appIs P t tx sz bytes = true) {v : VV} {ob' : List Obj}
    (hv : (VOp.app sz bytes x y).ev ⟨env, ob⟩ = some (v, ob')) : Out P B w0 ob g w (do pure (.value (← Builtin.append_ #[t, tx] ty #[ρ x', ρ y']))) v ob' := by
  obtain ⟨e, i, z, hu, hu', hi, hz, rfl, rfl, h0, hb0, hzs⟩ := appIs_inv ht
  have h1 := R.opd hx
  have h2 := R.opd hy
  simp only [VOp.ev] at hv
  split at hv
  · cases hv
  rename_i ys hys
  split at hv
  · cases hv
  rename_i hhd
  have hhd : hdSz ys i.size = true := by cases q : hdSz ys i.size with | true => rfl | false => exact absurd q hhd
  obtain ⟨zs, hsrc, hflz⟩ : ∃ zs, Src P i.size tx (ρ y') ys.length zs w ∧ FlatR w g.F g.tb i.size ys zs := by
    split at hys
    · rename_i ys' tk e2
      cases hys
      rw [e2] at h2
      exact h2.src h0 hhd hu'
    · rename_i e2
      cases hys
      rw [e2] at h2
      exact ⟨[], h2.src_nils hu', FlatR.nil⟩
    · cases hys
  have hgrow : ∀ (base : Option Addr) (sLen sCap : Nat) (olds : List Value), (Builtin.firstCells i.size sLen (.slice base sLen sCap)).run P w.drew = .ok olds.toArray w.drew → sCap < sLen + ys.length → (sLen + ys.length) * i.bytes ≤ 35184372088832 →
      ∃ (cap : Nat) (rest : List Value), sLen + ys.length ≤ cap ∧ rest.length = (cap - (sLen + ys.length)) * i.size ∧
        (Builtin.append_ #[t, tx] ty #[.slice base sLen sCap, ρ y']).run P w = .ok (.slice (some ⟨w.heap.size, 0, none⟩) (sLen + ys.length) cap) (w.drew.alloc (.cells (olds ++ zs ++ rest).toArray e)) := by
    intro base sLen sCap olds hold hlt hbd
    have h63 : sLen + ys.length ≤ 35184372088832 := Nat.le_trans (Nat.le_mul_of_pos_right _ hb0) hbd
    have := run_append_grow_src (P := P) w t tx ty e i z hu hi hz base sLen sCap olds hold (ρ y') ys.length zs hsrc hlt (by omega) (growslice_fits hlt (by omega))
    refine ⟨grownCap w (sLen + ys.length) sCap e, (Builtin.zeroCells z.cells (grownCap w (sLen + ys.length) sCap e - (sLen + ys.length))).toList, grownCap_ge _ _ _ _, ?_, ?_⟩
    · rw [Array.length_toList, size_zeroCells, hzs]
    · rw [this]
      congr 4
      apply Array.ext'
      simp
  split at hv
  · rename_i es tk e1
    rw [e1] at h1
    split at hv
    · rename_i n s hto
      split at hv
      · rename_i hcond
        obtain ⟨hn, hs, hbd⟩ := hcond
        subst hs
        simp only [Option.some.injEq, Prod.mk.injEq] at hv
        obtain ⟨rfl, rfl⟩ := hv
        obtain ⟨n', s', hto', _, _, hcur, hel⟩ := Hnd.sl.1 h1.hnd
        rw [hto] at hto'; cases hto'
        have hhe : hdSz es i.size = true := by
          cases es with
          | nil => rfl
          | cons a r => have := hel 0 (by simp); simpa [hdSz] using this
        obtain ⟨xs, hsx, hflx⟩ := h1.src h0 hhe (tx := t) ⟨e, hu⟩
        rcases hcur hn with ⟨a, hxa, hn0⟩ | ⟨b, o, cap, arr, ty1, hkb, hxb, hcap, hheap, hfit, hF, hB⟩
        · -- no room at all
          subst hn0
          obtain rfl : es = [] := List.eq_nil_of_length_eq_zero hn
          by_cases hk : ys = []
          · subst hk
            refine ⟨.slice a 0 0, g, w, .inl ?_, ?_, ?_, ?_⟩
            · have hl := hsrc.len w
              have hc := hsrc.cells
              have hz0 : zs = [] := List.eq_nil_of_length_eq_zero (by simpa using hsrc.newsLen)
              subst hz0
              obtain ⟨e', hu'⟩ := hu'
              simp only [List.length_nil] at hl hc
              have : (Builtin.append_ #[t, tx] ty #[.slice a 0 0, ρ y']).run P w = .ok (.slice a 0 0) w := by
                simp [Builtin.append_, run_underlying hu, run_underlying hu', sizeOf, typeInfo, hi, hl, hc]
                cases a <;> simp [storeCells]
              simp [hxa, this]
            · have : ob.set tk (.tok (0 + ([] : List VV).length) i.size) = ob := by
                have htl := nthO_ne_gone (ob := ob) (i := tk) (by rw [hto]; simp)
                rw [nthO_lt htl] at hto
                simp [← hto]
              rw [this]; exact H
            · have : ob.set tk (.tok (0 + ([] : List VV).length) i.size) = ob := by
                have htl := nthO_ne_gone (ob := ob) (i := tk) (by rw [hto]; simp)
                rw [nthO_lt htl] at hto
                simp [← hto]
              rw [this]; rw [← hxa]; simpa using h1
            · have : ob.set tk (.tok (0 + ([] : List VV).length) i.size) = ob := by
                have htl := nthO_ne_gone (ob := ob) (i := tk) (by rw [hto]; simp)
                rw [nthO_lt htl] at hto
                simp [← hto]
              rw [this]; exact Pres.refl _ _ _ _
          · have hk' : 0 < ys.length := by
              rcases Nat.eq_zero_or_pos ys.length with q | q
              · exact absurd (List.eq_nil_of_length_eq_zero q) hk
              · exact q
            obtain ⟨cap', rest, q1, q2, q3⟩ := hgrow a 0 0 [] (by cases a <;> simp [Builtin.firstCells, loadCells, loadCellsFrom]) (by omega) (by simpa using hbd)
            have Hd := H.drew
            have pd := Pres.drew H
            obtain ⟨g', H', p', hg'⟩ := newRow_move Hd (k := ys.length) (n := 0) (es := ys) (xs := zs) (rest := rest) (cap := cap') hto hk' h0 (by omega) (hflz.keep (fun _ _ _ => rfl) fun _ => Nat.le_refl _) (by omega) (by rw [q2, hflz.1, ← Nat.add_mul]; apply Nat.mul_le_mul_right; omega) e
            refine ⟨.slice (some ⟨w.heap.size, 0, none⟩) (0 + ys.length) cap', g', _, .inl ?_, H', ?_, pd.trans p'⟩
            · simp only [hxa, Sem.run_bind, q3, Result.andThen_ok, Sem.run_pure, List.nil_append]
            · simpa using hg'
        · by_cases hroom : es.length + ys.length ≤ cap
          · -- in place
            have hlz := hflz.1
            have h63 : n * i.size + zs.length ≤ cap * i.size := by rw [hlz, ← Nat.add_mul]; apply Nat.mul_le_mul_right; omega
            obtain ⟨arr', harr'⟩ : ∃ arr' : Array Value, arr' = (arr.toList.take (o + n * i.size + 0) ++ zs ++ arr.toList.drop (o + n * i.size + 0 + zs.length)).toArray := ⟨_, rfl⟩
            have hst := run_storeCells_at (P := P) b (o + n * i.size) ty1 zs 0 arr w hheap (by omega) hflz.one
            rw [← harr'] at hst
            have hrun : (Builtin.append_ #[t, tx] ty #[.slice (some ⟨b, o, none⟩) n cap, ρ y']).run P w = .ok (.slice (some ⟨b, o, none⟩) (n + ys.length) cap) (w.setRow b arr') := by
              have hroom' : n + ys.length ≤ cap := by omega
              obtain ⟨e', hu'⟩ := hu'
              simp [Builtin.append_, run_underlying hu, run_underlying hu', sizeOf, typeInfo, hi, hsrc.len, hsrc.cells, hroom', add_at, hst]
            have hsz' : arr'.size = arr.size := by rw [harr']; simp; omega
            have hget : ∀ j, j < arr'.size → arr'[j]? = if j < o + n * i.size then arr[j]? else if j < o + n * i.size + zs.length then zs[j - (o + n * i.size)]? else arr[j]? := fun j hj => by
              rw [harr']
              simp only [Nat.add_zero, List.getElem?_toArray, List.getElem?_append, List.length_append, List.length_take, Array.length_toList, List.getElem?_take, List.getElem?_drop, Array.getElem?_toList]
              by_cases q1 : j < o + n * i.size
              · rw [if_pos (by omega), if_pos (by omega), if_pos q1, if_pos q1]
              · by_cases q2 : j < o + n * i.size + zs.length
                · rw [if_pos (by omega), if_neg (by omega), if_neg q1, if_pos q2]
                  congr 1; omega
                · rw [if_neg (by omega), if_neg q1, if_neg q2]
                  congr 1; omega
            obtain ⟨H', p'⟩ := H.grow (arr' := arr') (k := ys.length) hto hkb hheap hB.1 hF hsz' (fun j hj => by rw [hget j (by rw [hsz']; have : n * i.size ≤ cap * i.size := Nat.mul_le_mul_right _ hcap; omega), if_pos hj]) h0
            refine ⟨.slice (some ⟨b, o, none⟩) (n + ys.length) cap, _, w.setRow b arr', .inl ?_, H', ?_, p'⟩
            · simp only [hxb, Sem.run_bind, hrun, Result.andThen_ok, Sem.run_pure]
            · have hg1 := p' _ _ h1
              have hcellw : ∀ b' o', o' < g.F b' → (w.setRow b arr').cell? ⟨b', o', none⟩ = w.cell? ⟨b', o', none⟩ := fun b' o' hlt => by
                by_cases e3 : b' = b
                · subst e3
                  simp only [World.cell?, setRow_heap' hheap, hheap]
                  simp only [Option.isSome_none, Bool.false_eq_true, if_false]
                  have hb2 : n * i.size ≤ cap * i.size := Nat.mul_le_mul_right _ hcap
                  rw [hget o' (by omega), if_pos (by omega)]
                · exact setRow_cell_ne e3
              have hFle : ∀ b', g.F b' ≤ updF g.F b (o + (n + ys.length) * i.size) b' := fun b' => by
                by_cases e3 : b' = b
                · subst e3; rw [updF_same, hF]; have : n * i.size ≤ (n + ys.length) * i.size := Nat.mul_le_mul_right _ (by omega); omega
                · rw [updF_ne _ _ e3]; exact Nat.le_refl _
              have hxs : ∀ (k : Nat) u, xs[k]? = some u → w.cell? ⟨b, o + k, none⟩ = some u := fun k u hk => by
                have hc := hsx.cells
                rw [hxb] at hc
                have hkl := (List.getElem?_eq_some_iff.1 hk).1
                have hlx := hflx.1
                -- the cells that were read are those of the block
                have hread : ∀ j, j < n * i.size → w.cell? ⟨b, o + j, none⟩ = arr[o + j]? := fun j hj => by simp [World.cell?, hheap]
                have hb2 : n * i.size ≤ cap * i.size := Nat.mul_le_mul_right _ hcap
                have hl := run_loadCells_at (P := P) w b o (n * i.size) ((List.range (n * i.size)).map fun j => arr.getD (o + j) undef) (by simp) (fun j hj => by
                  simp at hj
                  rw [hread j hj]
                  simp [show o + j < arr.size by omega])
                rw [show es.length = n from hn] at hc
                simp only [Builtin.firstCells] at hc
                rw [hl] at hc
                simp only [Result.ok.injEq, and_true] at hc
                have : xs = (List.range (n * i.size)).map fun j => arr.getD (o + j) undef := by
                  have := congrArg Array.toList hc
                  simpa using this.symm
                rw [this] at hk
                rw [hn] at hlx
                have hkn : k < n * i.size := by omega
                rw [hread k hkn]
                simp [hkn, show o + k < arr.size by omega] at hk
                simp [hk, show o + k < arr.size by omega]
              have hfa := hflx.append hflz
              have hlen : (es ++ ys).length = n + ys.length := by rw [List.length_append, hn]
              refine ⟨?_, ?_, ?_⟩
              · have := hfa.rep (w' := w.setRow b arr') (F' := updF g.F b (o + (n + ys.length) * i.size)) (tb' := g.tb) h0 hcellw hFle (b := b) (o := o) (cap := cap) (t := tk + 2) (fun k u hk => ?_) (by omega) (by rw [updF_same, hlen]; exact Nat.le_refl _)
                · rw [hlen] at this; exact this
                · rw [List.getElem?_append] at hk
                  split at hk
                  · rename_i hkx
                    rw [hcellw _ _ (by have := hflx.1; rw [hn] at this; omega)]
                    exact hxs k u hk
                  · rename_i hkx
                    have hlx := hflx.1
                    rw [hn] at hlx
                    have hkz := (List.getElem?_eq_some_iff.1 hk).1
                    simp only [World.cell?, setRow_heap' hheap]
                    simp only [Option.isSome_none, Bool.false_eq_true, if_false]
                    rw [hget (o + k) (by omega), if_neg (by omega), if_pos (by omega)]
                    rw [show o + k - (o + n * i.size) = k - xs.length by omega]
                    exact hk
              · have htl := nthO_ne_gone (ob := ob) (i := tk) (by rw [hto]; simp)
                refine Hnd.sl.2 ⟨n + ys.length, i.size, by rw [nthO_set, if_pos ⟨rfl, htl⟩], h0, by omega, fun _ => .inr ⟨b, o, cap, arr', ty1, hkb, rfl, by omega, setRow_heap' hheap, by omega, by show updF _ _ _ _ = _; rw [updF_same], hB.1, by omega⟩, fun q hq => (hfa.2 q hq).2.1⟩
              · have htl := nthO_ne_gone (ob := ob) (i := tk) (by rw [hto]; simp)
                simp [VV.ids]; omega
          · -- a new block
            have hk' : 0 < ys.length := by omega
            have hold : (Builtin.firstCells i.size n (.slice (some ⟨b, o, none⟩) n cap)).run P w.drew = .ok xs.toArray w.drew := by
              have := hsx.cellsD
              rw [hxb, hn] at this
              exact this
            obtain ⟨cap', rest, q1, q2, q3⟩ := hgrow (some ⟨b, o, none⟩) n cap xs hold (by omega) (by rw [← hn]; exact hbd)
            have Hd := H.drew
            have pd := Pres.drew H
            have hfa := hflx.append hflz
            have hlen : (es ++ ys).length = n + ys.length := by rw [List.length_append, hn]
            obtain ⟨g', H', p', hg'⟩ := newRow_move Hd (k := ys.length) (n := n) (es := es ++ ys) (xs := xs ++ zs) (rest := rest) (cap := cap') hto hk' h0 hlen (hfa.keep (fun _ _ _ => rfl) fun _ => Nat.le_refl _) (by omega)
              (by rw [q2, hfa.1, ← Nat.add_mul]; apply Nat.mul_le_mul_right; omega) e
            refine ⟨.slice (some ⟨w.heap.size, 0, none⟩) (n + ys.length) cap', g', _, .inl ?_, H', ?_, pd.trans p'⟩
            · simp only [hxb, Sem.run_bind, q3, Result.andThen_ok, Sem.run_pure]
            · rw [hlen] at hg'; exact hg'
      · cases hv
    · cases hv
  · rename_i e1
    rw [e1] at h1
    split at hv
    · rename_i hbd
      simp only [Option.some.injEq, Prod.mk.injEq] at hv
      obtain ⟨rfl, rfl⟩ := hv
      have hr := h1.rep
      revert hr
      generalize hq : ρ x' = q
      intro hr
      cases hr with
      | @nils a =>
        by_cases hk : ys = []
        · subst hk
          obtain ⟨H2, p2⟩ := H.pushTok (n := 0) h0 none (by simp)
          refine ⟨.slice a 0 0, _, w, .inl ?_, H2, ⟨.slE, Hnd.sl.2 ⟨0, i.size, nthO_new _ _, h0, Nat.le_refl _, fun _ => .inl ⟨a, rfl, rfl⟩, fun j hj => absurd hj (by simp)⟩, by simp [VV.ids]⟩, p2⟩
          have hl := hsrc.len w
          have hc := hsrc.cells
          have hz0 : zs = [] := List.eq_nil_of_length_eq_zero (by simpa using hsrc.newsLen)
          subst hz0
          obtain ⟨e', hu'⟩ := hu'
          simp only [List.length_nil] at hl hc
          have : (Builtin.append_ #[t, tx] ty #[.slice a 0 0, ρ y']).run P w = .ok (.slice a 0 0) w := by
            simp [Builtin.append_, run_underlying hu, run_underlying hu', sizeOf, typeInfo, hi, hl, hc]
            cases a <;> simp [storeCells]
          simp [this]
        · have hk' : 0 < ys.length := by
            rcases Nat.eq_zero_or_pos ys.length with q | q
            · exact absurd (List.eq_nil_of_length_eq_zero q) hk
            · exact q
          obtain ⟨cap', rest, q1, q2, q3⟩ := hgrow a 0 0 [] (by cases a <;> simp [Builtin.firstCells, loadCells, loadCellsFrom]) (by omega) (by simpa using hbd)
          have Hd := H.drew
          have pd := Pres.drew H
          obtain ⟨g', H', p', hg'⟩ := newRow_own Hd h0 (es := ys) (xs := zs) (rest := rest) (cap := cap') (hflz.keep (fun _ _ _ => rfl) fun _ => Nat.le_refl _) (by omega) (by rw [q2, hflz.1, ← Nat.add_mul]; apply Nat.mul_le_mul_right; omega) e (.inl hk')
          refine ⟨.slice (some ⟨w.heap.size, 0, none⟩) ys.length cap', g', _, .inl ?_, H', hg', pd.trans p'⟩
          simp only [Sem.run_bind, q3, Result.andThen_ok, Sem.run_pure, List.nil_append, Nat.zero_add]
    · cases hv
  · cases hv

end
end Go.V
