/- V, part 11: slices that are made and grow. -/
import Derived.Deep.AppendSrc
import Derived.MapKept
import Derived.Laws.IdiomRangeMap
import Derived.CallsIn
import Derived.Test.YtglabjcjfjlkoaaGreatDoorA1
set_option linter.unusedVariables false
set_option linter.unusedSimpArgs false
namespace Go.V
open Go.RowKit

/-- The cells of a list of elements, one after the other. -/
def FlatR (w : World) (F : Nat → Nat) (tb : Nat → Option Nat) (sz : Nat) (es : List VV) (xs : List Value) : Prop :=
  xs.length = es.length * sz ∧ ∀ i (h : i < es.length), es[i].canon = true ∧ es[i].cells.length = sz ∧ ∀ j (hj : j < es[i].cells.length), ∃ z, xs[i * sz + j]? = some z ∧ Rep w F tb es[i].cells[j] z

theorem mul_lt {i n sz j : Nat} (hi : i < n) (hj : j < sz) : i * sz + j < n * sz := by
  have : (i + 1) * sz ≤ n * sz := Nat.mul_le_mul_right _ hi
  rw [Nat.add_mul, Nat.one_mul] at this
  omega

theorem FlatR.keep {w w' : World} {F F' : Nat → Nat} {tb tb' : Nat → Option Nat} {sz : Nat} {es : List VV} {xs : List Value} (h : FlatR w F tb sz es xs)
    (hw : ∀ b o, o < F b → w'.cell? ⟨b, o, none⟩ = w.cell? ⟨b, o, none⟩) (hF : ∀ b, F b ≤ F' b) : FlatR w' F' tb' sz es xs :=
  ⟨h.1, fun i hi => ⟨(h.2 i hi).1, (h.2 i hi).2.1, fun j hj => by
    obtain ⟨z, hz, hr⟩ := (h.2 i hi).2.2 j hj
    exact ⟨z, hz, hr.mono (n := 0) hw hF (fun _ _ hlt => absurd hlt (by omega)) (canon0_ids 0 (List.all_eq_true.1 (canon_cells (h.2 i hi).1) _ (List.getElem_mem hj)))⟩⟩⟩

theorem FlatR.append {w : World} {F : Nat → Nat} {tb : Nat → Option Nat} {sz : Nat} {es ys : List VV} {xs zs : List Value} (h : FlatR w F tb sz es xs) (k : FlatR w F tb sz ys zs) : FlatR w F tb sz (es ++ ys) (xs ++ zs) := by
  refine ⟨by rw [List.length_append, List.length_append, h.1, k.1, Nat.add_mul], fun i hi => ?_⟩
  by_cases hlt : i < es.length
  · rw [List.getElem_append_left hlt]
    refine ⟨(h.2 i hlt).1, (h.2 i hlt).2.1, fun j hj => ?_⟩
    obtain ⟨z, hz, hr⟩ := (h.2 i hlt).2.2 j hj
    have := mul_lt hlt (by have := (h.2 i hlt).2.1; omega : j < sz)
    exact ⟨z, by rw [List.getElem?_append_left (by rw [h.1]; exact this)]; exact hz, hr⟩
  · have hi' : i - es.length < ys.length := by simp at hi; omega
    rw [List.getElem_append_right (by omega)]
    refine ⟨(k.2 _ hi').1, (k.2 _ hi').2.1, fun j hj => ?_⟩
    obtain ⟨z, hz, hr⟩ := (k.2 _ hi').2.2 j hj
    refine ⟨z, ?_, hr⟩
    have e : i * sz = es.length * sz + (i - es.length) * sz := by rw [← Nat.add_mul]; congr 1; omega
    rw [List.getElem?_append_right (by rw [h.1]; omega), h.1]
    rw [show i * sz + j - es.length * sz = (i - es.length) * sz + j by omega]
    exact hz

theorem FlatR.nil {w : World} {F : Nat → Nat} {tb : Nat → Option Nat} {sz : Nat} : FlatR w F tb sz [] [] := ⟨by simp, fun i hi => absurd hi (by simp)⟩

theorem FlatR.one {w : World} {F : Nat → Nat} {tb : Nat → Option Nat} {sz : Nat} {es : List VV} {xs : List Value} (h : FlatR w F tb sz es xs) : ∀ u ∈ xs, u.oneCell' = true := by
  intro u hu
  obtain ⟨k, hk, rfl⟩ := List.getElem_of_mem hu
  rcases Nat.eq_zero_or_pos sz with h0 | h0
  · have := h.1; rw [h0] at this; omega
  · have hi : k / sz < es.length := by rw [Nat.div_lt_iff_lt_mul h0, ← h.1]; exact hk
    have hj : k % sz < es[k / sz].cells.length := by rw [(h.2 _ hi).2.1]; exact Nat.mod_lt _ h0
    obtain ⟨z, hz, hr⟩ := (h.2 _ hi).2.2 _ hj
    rw [Nat.mul_comm, Nat.div_add_mod] at hz
    rw [List.getElem?_eq_getElem hk] at hz
    cases hz
    have hc := canon0_isCell (List.all_eq_true.1 (canon_cells (h.2 _ hi).1) _ (List.getElem_mem hj))
    revert hc hr
    generalize es[k / sz].cells[k % sz] = v
    generalize xs[k] = x
    intro hr hc
    cases hr <;> first | rfl | (simp [VV.isCell] at hc)

/-- A row of memory that holds a list's cells is a slice of them. -/
theorem FlatR.rep {w w' : World} {F F' : Nat → Nat} {tb tb' : Nat → Option Nat} {sz : Nat} {es : List VV} {xs : List Value} (h : FlatR w F tb sz es xs) (h0 : 0 < sz)
    (hw : ∀ b o, o < F b → w'.cell? ⟨b, o, none⟩ = w.cell? ⟨b, o, none⟩) (hF : ∀ b, F b ≤ F' b) {b o cap t : Nat} (hc : ∀ (k : Nat) z, xs[k]? = some z → w'.cell? ⟨b, o + k, none⟩ = some z) (hcap : es.length ≤ cap) (hb : o + es.length * sz ≤ F' b) :
    Rep w' F' tb' (.sl es t) (.slice (some ⟨b, o, none⟩) es.length cap) := by
  by_cases he : es = []
  · subst he; exact .slE
  · have hk := h.keep (tb' := tb') hw hF
    refine .sl (sz := sz) (fun i j => xs.getD (i * sz + j) undef) he hcap h0 (fun i hi => ⟨(h.2 i hi).1, (h.2 i hi).2.1⟩) (fun i hi j hj => ?_) (fun i hi j hj => ?_) hb
    · obtain ⟨z, hz, _⟩ := (hk.2 i hi).2.2 j hj
      rw [List.getD_eq_getElem?_getD, hz, Nat.add_assoc]
      exact hc _ _ hz
    · obtain ⟨z, hz, hr⟩ := (hk.2 i hi).2.2 j hj
      rw [List.getD_eq_getElem?_getD, hz]
      exact hr

section
variable {P : Program} {B : Nat} {w0 : W0} {ob : List Obj} {g : Gh} {w : World} {env : List (Nat × VV)} {ρ : Operand → Value}

/-- A slice is read cell by cell. -/
theorem GV.src {es : List VV} {t sz : Nat} {x : Value} {tx : TypeId} (h : GV B ob g w (.sl es t) x) (h0 : 0 < sz) (hs : hdSz es sz = true) (hu : ∃ e, P.underlying tx = some (.slice e)) :
    ∃ xs, Src P sz tx x es.length xs w ∧ FlatR w g.F g.tb sz es xs := by
  obtain ⟨e, hu⟩ := hu
  have hr := h.rep
  cases hr with
  | @slE _ a cap =>
    refine ⟨[], ?_, FlatR.nil⟩
    cases a with
    | none => exact Src.ofNil w hu cap
    | some a => exact Src.ofSlice w hu a 0 cap [] (by simp) (fun j u h => by simp at h) (fun u h => by simp at h)
  | @sl _ _ b o cap sz' vals hne hcap hsz hc hcell hr hF =>
    have hs' : sz' = sz := by
      cases es with
      | nil => exact absurd rfl hne
      | cons e r =>
        simp only [hdSz, beq_iff_eq] at hs
        have := (hc 0 (by simp)).2
        simp at this
        omega
    subst hs'
    have hfl : FlatR w g.F g.tb sz' es ((List.range (es.length * sz')).map fun k => vals (k / sz') (k % sz')) := by
      refine ⟨by simp, fun i hi => ⟨(hc i hi).1, (hc i hi).2, fun j hj => ⟨vals i j, ?_, hr i hi j hj⟩⟩⟩
      have hj' : j < sz' := by have := (hc i hi).2; omega
      have hlt := mul_lt hi hj'
      have e1 : (i * sz' + j) / sz' = i := by rw [Nat.add_comm, Nat.add_mul_div_right _ _ hsz, Nat.div_eq_of_lt hj']; omega
      have e2 : (i * sz' + j) % sz' = j := by rw [Nat.add_comm, Nat.add_mul_mod_self_right, Nat.mod_eq_of_lt hj']
      simp [hlt, e1, e2]
    refine ⟨_, Src.ofSlice w hu _ _ _ _ (by simp) (fun k u hk => ?_) hfl.one, hfl⟩
    rw [List.getElem?_map] at hk
    simp only [Option.map_eq_some_iff] at hk
    obtain ⟨q, hq, rfl⟩ := hk
    obtain ⟨hkl, rfl⟩ := List.getElem?_eq_some_iff.1 hq
    simp only [List.length_range] at hkl
    simp only [List.getElem_range]
    have hi : k / sz' < es.length := by rw [Nat.div_lt_iff_lt_mul hsz]; exact hkl
    have := hcell (k / sz') hi (k % sz') (by rw [(hc _ hi).2]; exact Nat.mod_lt _ hsz)
    rw [add_at]
    have e3 : k / sz' * sz' + k % sz' = k := by rw [Nat.mul_comm]; exact Nat.div_add_mod k sz'
    rwa [Nat.add_assoc, e3] at this

theorem GV.src_nils {sz : Nat} {x : Value} {tx : TypeId} (h : GV B ob g w .nils x) (hu : ∃ e, P.underlying tx = some (.slice e)) : Src P sz tx x 0 [] w := by
  obtain ⟨e, hu⟩ := hu
  have hr := h.rep
  cases hr with
  | @nils a =>
    cases a with
    | none => exact Src.ofNil w hu 0
    | some a => exact Src.ofSlice w hu a 0 0 [] (by simp) (fun j u h => by simp at h) (fun u h => by simp at h)

/-- A token object more; its handle stands at the end of block b, or there is none. -/
theorem HInv.pushTok (H : HInv B w0 ob g w) {n sz : Nat} (h0 : 0 < sz) (kb : Option Nat) (hk : ∀ b, kb = some b → b < w.heap.size ∧ (∀ i, g.tb i ≠ some b) ∧ (∀ i, g.kb i ≠ some b)) :
    HInv B w0 (ob ++ [.tok n sz]) { g with kb := fun i => if i = ob.length then kb else g.kb i } w ∧ Pres B ob g w (ob ++ [.tok n sz]) { g with kb := fun i => if i = ob.length then kb else g.kb i } w := by
  have hp : Pres B ob g w (ob ++ [.tok n sz]) { g with kb := fun i => if i = ob.length then kb else g.kb i } w := by
    refine Pres.of (by simp) (fun _ _ _ => rfl) (fun _ => Nat.le_refl _) (fun i b hi h => h) (fun t m s h => ⟨m, ?_, Nat.le_refl _, fun _ x hc => ?_⟩)
    · rw [nthO_app (nthO_ne_gone (by rw [h]; simp))]; exact h
    · have ht := nthO_ne_gone (ob := ob) (i := t) (by rw [h]; simp)
      rcases hc with ⟨a, rfl, rfl⟩ | ⟨b1, o1, cap, arr1, ty1, q1, rfl, q3⟩
      · exact .inl ⟨a, rfl, rfl⟩
      · exact .inr ⟨b1, o1, cap, arr1, ty1, by show (if t = ob.length then kb else g.kb t) = _; rw [if_neg (by omega)]; exact q1, rfl, q3⟩
  refine ⟨⟨H.below, H.hB, H.fz, H.f0, H.c0, fun i b h => by have := H.tbl i b h; simp; omega, fun i b h => ?_, H.inj, fun i j b h h' => ?_, fun i j b h h' => ?_, fun i hi => ?_⟩, hp⟩
  · simp only at h
    split at h
    · have := hk b h; simp; omega
    · have := H.kbl i b h; simp; omega
  · simp only at h h'
    split at h <;> split at h'
    · omega
    · exact absurd h' ((hk b h).2.2 j)
    · exact absurd h ((hk b h').2.2 i)
    · exact H.injk _ _ _ h h'
  · simp only at h h'
    split at h'
    · exact (hk b h').2.1 i h
    · exact H.apart _ _ _ h h'
  · by_cases e : i = ob.length
    · subst e
      simp only [List.getElem_concat_length]
      exact ⟨h0, H.tb_none (Nat.le_refl _)⟩
    · have hi' : i < ob.length := by simp at hi; omega
      rw [List.getElem_append_left hi']
      exact (H.obs i hi').keep hp (rep_keep (fun _ _ _ => rfl) fun _ => Nat.le_refl _) (fun b hb => ⟨hb, rfl, rfl⟩) (fun h => h) (fun m b q1 q2 => ⟨q2, by rw [nthO_app (H.tbl m b q2).1]; exact q1, rfl⟩)

/-- A new block with a list's cells at its head, and a handle at their end. -/
theorem newRow_own (H : HInv B w0 ob g w) {sz : Nat} (h0 : 0 < sz) {es : List VV} {xs rest : List Value} (hfl : FlatR w g.F g.tb sz es xs) {cap : Nat} (hcap : es.length ≤ cap) (hrest : cap * sz ≤ xs.length + rest.length) (ty : TypeId) (hpos : 0 < es.length ∨ cap = 0) :
    ∃ g', HInv B w0 (ob ++ [.tok es.length sz]) g' (w.alloc (.cells (xs ++ rest).toArray ty)) ∧ Pres B ob g w (ob ++ [.tok es.length sz]) g' (w.alloc (.cells (xs ++ rest).toArray ty)) ∧
      GV B (ob ++ [.tok es.length sz]) g' (w.alloc (.cells (xs ++ rest).toArray ty)) (.sl es (ob.length + 2)) (.slice (some ⟨w.heap.size, 0, none⟩) es.length cap) := by
  have H1 := H.alloc (.cells (xs ++ rest).toArray ty) (es.length * sz)
  have p1 := Pres.alloc H (.cells (xs ++ rest).toArray ty) (es.length * sz)
  obtain ⟨H2, p2⟩ := H1.pushTok (n := es.length) h0 (some w.heap.size) (fun b hb => by
    cases hb
    exact ⟨by simp, fun i h => by have := (H.tbl i _ h).2; omega, fun i h => by have := (H.kbl i _ h).2; omega⟩)
  refine ⟨_, H2, p1.trans p2, ?_, ?_, ?_⟩
  · refine hfl.rep h0 (fun b o h => World.cell?_alloc_lt w _ _ (H.F_pos h)) (fun b => ?_) (fun k z hz => ?_) hcap ?_
    · by_cases e : b = w.heap.size
      · subst e; rw [H.fz _ (Nat.le_refl _)]; exact Nat.zero_le _
      · show g.F b ≤ updF _ _ _ _; rw [updF_ne _ _ e]; exact Nat.le_refl _
    · rw [Nat.zero_add, World.cell?_alloc_new]
      have hk := (List.getElem?_eq_some_iff.1 hz).1
      simp [List.getElem?_append_left hk, hz]
    · show 0 + es.length * sz ≤ updF g.F w.heap.size (es.length * sz) w.heap.size
      simp
  · refine Hnd.sl.2 ⟨es.length, sz, nthO_new _ _, h0, Nat.le_refl _, fun _ => ?_, fun i hi => (hfl.2 i hi).2.1⟩
    by_cases hz : 0 < es.length
    · refine .inr ⟨w.heap.size, 0, cap, (xs ++ rest).toArray, ty, by simp, rfl, hcap, heap_alloc_at _ _, ?_, ?_, H.hB, hz, rfl⟩
      · simp; exact hrest
      · show updF g.F w.heap.size (es.length * sz) w.heap.size = _; simp
    · have hc0 := hpos.resolve_left hz
      have he0 : es.length = 0 := by omega
      exact .inl ⟨_, by rw [hc0, he0], he0⟩
  · simp [VV.ids]


theorem setRow_cell_ne {w : World} {b b' o : Nat} {arr : Array Value} (h : b' ≠ b) : (w.setRow b arr).cell? ⟨b', o, none⟩ = w.cell? ⟨b', o, none⟩ := by
  simp only [World.cell?, setRow_other w b b' arr h]

def appIs (P : Program) (t tx : TypeId) (sz bytes : Nat) : Bool :=
  match P.underlying t, P.underlying tx with
  | some (.slice e), some (.slice _) => match P.info? e with
    | some i => i.size == sz && i.bytes == bytes && 0 < sz && 0 < bytes && (match i.zero with | some z => z.cells.size == sz | none => false)
    | none => false
  | _, _ => false

/-- The same block, its handle further on. -/
theorem HInv.grow (H : HInv B w0 ob g w) {t n k sz b o : Nat} {arr arr' : Array Value} {ty : TypeId} (ht : nthO ob t = .tok n sz) (hkb : g.kb t = some b) (hb : w.heap[b]? = some (.cells arr ty (0, 0))) (hB : B ≤ b) (hF : g.F b = o + n * sz)
    (hsz : arr'.size = arr.size) (hold : ∀ j, j < o + n * sz → arr'[j]? = arr[j]?) (h0 : 0 < sz) :
    HInv B w0 (ob.set t (.tok (n + k) sz)) { g with F := updF g.F b (o + (n + k) * sz) } (w.setRow b arr') ∧ Pres B ob g w (ob.set t (.tok (n + k) sz)) { g with F := updF g.F b (o + (n + k) * sz) } (w.setRow b arr') := by
  have htl := nthO_ne_gone (ob := ob) (i := t) (by rw [ht]; simp)
  have hblt := lt_of_heap hb
  have hw : ∀ b' o', o' < g.F b' → (w.setRow b arr').cell? ⟨b', o', none⟩ = w.cell? ⟨b', o', none⟩ := fun b' o' h => by
    by_cases e : b' = b
    · subst e
      simp only [World.cell?, setRow_heap' hb, hb]
      simp only [Option.isSome_none, Bool.false_eq_true, if_false]
      exact hold o' (by omega)
    · exact setRow_cell_ne e
  have hmono : n * sz ≤ (n + k) * sz := Nat.mul_le_mul_right _ (by omega)
  have hFm : ∀ b', g.F b' ≤ updF g.F b (o + (n + k) * sz) b' := fun b' => by
    by_cases e : b' = b
    · subst e; rw [updF_same]; omega
    · rw [updF_ne _ _ e]; exact Nat.le_refl _
  have hp : Pres B ob g w (ob.set t (.tok (n + k) sz)) { g with F := updF g.F b (o + (n + k) * sz) } (w.setRow b arr') := by
    refine Pres.of (by simp) hw hFm (fun _ _ _ h => h) fun t' m s h => ?_
    by_cases e : t' = t
    · subst e
      rw [ht] at h; cases h
      refine ⟨n + k, by rw [nthO_set, if_pos ⟨rfl, htl⟩], by omega, fun hk x hc => ?_⟩
      obtain rfl : k = 0 := by omega
      rcases hc with ⟨a, rfl, rfl⟩ | ⟨b1, o1, cap, arr1, ty1, q1, rfl, q3, q4, q5, q6, q7⟩
      · exact .inl ⟨a, rfl, rfl⟩
      · rw [hkb] at q1; cases q1
        rw [hb] at q4; cases q4
        exact .inr ⟨b, o1, cap, arr', ty, hkb, rfl, q3, setRow_heap' hb, by omega, by show updF _ _ _ _ = _; rw [updF_same]; simp only [Nat.add_zero]; omega, q7⟩
    · refine ⟨m, by rw [nthO_set, if_neg (fun q => e q.1)]; exact h, Nat.le_refl _, fun _ x hc => ?_⟩
      rcases hc with ⟨a, rfl, rfl⟩ | ⟨b1, o1, cap, arr1, ty1, q1, rfl, q3, q4, q5, q6, q7⟩
      · exact .inl ⟨a, rfl, rfl⟩
      · have hne : b1 ≠ b := fun q => e (H.injk _ _ _ q1 (q ▸ hkb))
        exact .inr ⟨b1, o1, cap, arr1, ty1, q1, rfl, q3, by rw [setRow_other w b b1 arr' hne]; exact q4, q5, by show updF _ _ _ _ = _; rw [updF_ne _ _ hne]; exact q6, q7⟩
  refine ⟨⟨?_, by rw [setRow_size]; exact H.hB, fun b1 hb1 => ?_, fun b1 hb1 => ?_, H.c0, fun i b1 h => by simpa using H.tbl i b1 h, fun i b1 h => by simpa using H.kbl i b1 h, H.inj, H.injk, H.apart, fun i hi => ?_⟩, hp⟩
  · exact H.below.trans ⟨⟨rfl, rfl, rfl, by rw [setRow_size]; exact Nat.le_refl _, fun q hq => setRow_other w b q arr' (by omega)⟩, Nat.le_refl _⟩
  · rw [setRow_size] at hb1
    show updF _ _ _ _ = _
    rw [updF_ne _ _ (by omega)]; exact H.fz b1 hb1
  · show updF _ _ _ _ = _
    rw [updF_ne _ _ (by omega)]; exact H.f0 b1 hb1
  · have hi' : i < ob.length := by simpa using hi
    by_cases e : i = t
    · subst e
      simp only [List.getElem_set_self]
      have := H.obs i hi'
      rw [← nthO_lt hi', ht] at this
      exact ⟨h0, this.2⟩
    · rw [List.getElem_set_ne (fun q => e q.symm)]
      refine (H.obs i hi').keep hp (rep_keep hw hFm) (fun b1 hb1 => ?_) (fun h => h) (fun m b1 q1 q2 => ⟨q2, by rw [nthO_set, if_neg (fun q => by have q3 := q.1; subst q3; rw [ht] at q1; cases q1)]; exact q1, setRow_other w b b1 arr' fun q => H.apart _ _ _ q2 (q ▸ hkb)⟩)
      have hne : b1 ≠ b := fun q => H.apart _ _ _ hb1 (q ▸ hkb)
      exact ⟨hb1, by show updF _ _ _ _ = _; rw [updF_ne _ _ hne], setRow_other w b b1 arr' hne⟩

end
end Go.V

/- V, part 12: append; literals of slices. -/
set_option linter.unusedVariables false
set_option linter.unusedSimpArgs false
namespace Go.V
open Go.RowKit

section
variable {P : Program} {B : Nat} {w0 : W0} {ob : List Obj} {g : Gh} {w : World} {env : List (Nat × VV)} {ρ : Operand → Value}

/-- A handle moves to the end of another block, its count grown. -/
theorem HInv.moveTok (H : HInv B w0 ob g w) {t n k sz b : Nat} (ht : nthO ob t = .tok n sz) (hk : 0 < k) (h0 : 0 < sz) (hb : b < w.heap.size ∧ (∀ i, g.tb i ≠ some b) ∧ (∀ i, g.kb i ≠ some b)) :
    HInv B w0 (ob.set t (.tok (n + k) sz)) { g with kb := upd g.kb t b } w ∧ Pres B ob g w (ob.set t (.tok (n + k) sz)) { g with kb := upd g.kb t b } w := by
  have htl := nthO_ne_gone (ob := ob) (i := t) (by rw [ht]; simp)
  have hp : Pres B ob g w (ob.set t (.tok (n + k) sz)) { g with kb := upd g.kb t b } w := by
    refine Pres.of (by simp) (fun _ _ _ => rfl) (fun _ => Nat.le_refl _) (fun _ _ _ h => h) fun t' m s h => ?_
    by_cases e : t' = t
    · subst e
      rw [ht] at h; cases h
      exact ⟨n + k, by rw [nthO_set, if_pos ⟨rfl, htl⟩], by omega, fun hk => by omega⟩
    · refine ⟨m, by rw [nthO_set, if_neg (fun q => e q.1)]; exact h, Nat.le_refl _, fun _ x hc => ?_⟩
      rcases hc with ⟨a, rfl, rfl⟩ | ⟨b1, o1, cap, arr1, ty1, q1, rfl, q3⟩
      · exact .inl ⟨a, rfl, rfl⟩
      · exact .inr ⟨b1, o1, cap, arr1, ty1, by show upd _ _ _ _ = _; rw [upd_ne _ _ e]; exact q1, rfl, q3⟩
  have hkb : ∀ i b', upd g.kb t b i = some b' → (i = t ∧ b' = b) ∨ (i ≠ t ∧ g.kb i = some b') := fun i b' h => by
    by_cases e : i = t
    · subst e; simp at h; exact .inl ⟨rfl, h.symm⟩
    · rw [upd_ne _ _ e] at h; exact .inr ⟨e, h⟩
  refine ⟨⟨H.below, H.hB, H.fz, H.f0, H.c0, fun i b' h => by simpa using H.tbl i b' h, fun i b' h => ?_, H.inj, fun i j b' h h' => ?_, fun i j b' h h' => ?_, fun i hi => ?_⟩, hp⟩
  · rcases hkb i b' h with ⟨rfl, rfl⟩ | ⟨_, h⟩
    · simp; exact ⟨htl, hb.1⟩
    · simpa using H.kbl i b' h
  · rcases hkb i b' h with ⟨e1, e2⟩ | ⟨_, q⟩ <;> rcases hkb j _ h' with ⟨e3, e4⟩ | ⟨_, q'⟩
    · omega
    · exact absurd (e2 ▸ q') (hb.2.2 j)
    · exact absurd (e4 ▸ q) (hb.2.2 i)
    · exact H.injk _ _ _ q q'
  · rcases hkb j b' h' with ⟨rfl, rfl⟩ | ⟨_, h'⟩
    · exact hb.2.1 i h
    · exact H.apart _ _ _ h h'
  · have hi' : i < ob.length := by simpa using hi
    by_cases e : i = t
    · subst e
      simp only [List.getElem_set_self]
      have := H.obs i hi'
      rw [← nthO_lt hi', ht] at this
      exact ⟨h0, this.2⟩
    · rw [List.getElem_set_ne (fun q => e q.symm)]
      exact (H.obs i hi').keep hp (rep_keep (fun _ _ _ => rfl) fun _ => Nat.le_refl _) (fun b1 hb1 => ⟨hb1, rfl, rfl⟩) (fun h => h) (fun m b1 q1 q2 => ⟨q2, by rw [nthO_set, if_neg (fun q => by have q3 := q.1; subst q3; rw [ht] at q1; cases q1)]; exact q1, rfl⟩)

theorem newRow_move (H : HInv B w0 ob g w) {t n k sz : Nat} (ht : nthO ob t = .tok n sz) (hk : 0 < k) (h0 : 0 < sz) {es : List VV} {xs rest : List Value} (hn : es.length = n + k) (hfl : FlatR w g.F g.tb sz es xs) {cap : Nat} (hcap : es.length ≤ cap) (hrest : cap * sz ≤ xs.length + rest.length) (ty : TypeId) :
    ∃ g', HInv B w0 (ob.set t (.tok (n + k) sz)) g' (w.alloc (.cells (xs ++ rest).toArray ty)) ∧ Pres B ob g w (ob.set t (.tok (n + k) sz)) g' (w.alloc (.cells (xs ++ rest).toArray ty)) ∧
      GV B (ob.set t (.tok (n + k) sz)) g' (w.alloc (.cells (xs ++ rest).toArray ty)) (.sl es (t + 2)) (.slice (some ⟨w.heap.size, 0, none⟩) es.length cap) := by
  have htl := nthO_ne_gone (ob := ob) (i := t) (by rw [ht]; simp)
  have H1 := H.alloc (.cells (xs ++ rest).toArray ty) (es.length * sz)
  have p1 := Pres.alloc H (.cells (xs ++ rest).toArray ty) (es.length * sz)
  obtain ⟨H2, p2⟩ := H1.moveTok (b := w.heap.size) ht hk h0 ⟨by simp, fun i h => by have := (H.tbl i _ h).2; omega, fun i h => by have := (H.kbl i _ h).2; omega⟩
  refine ⟨_, H2, p1.trans p2, ?_, ?_, ?_⟩
  · refine hfl.rep h0 (fun b o h => World.cell?_alloc_lt w _ _ (H.F_pos h)) (fun b => ?_) (fun k z hz => ?_) hcap ?_
    · by_cases e : b = w.heap.size
      · subst e; rw [H.fz _ (Nat.le_refl _)]; exact Nat.zero_le _
      · show g.F b ≤ updF _ _ _ _; rw [updF_ne _ _ e]; exact Nat.le_refl _
    · rw [Nat.zero_add, World.cell?_alloc_new]
      have hk := (List.getElem?_eq_some_iff.1 hz).1
      simp [List.getElem?_append_left hk, hz]
    · show 0 + es.length * sz ≤ updF g.F w.heap.size (es.length * sz) w.heap.size
      simp
  · refine Hnd.sl.2 ⟨n + k, sz, by rw [nthO_set, if_pos ⟨rfl, htl⟩], h0, by omega, fun _ => .inr ⟨w.heap.size, 0, cap, (xs ++ rest).toArray, ty, by simp, by rw [hn], by omega, heap_alloc_at _ _, ?_, ?_, H.hB, by omega⟩, fun i hi => (hfl.2 i hi).2.1⟩
    · simp; exact hrest
    · show updF g.F w.heap.size (es.length * sz) w.heap.size = _; simp [hn]
  · simp [VV.ids]; omega

theorem appIs_inv {t tx : TypeId} {sz bytes : Nat} (h : appIs P t tx sz bytes = true) : ∃ e i z, P.underlying t = some (.slice e) ∧ (∃ e', P.underlying tx = some (.slice e')) ∧ P.info? e = some i ∧ i.zero = some z ∧ i.size = sz ∧ i.bytes = bytes ∧ 0 < sz ∧ 0 < bytes ∧ z.cells.size = sz := by
  unfold appIs at h
  cases hu : P.underlying t with
  | none => simp [hu] at h
  | some d =>
  cases hu' : P.underlying tx with
  | none => cases d <;> simp [hu, hu'] at h
  | some d' =>
  cases d <;> cases d' <;> simp only [hu, hu', Bool.false_eq_true] at h
  rename_i e e'
  cases hi : P.info? e with
  | none => simp [hi] at h
  | some i =>
    simp only [hi, Bool.and_eq_true, beq_iff_eq, decide_eq_true_eq] at h
    obtain ⟨⟨⟨⟨h1, h2⟩, h3⟩, h4⟩, h5⟩ := h
    cases hz : i.zero with
    | none => simp [hz] at h5
    | some z => simp [hz] at h5; exact ⟨e, i, z, rfl, ⟨e', rfl⟩, hi, hz, h1, h2, h3, h4, h5⟩

theorem flat_get {sz : Nat} : ∀ {es : List VV}, (∀ e ∈ es, e.cells.length = sz) → ∀ j, j < (es.flatMap VV.cells).length → ∃ i k, i < es.length ∧ k < sz ∧ j = i * sz + k ∧ ∀ (hi : i < es.length) (hk : k < es[i].cells.length), (es.flatMap VV.cells)[j]? = some (es[i].cells[k])
  | [], _, j, h => absurd h (by simp)
  | e :: r, hs, j, h => by
    have he := hs e (by simp)
    by_cases hj : j < sz
    · exact ⟨0, j, by simp, hj, by simp, fun hi hk => by
        simp only [List.flatMap_cons, List.getElem_cons_zero]
        rw [List.getElem?_append_left (by omega), List.getElem?_eq_getElem]⟩
    · simp only [List.flatMap_cons, List.length_append] at h
      obtain ⟨i, k, h1, h2, h3, h4⟩ := flat_get (es := r) (fun e h => hs e (by simp [h])) (j - sz) (by omega)
      refine ⟨i + 1, k, by simpa using h1, h2, by rw [Nat.add_mul]; omega, fun hi hk => ?_⟩
      simp only [List.flatMap_cons, List.getElem_cons_succ] at hk ⊢
      rw [List.getElem?_append_right (by omega), he]
      exact h4 h1 hk

theorem flat_len {sz : Nat} : ∀ {es : List VV}, (∀ e ∈ es, e.cells.length = sz) → (es.flatMap VV.cells).length = es.length * sz
  | [], _ => by simp
  | e :: r, hs => by
    simp only [List.flatMap_cons, List.length_append, hs e (by simp), flat_len (es := r) (fun e h => hs e (by simp [h])), List.length_cons, Nat.add_mul]
    omega

/-- append, room or not. -/
theorem op_app (H : HInv B w0 ob g w) (R : Reads B ob g w env ρ) {sz bytes : Nat} {x y : Opd} {x' y' : Operand} {t tx ty : TypeId} (hx : mO x x' = true) (hy : mO y y' = true) (ht : appIs P t tx sz bytes = true) {v : VV} {ob' : List Obj}
    (hv : (VOp.app sz bytes x y).ev ⟨env, ob⟩ = some (v, ob')) : Out P B w0 ob g w (do pure (.value (← Builtin.append_ #[t, tx] ty #[ρ x', ρ y']))) v ob' := by
  obtain ⟨e, i, z, hu, hu', hi, hz, rfl, rfl, h0, hb0, hzs⟩ := appIs_inv ht
  have h1 := R.opd hx
  have h2 := R.opd hy
  simp only [VOp.ev] at hv
  split at hv
  · cases hv
  rename_i ys hys
  split at hv
  · cases hv
  rename_i hhd
  have hhd : hdSz ys i.size = true := by cases q : hdSz ys i.size with | true => rfl | false => exact absurd q hhd
  obtain ⟨zs, hsrc, hflz⟩ : ∃ zs, Src P i.size tx (ρ y') ys.length zs w ∧ FlatR w g.F g.tb i.size ys zs := by
    split at hys
    · rename_i ys' tk e2
      cases hys
      rw [e2] at h2
      exact h2.src h0 hhd hu'
    · rename_i e2
      cases hys
      rw [e2] at h2
      exact ⟨[], h2.src_nils hu', FlatR.nil⟩
    · cases hys
  have hgrow : ∀ (base : Option Addr) (sLen sCap : Nat) (olds : List Value), (Builtin.firstCells i.size sLen (.slice base sLen sCap)).run P w.drew = .ok olds.toArray w.drew → sCap < sLen + ys.length → (sLen + ys.length) * i.bytes ≤ 35184372088832 →
      ∃ (cap : Nat) (rest : List Value), sLen + ys.length ≤ cap ∧ rest.length = (cap - (sLen + ys.length)) * i.size ∧
        (Builtin.append_ #[t, tx] ty #[.slice base sLen sCap, ρ y']).run P w = .ok (.slice (some ⟨w.heap.size, 0, none⟩) (sLen + ys.length) cap) (w.drew.alloc (.cells (olds ++ zs ++ rest).toArray e)) := by
    intro base sLen sCap olds hold hlt hbd
    have h63 : sLen + ys.length ≤ 35184372088832 := Nat.le_trans (Nat.le_mul_of_pos_right _ hb0) hbd
    have := run_append_grow_src (P := P) w t tx ty e i z hu hi hz base sLen sCap olds hold (ρ y') ys.length zs hsrc hlt (by omega) (growslice_fits hlt (by omega))
    refine ⟨grownCap w (sLen + ys.length) sCap e, (Builtin.zeroCells z.cells (grownCap w (sLen + ys.length) sCap e - (sLen + ys.length))).toList, grownCap_ge _ _ _ _, ?_, ?_⟩
    · rw [Array.length_toList, size_zeroCells, hzs]
    · rw [this]
      congr 4
      apply Array.ext'
      simp
  split at hv
  · rename_i es tk e1
    rw [e1] at h1
    split at hv
    · rename_i n s hto
      split at hv
      · rename_i hcond
        obtain ⟨hn, hs, hbd⟩ := hcond
        subst hs
        simp only [Option.some.injEq, Prod.mk.injEq] at hv
        obtain ⟨rfl, rfl⟩ := hv
        obtain ⟨n', s', hto', _, _, hcur, hel⟩ := Hnd.sl.1 h1.hnd
        rw [hto] at hto'; cases hto'
        have hhe : hdSz es i.size = true := by
          cases es with
          | nil => rfl
          | cons a r => have := hel 0 (by simp); simpa [hdSz] using this
        obtain ⟨xs, hsx, hflx⟩ := h1.src h0 hhe (tx := t) ⟨e, hu⟩
        rcases hcur hn with ⟨a, hxa, hn0⟩ | ⟨b, o, cap, arr, ty1, hkb, hxb, hcap, hheap, hfit, hF, hB⟩
        · -- no room at all
          subst hn0
          obtain rfl : es = [] := List.eq_nil_of_length_eq_zero hn
          by_cases hk : ys = []
          · subst hk
            refine ⟨.slice a 0 0, g, w, .inl ?_, ?_, ?_, ?_⟩
            · have hl := hsrc.len w
              have hc := hsrc.cells
              have hz0 : zs = [] := List.eq_nil_of_length_eq_zero (by simpa using hsrc.newsLen)
              subst hz0
              obtain ⟨e', hu'⟩ := hu'
              simp only [List.length_nil] at hl hc
              have : (Builtin.append_ #[t, tx] ty #[.slice a 0 0, ρ y']).run P w = .ok (.slice a 0 0) w := by
                simp [Builtin.append_, run_underlying hu, run_underlying hu', sizeOf, typeInfo, hi, hl, hc]
                cases a <;> simp [storeCells]
              simp [hxa, this]
            · have : ob.set tk (.tok (0 + ([] : List VV).length) i.size) = ob := by
                have htl := nthO_ne_gone (ob := ob) (i := tk) (by rw [hto]; simp)
                rw [nthO_lt htl] at hto
                simp [← hto]
              rw [this]; exact H
            · have : ob.set tk (.tok (0 + ([] : List VV).length) i.size) = ob := by
                have htl := nthO_ne_gone (ob := ob) (i := tk) (by rw [hto]; simp)
                rw [nthO_lt htl] at hto
                simp [← hto]
              rw [this]; rw [← hxa]; simpa using h1
            · have : ob.set tk (.tok (0 + ([] : List VV).length) i.size) = ob := by
                have htl := nthO_ne_gone (ob := ob) (i := tk) (by rw [hto]; simp)
                rw [nthO_lt htl] at hto
                simp [← hto]
              rw [this]; exact Pres.refl _ _ _ _
          · have hk' : 0 < ys.length := by
              rcases Nat.eq_zero_or_pos ys.length with q | q
              · exact absurd (List.eq_nil_of_length_eq_zero q) hk
              · exact q
            obtain ⟨cap', rest, q1, q2, q3⟩ := hgrow a 0 0 [] (by cases a <;> simp [Builtin.firstCells, loadCells, loadCellsFrom]) (by omega) (by simpa using hbd)
            have Hd := H.drew
            have pd := Pres.drew H
            obtain ⟨g', H', p', hg'⟩ := newRow_move Hd (k := ys.length) (n := 0) (es := ys) (xs := zs) (rest := rest) (cap := cap') hto hk' h0 (by omega) (hflz.keep (fun _ _ _ => rfl) fun _ => Nat.le_refl _) (by omega) (by rw [q2, hflz.1, ← Nat.add_mul]; apply Nat.mul_le_mul_right; omega) e
            refine ⟨.slice (some ⟨w.heap.size, 0, none⟩) (0 + ys.length) cap', g', _, .inl ?_, H', ?_, pd.trans p'⟩
            · simp only [hxa, Sem.run_bind, q3, Result.andThen_ok, Sem.run_pure, List.nil_append]
            · simpa using hg'
        · by_cases hroom : es.length + ys.length ≤ cap
          · -- in place
            have hlz := hflz.1
            have h63 : n * i.size + zs.length ≤ cap * i.size := by rw [hlz, ← Nat.add_mul]; apply Nat.mul_le_mul_right; omega
            obtain ⟨arr', harr'⟩ : ∃ arr' : Array Value, arr' = (arr.toList.take (o + n * i.size + 0) ++ zs ++ arr.toList.drop (o + n * i.size + 0 + zs.length)).toArray := ⟨_, rfl⟩
            have hst := run_storeCells_at (P := P) b (o + n * i.size) ty1 zs 0 arr w hheap (by omega) hflz.one
            rw [← harr'] at hst
            have hrun : (Builtin.append_ #[t, tx] ty #[.slice (some ⟨b, o, none⟩) n cap, ρ y']).run P w = .ok (.slice (some ⟨b, o, none⟩) (n + ys.length) cap) (w.setRow b arr') := by
              have hroom' : n + ys.length ≤ cap := by omega
              obtain ⟨e', hu'⟩ := hu'
              simp [Builtin.append_, run_underlying hu, run_underlying hu', sizeOf, typeInfo, hi, hsrc.len, hsrc.cells, hroom', add_at, hst]
            have hsz' : arr'.size = arr.size := by rw [harr']; simp; omega
            have hget : ∀ j, j < arr'.size → arr'[j]? = if j < o + n * i.size then arr[j]? else if j < o + n * i.size + zs.length then zs[j - (o + n * i.size)]? else arr[j]? := fun j hj => by
              rw [harr']
              simp only [Nat.add_zero, List.getElem?_toArray, List.getElem?_append, List.length_append, List.length_take, Array.length_toList, List.getElem?_take, List.getElem?_drop, Array.getElem?_toList]
              by_cases q1 : j < o + n * i.size
              · rw [if_pos (by omega), if_pos (by omega), if_pos q1, if_pos q1]
              · by_cases q2 : j < o + n * i.size + zs.length
                · rw [if_pos (by omega), if_neg (by omega), if_neg q1, if_pos q2]
                  congr 1; omega
                · rw [if_neg (by omega), if_neg q1, if_neg q2]
                  congr 1; omega
            obtain ⟨H', p'⟩ := H.grow (arr' := arr') (k := ys.length) hto hkb hheap hB.1 hF hsz' (fun j hj => by rw [hget j (by rw [hsz']; have : n * i.size ≤ cap * i.size := Nat.mul_le_mul_right _ hcap; omega), if_pos hj]) h0
            refine ⟨.slice (some ⟨b, o, none⟩) (n + ys.length) cap, _, w.setRow b arr', .inl ?_, H', ?_, p'⟩
            · simp only [hxb, Sem.run_bind, hrun, Result.andThen_ok, Sem.run_pure]
            · have hg1 := p' _ _ h1
              have hcellw : ∀ b' o', o' < g.F b' → (w.setRow b arr').cell? ⟨b', o', none⟩ = w.cell? ⟨b', o', none⟩ := fun b' o' hlt => by
                by_cases e3 : b' = b
                · subst e3
                  simp only [World.cell?, setRow_heap' hheap, hheap]
                  simp only [Option.isSome_none, Bool.false_eq_true, if_false]
                  have hb2 : n * i.size ≤ cap * i.size := Nat.mul_le_mul_right _ hcap
                  rw [hget o' (by omega), if_pos (by omega)]
                · exact setRow_cell_ne e3
              have hFle : ∀ b', g.F b' ≤ updF g.F b (o + (n + ys.length) * i.size) b' := fun b' => by
                by_cases e3 : b' = b
                · subst e3; rw [updF_same, hF]; have : n * i.size ≤ (n + ys.length) * i.size := Nat.mul_le_mul_right _ (by omega); omega
                · rw [updF_ne _ _ e3]; exact Nat.le_refl _
              have hxs : ∀ (k : Nat) u, xs[k]? = some u → w.cell? ⟨b, o + k, none⟩ = some u := fun k u hk => by
                have hc := hsx.cells
                rw [hxb] at hc
                have hkl := (List.getElem?_eq_some_iff.1 hk).1
                have hlx := hflx.1
                -- the cells that were read are those of the block
                have hread : ∀ j, j < n * i.size → w.cell? ⟨b, o + j, none⟩ = arr[o + j]? := fun j hj => by simp [World.cell?, hheap]
                have hb2 : n * i.size ≤ cap * i.size := Nat.mul_le_mul_right _ hcap
                have hl := run_loadCells_at (P := P) w b o (n * i.size) ((List.range (n * i.size)).map fun j => arr.getD (o + j) undef) (by simp) (fun j hj => by
                  simp at hj
                  rw [hread j hj]
                  simp [show o + j < arr.size by omega])
                rw [show es.length = n from hn] at hc
                simp only [Builtin.firstCells] at hc
                rw [hl] at hc
                simp only [Result.ok.injEq, and_true] at hc
                have : xs = (List.range (n * i.size)).map fun j => arr.getD (o + j) undef := by
                  have := congrArg Array.toList hc
                  simpa using this.symm
                rw [this] at hk
                rw [hn] at hlx
                have hkn : k < n * i.size := by omega
                rw [hread k hkn]
                simp [hkn, show o + k < arr.size by omega] at hk
                simp [hk, show o + k < arr.size by omega]
              have hfa := hflx.append hflz
              have hlen : (es ++ ys).length = n + ys.length := by rw [List.length_append, hn]
              refine ⟨?_, ?_, ?_⟩
              · have := hfa.rep (w' := w.setRow b arr') (F' := updF g.F b (o + (n + ys.length) * i.size)) (tb' := g.tb) h0 hcellw hFle (b := b) (o := o) (cap := cap) (t := tk + 2) (fun k u hk => ?_) (by omega) (by rw [updF_same, hlen]; exact Nat.le_refl _)
                · rw [hlen] at this; exact this
                · rw [List.getElem?_append] at hk
                  split at hk
                  · rename_i hkx
                    rw [hcellw _ _ (by have := hflx.1; rw [hn] at this; omega)]
                    exact hxs k u hk
                  · rename_i hkx
                    have hlx := hflx.1
                    rw [hn] at hlx
                    have hkz := (List.getElem?_eq_some_iff.1 hk).1
                    simp only [World.cell?, setRow_heap' hheap]
                    simp only [Option.isSome_none, Bool.false_eq_true, if_false]
                    rw [hget (o + k) (by omega), if_neg (by omega), if_pos (by omega)]
                    rw [show o + k - (o + n * i.size) = k - xs.length by omega]
                    exact hk
              · have htl := nthO_ne_gone (ob := ob) (i := tk) (by rw [hto]; simp)
                refine Hnd.sl.2 ⟨n + ys.length, i.size, by rw [nthO_set, if_pos ⟨rfl, htl⟩], h0, by omega, fun _ => .inr ⟨b, o, cap, arr', ty1, hkb, rfl, by omega, setRow_heap' hheap, by omega, by show updF _ _ _ _ = _; rw [updF_same], hB.1, by omega⟩, fun q hq => (hfa.2 q hq).2.1⟩
              · have htl := nthO_ne_gone (ob := ob) (i := tk) (by rw [hto]; simp)
                simp [VV.ids]; omega
          · -- a new block
            have hk' : 0 < ys.length := by omega
            have hold : (Builtin.firstCells i.size n (.slice (some ⟨b, o, none⟩) n cap)).run P w.drew = .ok xs.toArray w.drew := by
              have := hsx.cellsD
              rw [hxb, hn] at this
              exact this
            obtain ⟨cap', rest, q1, q2, q3⟩ := hgrow (some ⟨b, o, none⟩) n cap xs hold (by omega) (by rw [← hn]; exact hbd)
            have Hd := H.drew
            have pd := Pres.drew H
            have hfa := hflx.append hflz
            have hlen : (es ++ ys).length = n + ys.length := by rw [List.length_append, hn]
            obtain ⟨g', H', p', hg'⟩ := newRow_move Hd (k := ys.length) (n := n) (es := es ++ ys) (xs := xs ++ zs) (rest := rest) (cap := cap') hto hk' h0 hlen (hfa.keep (fun _ _ _ => rfl) fun _ => Nat.le_refl _) (by omega)
              (by rw [q2, hfa.1, ← Nat.add_mul]; apply Nat.mul_le_mul_right; omega) e
            refine ⟨.slice (some ⟨w.heap.size, 0, none⟩) (n + ys.length) cap', g', _, .inl ?_, H', ?_, pd.trans p'⟩
            · simp only [hxb, Sem.run_bind, q3, Result.andThen_ok, Sem.run_pure]
            · rw [hlen] at hg'; exact hg'
      · cases hv
    · cases hv
  · rename_i e1
    rw [e1] at h1
    split at hv
    · rename_i hbd
      simp only [Option.some.injEq, Prod.mk.injEq] at hv
      obtain ⟨rfl, rfl⟩ := hv
      have hr := h1.rep
      revert hr
      generalize hq : ρ x' = q
      intro hr
      cases hr with
      | @nils a =>
        by_cases hk : ys = []
        · subst hk
          obtain ⟨H2, p2⟩ := H.pushTok (n := 0) h0 none (by simp)
          refine ⟨.slice a 0 0, _, w, .inl ?_, H2, ⟨.slE, Hnd.sl.2 ⟨0, i.size, nthO_new _ _, h0, Nat.le_refl _, fun _ => .inl ⟨a, rfl, rfl⟩, fun j hj => absurd hj (by simp)⟩, by simp [VV.ids]⟩, p2⟩
          have hl := hsrc.len w
          have hc := hsrc.cells
          have hz0 : zs = [] := List.eq_nil_of_length_eq_zero (by simpa using hsrc.newsLen)
          subst hz0
          obtain ⟨e', hu'⟩ := hu'
          simp only [List.length_nil] at hl hc
          have : (Builtin.append_ #[t, tx] ty #[.slice a 0 0, ρ y']).run P w = .ok (.slice a 0 0) w := by
            simp [Builtin.append_, run_underlying hu, run_underlying hu', sizeOf, typeInfo, hi, hl, hc]
            cases a <;> simp [storeCells]
          simp [this]
        · have hk' : 0 < ys.length := by
            rcases Nat.eq_zero_or_pos ys.length with q | q
            · exact absurd (List.eq_nil_of_length_eq_zero q) hk
            · exact q
          obtain ⟨cap', rest, q1, q2, q3⟩ := hgrow a 0 0 [] (by cases a <;> simp [Builtin.firstCells, loadCells, loadCellsFrom]) (by omega) (by simpa using hbd)
          have Hd := H.drew
          have pd := Pres.drew H
          obtain ⟨g', H', p', hg'⟩ := newRow_own Hd h0 (es := ys) (xs := zs) (rest := rest) (cap := cap') (hflz.keep (fun _ _ _ => rfl) fun _ => Nat.le_refl _) (by omega) (by rw [q2, hflz.1, ← Nat.add_mul]; apply Nat.mul_le_mul_right; omega) e (.inl hk')
          refine ⟨.slice (some ⟨w.heap.size, 0, none⟩) ys.length cap', g', _, .inl ?_, H', hg', pd.trans p'⟩
          simp only [Sem.run_bind, q3, Result.andThen_ok, Sem.run_pure, List.nil_append, Nat.zero_add]
    · cases hv
  · cases hv

/-- append to nil, into a row of its own -/
theorem op_appr (H : HInv B w0 ob g w) (R : Reads B ob g w env ρ) {sz bytes : Nat} {x y : Opd} {x' y' : Operand} {t tx ty : TypeId} (hx : mO x x' = true) (hy : mO y y' = true) (ht : appIs P t tx sz bytes = true) {v : VV} {ob' : List Obj}
    (hv : (VOp.appr sz bytes x y).ev ⟨env, ob⟩ = some (v, ob')) : Out P B w0 ob g w (do pure (.value (← Builtin.append_ #[t, tx] ty #[ρ x', ρ y']))) v ob' := by
  obtain ⟨e, i, z, hu, hu', hi, hz, rfl, rfl, h0, hb0, hzs⟩ := appIs_inv ht
  have h1 := R.opd hx
  have h2 := R.opd hy
  simp only [VOp.ev] at hv
  split at hv
  · rename_i ys tk e1 e2
    rw [e2] at h2
    have hxa : ∃ a, ρ x' = .slice a 0 0 := by
      unfold emptyO at e1
      split at e1
      · rename_i q
        rw [q] at h1
        have hr := h1.rep
        generalize ρ x' = z at hr
        cases hr with
        | @nils a => exact ⟨a, rfl⟩
      · rename_i tt q
        rw [q] at h1
        split at e1
        · rename_i s hto
          obtain ⟨n', s', hto', _, _, hcur, _⟩ := Hnd.sl.1 h1.hnd
          rw [hto] at hto'; cases hto'
          rcases hcur rfl with ⟨a, hx, _⟩ | ⟨b, o, cap, arr, ty1, hkb, hxb, hcap, hheap, hfit, hF, hB, hn, _⟩
          · exact ⟨a, hx⟩
          · omega
        · cases e1
      · cases e1
    split at hv
    · rename_i hem
      simp only [Option.some.injEq, Prod.mk.injEq] at hv
      obtain ⟨rfl, rfl⟩ := hv
      have hys : ys = [] := by simpa using hem
      subst hys
      obtain ⟨a, hxa⟩ := hxa
      obtain ⟨zs, hsrc, hflz⟩ := h2.src h0 rfl hu'
      have hl := hsrc.len w
      have hc := hsrc.cells
      have hz0 : zs = [] := List.eq_nil_of_length_eq_zero (by simpa using hsrc.newsLen)
      subst hz0
      obtain ⟨e', hu'⟩ := hu'
      simp only [List.length_nil] at hl hc
      have : (Builtin.append_ #[t, tx] ty #[.slice a 0 0, ρ y']).run P w = .ok (.slice a 0 0) w := by
        simp [Builtin.append_, run_underlying hu, run_underlying hu', sizeOf, typeInfo, hi, hl, hc]
        cases a <;> simp [storeCells]
      exact Out.quiet H (x := .slice a 0 0) (by simp [hxa, this]) ⟨.nils, trivial, rfl⟩
    rename_i hne
    split at hv
    · rename_i hcond
      obtain ⟨hhd, hbd⟩ := hcond
      simp only [Option.some.injEq, Prod.mk.injEq] at hv
      obtain ⟨rfl, rfl⟩ := hv
      obtain ⟨zs, hsrc, hflz⟩ := h2.src h0 hhd hu'
      have hk : 0 < ys.length := by
        cases ys with
        | nil => simp at hne
        | cons => simp
      obtain ⟨a, hxa⟩ := hxa
      rw [hxa]
      · skip
        have hold : (Builtin.firstCells i.size 0 (.slice a 0 0)).run P w.drew = .ok ([] : List Value).toArray w.drew := by cases a <;> simp [Builtin.firstCells, loadCells, loadCellsFrom]
        have h63 : 0 + ys.length ≤ 35184372088832 := by have := Nat.le_mul_of_pos_right ys.length hb0; omega
        have hrun := run_append_grow_src (P := P) w t tx ty e i z hu hi hz a 0 0 [] hold (ρ y') ys.length zs hsrc (by omega) (by omega) (growslice_fits (by omega) (by rw [Nat.zero_add]; omega))
        obtain ⟨cap, hcapd⟩ : ∃ cap, cap = grownCap w (0 + ys.length) 0 e := ⟨_, rfl⟩
        have hcap : ys.length ≤ cap := by have := grownCap_ge w (0 + ys.length) 0 e; omega
        rw [← hcapd] at hrun
        obtain ⟨arr, harr⟩ : ∃ arr : Array Value, arr = (zs ++ (Builtin.zeroCells z.cells (cap - (0 + ys.length))).toList).toArray := ⟨_, rfl⟩
        have hrun' : (Builtin.append_ #[t, tx] ty #[.slice a 0 0, ρ y']).run P w = .ok (.slice (some ⟨w.heap.size, 0, none⟩) (0 + ys.length) cap) (w.drew.alloc (.cells arr e)) := by
          rw [hrun, harr]
          congr 4
          apply Array.ext'
          simp
        have hel : ∀ e' ∈ ys, e'.cells.length = i.size := fun e' he => by
          obtain ⟨q, hq, rfl⟩ := List.getElem_of_mem he
          exact (hflz.2 q hq).2.1
        have hfl := flat_len hel
        have hle : (ys.flatMap VV.cells).length ≤ arr.size := by rw [hfl, harr]; simp; rw [hflz.1]; omega
        obtain ⟨H', hp⟩ := H.drew.push (.cells arr e) (.cells (ys.flatMap VV.cells)) (by simp) ⟨w.drew.heap.size, arr, e, by simp, H.drew.hB, H.drew.fz _ (Nat.le_refl _), .new (heap_alloc_at _ _), hle, fun j hj => by
          obtain ⟨i2, k, q1, q2, q3, q4⟩ := flat_get hel j hj
          have hk2 : k < ys[i2].cells.length := by rw [(hflz.2 i2 q1).2.1]; exact q2
          have q5 := q4 q1 hk2
          rw [List.getElem?_eq_getElem hj] at q5
          have q6 := Option.some.inj q5
          obtain ⟨u, hu1, hu2⟩ := (hflz.2 i2 q1).2.2 k hk2
          rw [← q3] at hu1
          obtain ⟨hz1, hz2⟩ := List.getElem?_eq_some_iff.1 hu1
          have q7 : arr[j]'(Nat.lt_of_lt_of_le hj hle) = u := by
            have : ∀ (b : Array Value) (q : b = arr) (h : j < b.size), b[j] = u → arr[j]'(Nat.lt_of_lt_of_le hj hle) = u := fun b q h e => by subst q; exact e
            refine this _ harr.symm (by simp; omega) ?_
            simp [List.getElem_append_left hz1, hz2]
          have hc0 : ys[i2].cells[k].canon0 = true := List.all_eq_true.1 (canon_cells (hflz.2 i2 q1).1) _ (List.getElem_mem hk2)
          rw [q7, q6]
          refine ⟨?_, ?_⟩
          · revert hc0; generalize ys[i2].cells[k] = c; intro hc0; cases c <;> simp_all [VV.canon0, VV.isCell]
          · refine ⟨hu2.mono (n := 0) (fun b o h => ?_) (fun _ => Nat.le_refl _) (fun _ _ hlt => absurd hlt (by omega)) (canon0_ids 0 hc0), ?_, (ids_mono (Nat.zero_le _)).1 _ (canon0_ids 0 hc0)⟩
            · exact World.cell?_alloc_lt w.drew _ _ (H.drew.F_pos h)
            · revert hc0; generalize ys[i2].cells[k] = c; intro hc0
              cases c with
              | sl es t => simp [VV.canon0] at hc0; subst hc0; exact Hnd.sl.2 trivial
              | agg cs => simp [VV.canon0] at hc0
              | tup cs => simp [VV.canon0] at hc0
              | _ => trivial⟩
        refine ⟨.slice (some ⟨w.heap.size, 0, none⟩) (0 + ys.length) cap, _, _, .inl ?_, H', ?_, (Pres.drew H).trans hp⟩
        · simp only [Sem.run_bind, hrun', Result.andThen_ok, Sem.run_pure]
        · rw [Nat.zero_add]
          exact ⟨.row (by simp) hcap, trivial, by simp [VV.ids]⟩
    · cases hv
  · cases hv

end
end Go.V

/- V, part 13: literals of slices. -/
set_option linter.unusedVariables false
set_option linter.unusedSimpArgs false
namespace Go.V
open Go.RowKit

def mElems : List (Nat × Opd) → List (Nat × Operand) → Bool
  | [], [] => true
  | (i, x) :: r, (j, y) :: s => i == j && mO x y && mElems r s
  | _, _ => false

/-- elements of a slice of this type: sz cells, this zero -/
def bslIs (P : Program) (t : TypeId) (sz len : Nat) (zero : VV) : Bool :=
  match P.underlying t with
  | some (.slice e) => sizeIs P e sz && 0 < sz && len * sz ≤ 16777216 && zero.canon && zero.cells.length == sz && (match P.info? e with | some i => (match i.zero with | some z => repCL zero.cells z.cells.toList | none => false) | none => false)
  | _ => false

section
variable {P : Program} {B : Nat} {w0 : W0} {ob : List Obj} {g : Gh} {w : World} {env : List (Nat × VV)} {ρ : Operand → Value}

theorem strip_cells_len (v : VV) : v.strip.cells.length = v.cells.length := by
  cases v <;> simp [VV.strip, VV.strip0, VV.cells]

theorem strip_canon_cells {v : VV} (h : v.strip.canon = true) : v.cells.all VV.isCell = true := by
  rw [List.all_eq_true]
  cases v with
  | agg cs =>
    intro u hu
    simp only [VV.strip, VV.canon, List.all_eq_true, List.mem_map, forall_exists_index, and_imp, forall_apply_eq_imp_iff₂] at h
    have := h u hu
    cases u <;> simp_all [VV.strip0, VV.canon0, VV.isCell]
  | _ => simp_all [VV.strip, VV.strip0, VV.canon, VV.canon0, VV.cells, VV.isCell]

theorem strip_cells_get {v : VV} (hn : v.noTup = true) (j : Nat) (h : j < v.strip.cells.length) : v.strip.cells[j] = (v.cells[j]'(by rw [← strip_cells_len]; exact h)).strip0 := by
  cases v with
  | agg cs => simp [VV.strip, VV.cells]
  | _ =>
    have : j = 0 := by simp [VV.strip, VV.strip0, VV.cells] at h; exact h
    subst this
    first | rfl | simp [VV.strip, VV.strip0, VV.cells]

theorem strip0_rep {v : VV} {x : Value} (hc : v.isCell = true) (h : Rep w g.F g.tb v x) : Rep w g.F g.tb v.strip0 x := by
  have := strip_rep h
  cases v <;> first | exact this | (simp [VV.isCell] at hc)

theorem canon_noTup {v : VV} (h : v.strip.canon = true) : v.noTup = true := by
  cases v <;> simp_all [VV.strip, VV.strip0, VV.canon, VV.canon0, VV.noTup]

theorem fillE_run (R : Reads B ob g w env ρ) {sz : Nat} (h0 : 0 < sz) : ∀ (parts : List (Nat × Opd)) (ps : List (Nat × Operand)) (es es' : List VV) (arr : Array Value),
    mElems parts ps = true → fillE env sz es parts = some es' → FlatR w g.F g.tb sz es arr.toList →
    ∃ arr', Instr.fill (fun i => some (i * sz, sz)) arr (ps.map fun (i, x) => (i, ρ x)) = some arr' ∧ FlatR w g.F g.tb sz es' arr'.toList ∧ es'.length = es.length
  | [], [], es, es', arr, _, hf, hfl => by
    simp only [fillE, Option.some.injEq] at hf
    subst hf
    exact ⟨arr, rfl, hfl, rfl⟩
  | [], _ :: _, _, _, _, hm, _, _ => by simp [mElems] at hm
  | _ :: _, [], _, _, _, hm, _, _ => by simp [mElems] at hm
  | (i, x) :: r, (j, y) :: s, es, es', arr, hm, hf, hfl => by
    simp only [mElems, Bool.and_eq_true, beq_iff_eq] at hm
    obtain ⟨⟨rfl, h2⟩, h3⟩ := hm
    simp only [fillE] at hf
    split at hf
    · rename_i hcond
      obtain ⟨hlen, hi, hcan⟩ := hcond
      have hv := R.opd h2
      have hnt := canon_noTup hcan
      have hcell := strip_canon_cells hcan
      obtain ⟨hs, hcells⟩ := hv.cells hcell
      have hcl : (x.ev env).cells.length = sz := by rw [← strip_cells_len]; exact hlen
      have hal : arr.size = es.length * sz := by simpa using hfl.1
      have hlt : i * sz + sz ≤ es.length * sz := by
        have : (i + 1) * sz ≤ es.length * sz := Nat.mul_le_mul_right _ hi
        rw [Nat.add_mul, Nat.one_mul] at this; exact this
      have hfill : Instr.fill (fun i => some (i * sz, sz)) arr (((i, y) :: s).map fun (i, x) => (i, ρ x)) = Instr.fill (fun i => some (i * sz, sz)) ((ρ y).cells.zipIdx.foldl (fun cs (c, j) => cs.setIfInBounds (i * sz + j) c) arr) (s.map fun (i, x) => (i, ρ x)) := by
        simp only [List.map_cons, Instr.fill]
        rw [if_neg]
        simp only [ne_eq, gt_iff_lt, Bool.or_eq_true, decide_eq_true_eq, not_or, Decidable.not_not]
        omega
      have hfold : ((ρ y).cells.zipIdx.foldl (fun cs (c, j) => cs.setIfInBounds (i * sz + j) c) arr) = (((ρ y).cells.toList.zipIdx 0).foldl (fun cs (c, j) => cs.setIfInBounds (i * sz + j) c) arr) := by
        rw [← Array.foldl_toList, Array.toList_zipIdx]
      rw [hfill, hfold]
      have hget := fun q => foldl_set (ρ y).cells.toList (i * sz) 0 arr q (by simp; omega)
      simp only [Nat.add_zero, Array.length_toList] at hget
      obtain ⟨arr', q1, q2, q3⟩ := fillE_run R h0 r s (es.set i (x.ev env).strip) es' (((ρ y).cells.toList.zipIdx 0).foldl (fun cs (c, j) => cs.setIfInBounds (i * sz + j) c) arr) h3 hf ⟨by simp [foldl_set_size, hal], fun k hk => by
        have hk' : k < es.length := by simpa using hk
        by_cases e : k = i
        · subst e
          simp only [List.getElem_set_self]
          refine ⟨hcan, hlen, fun q hq => ?_⟩
          have hq' : q < sz := by omega
          refine ⟨(ρ y).cells[q]'(by omega), ?_, ?_⟩
          · rw [Array.getElem?_toList, hget, if_pos (by omega), show k * sz + q - k * sz = q by omega]
            simp [show q < (ρ y).cells.size by omega]
          · rw [strip_cells_get hnt q hq]
            exact strip0_rep (List.all_eq_true.1 hcell _ (List.getElem_mem _)) (hcells q (by omega) (by omega)).rep
        · rw [List.getElem_set_ne (fun q => e q.symm)]
          refine ⟨(hfl.2 k hk').1, (hfl.2 k hk').2.1, fun q hq => ?_⟩
          obtain ⟨z, hz, hr⟩ := (hfl.2 k hk').2.2 q hq
          refine ⟨z, ?_, hr⟩
          have hq' : q < sz := by have := (hfl.2 k hk').2.1; omega
          rw [Array.getElem?_toList, hget, if_neg, ← Array.getElem?_toList]
          · exact hz
          · rintro ⟨a1, a2⟩
            rcases Nat.lt_or_ge k i with hlt' | hge
            · have := mul_lt hlt' hq'; omega
            · have : (i + 1) * sz ≤ k * sz := Nat.mul_le_mul_right _ (by omega)
              rw [Nat.add_mul, Nat.one_mul] at this
              omega⟩
      exact ⟨arr', q1, q2, by rw [q3]; simp⟩
    · cases hf

theorem op_bsl (H : HInv B w0 ob g w) (R : Reads B ob g w env ρ) {own : Bool} {sz len : Nat} {zero : VV} {parts : List (Nat × Opd)} {ps : Array (Nat × Operand)} {t : TypeId} (ht : bslIs P t sz len zero = true) (hm : mElems parts ps.toList = true) {v : VV} {ob' : List Obj}
    (hv : (VOp.bsl own sz zero len parts).ev ⟨env, ob⟩ = some (v, ob')) : Out P B w0 ob g w (do pure (.value (← Instr.buildSlice t len (ps.map fun (i, x) => (i, ρ x))))) v ob' := by
  unfold bslIs at ht
  cases hu : P.underlying t with
  | none => simp [hu] at ht
  | some d =>
  cases d <;> simp only [hu, Bool.false_eq_true] at ht
  rename_i e
  simp only [Bool.and_eq_true, decide_eq_true_eq, beq_iff_eq] at ht
  obtain ⟨⟨⟨⟨⟨hsz, h0⟩, hbig⟩, hcan⟩, hzl⟩, hzz⟩ := ht
  cases hi : P.info? e with
  | none => simp [hi] at hzz
  | some i =>
  simp only [hi] at hzz
  cases hiz : i.zero with
  | none => simp [hiz] at hzz
  | some z =>
  simp only [hiz] at hzz
  have hzl2 := repCL_len hzz
  simp only [Array.length_toList] at hzl2
  have hbase : FlatR w g.F g.tb sz (List.replicate len zero) ((List.range (len * sz)).map fun k => z.cells[k % z.cells.size]!) := by
    refine ⟨by simp, fun q hq => ?_⟩
    have hq' : q < len := by simpa using hq
    simp only [List.getElem_replicate]
    refine ⟨hcan, hzl, fun j hj => ?_⟩
    have hj' : j < z.cells.size := by omega
    refine ⟨z.cells[j], ?_, (GV.const0 (B := B) (ob := ob) (g := g) (w := w) (by have := repCL_get hzz j hj (by simpa using hj'); rwa [Array.getElem_toList] at this)).rep⟩
    have hlt : q * sz + j < len * sz := mul_lt hq' (by omega)
    have e2 : (q * sz + j) % z.cells.size = j := by rw [show z.cells.size = sz by omega, Nat.add_comm, Nat.add_mul_mod_self_right, Nat.mod_eq_of_lt (by omega)]
    simp [hlt, e2, hj']
  simp only [VOp.ev] at hv
  split at hv
  · cases hv
  rename_i es hes
  have harr0 : ((Array.range (len * sz)).map fun k => z.cells[k % z.cells.size]!) = ((List.range (len * sz)).map fun k => z.cells[k % z.cells.size]!).toArray := by
    apply Array.ext'
    simp
  obtain ⟨arr', q1, q2, q3⟩ := fillE_run R h0 parts ps.toList (List.replicate len zero) es (((List.range (len * sz)).map fun k => z.cells[k % z.cells.size]!).toArray) hm hes (by simpa using hbase)
  have hel : es.length = len := by rw [q3]; simp
  have hrun : (Instr.buildSlice t len (ps.map fun (i, x) => (i, ρ x))).run P w = .ok (.slice (some ⟨w.heap.size, 0, none⟩) len len) (w.alloc (.cells (arr'.toList ++ []).toArray e)) := by
    have hps : (ps.map fun (i, x) => (i, ρ x)).toList = ps.toList.map fun (i, x) => (i, ρ x) := by simp
    have hb' : ¬ (len * sz > 2 ^ 24) := by omega
    by_cases hl0 : len = 0
    · subst hl0
      have hp0 : ps.toList = [] ∧ arr'.toList = [] := by
        have he : es = [] := List.eq_nil_of_length_eq_zero hel
        refine ⟨?_, List.eq_nil_of_length_eq_zero (by have := q2.1; rw [hel] at this; simpa using this)⟩
        cases parts with
        | nil => revert hm; cases ps.toList with
          | nil => exact fun _ => rfl
          | cons a r => intro hm; simp [mElems] at hm
        | cons a r =>
          obtain ⟨i, x⟩ := a
          simp [fillE] at hes
      have hps0 : ps = #[] := by apply Array.ext'; simpa using hp0.1
      subst hps0
      simp only [Instr.buildSlice, Sem.run_bind, run_underlying hu, Result.andThen_ok, run_size hsz, hb', if_false, Nat.zero_mul, if_true, Sem.run_pure]
      have ha0 : arr' = #[] := by apply Array.ext'; simpa using hp0.2
      simp [Instr.fill, newRow, ha0]
      congr 2
      apply Array.ext'
      simp
    · have hne : ¬ (len * sz = 0) := by
        have := Nat.mul_pos (Nat.pos_of_ne_zero hl0) h0
        omega
      simp only [Instr.buildSlice, Sem.run_bind, run_underlying hu, Result.andThen_ok, run_size hsz, hb', if_false, hne, zeroValue, typeInfo, run_program, hi, hiz, Sem.run_pure]
      rw [harr0, hps, q1]
      simp [newRow]
  have hfl2 : FlatR w g.F g.tb sz es arr'.toList := q2
  cases own with
  | true =>
    simp only [if_true, Option.some.injEq, Prod.mk.injEq] at hv
    obtain ⟨rfl, rfl⟩ := hv
    obtain ⟨g', H', p', hg'⟩ := newRow_own H h0 hfl2 (rest := []) (cap := len) (by omega) (by have := hfl2.1; rw [hel] at this; simp at this ⊢; omega) e (by omega)
    rw [hel] at H' p' hg'
    exact ⟨_, g', _, .inl (by simp only [Sem.run_bind, hrun, Result.andThen_ok, Sem.run_pure]), H', hg', p'⟩
  | false =>
    simp only [Bool.false_eq_true, if_false, Option.some.injEq, Prod.mk.injEq] at hv
    obtain ⟨rfl, rfl⟩ := hv
    have H1 := H.alloc (.cells (arr'.toList ++ []).toArray e) (len * sz)
    have p1 := Pres.alloc H (.cells (arr'.toList ++ []).toArray e) (len * sz)
    refine ⟨.slice (some ⟨w.heap.size, 0, none⟩) len len, _, _, .inl (by simp only [Sem.run_bind, hrun, Result.andThen_ok, Sem.run_pure]), H1, ⟨?_, Hnd.sl.2 trivial, by simp [VV.ids]⟩, p1⟩
    have := hfl2.rep (w' := w.alloc (.cells (arr'.toList ++ []).toArray e)) (F' := updF g.F w.heap.size (len * sz)) (tb' := g.tb) h0 (fun b o h => World.cell?_alloc_lt w _ _ (H.F_pos h)) (fun b => by
      by_cases e : b = w.heap.size
      · subst e; rw [H.fz _ (Nat.le_refl _)]; exact Nat.zero_le _
      · rw [updF_ne _ _ e]; exact Nat.le_refl _) (b := w.heap.size) (o := 0) (cap := len) (t := 0) (fun k u hk => by rw [Nat.zero_add, World.cell?_alloc_new]; simpa using hk) (by omega) (by rw [updF_same, hel]; omega)
    rw [hel] at this
    exact this

end
end Go.V

/- V, part 14: maps. -/
set_option linter.unusedVariables false
set_option linter.unusedSimpArgs false
namespace Go.V
open Go.RowKit

def mapIs (P : Program) (t : TypeId) (ty : Ty) : Bool := match P.underlying t with | some (.map k _) => tyIs P k ty | _ => false
def mapZero (P : Program) (t : TypeId) (zero : VV) : Bool := match P.underlying t with
  | some (.map _ e) => (zero.canon || zero.isNils) && (match P.info? e with | some i => (match i.zero with | some z => repC zero z | none => false) | none => false)
  | _ => false

section
variable {P : Program} {B : Nat} {w0 : W0} {ob : List Obj} {g : Gh} {w : World} {env : List (Nat × VV)} {ρ : Operand → Value}

theorem op_mkmap (H : HInv B w0 ob g w) {t : TypeId} : Out P B w0 ob g w (do pure (.value (← Instr.makeMap t none))) (.mp ob.length) (ob ++ [.map []]) := by
  obtain ⟨H', hp⟩ := H.push (.map #[] 0) (.map []) (by simp) ⟨w.heap.size, #[], 0, by simp, ⟨H.hB, by simp [Born]⟩, H.fz _ (Nat.le_refl _), heap_alloc_at _ _, rfl, fun j hj => absurd hj (by simp)⟩
  exact ⟨.map (some w.heap.size), _, w.alloc (.map #[] 0), .inl (by simp [Instr.makeMap]), H', ⟨.mp (by simp), trivial, by simp [VV.ids]⟩, hp⟩

theorem check_sc {t : TypeId} {k : Kd} {u : VV} {x : Value} (ht : kdTy P k t = true) (e : Bool) (n : Nat) : (Instr.checkKey e (n + 1) t x).run P w = .ok () w := by
  unfold kdTy at ht
  cases hu : P.underlying t with
  | none => cases k <;> simp [hu] at ht
  | some d => cases k <;> cases d <;> simp [hu] at ht <;> simp [Instr.checkKey, run_underlying hu]

theorem check_run' {t : TypeId} {ty : Ty} {u : VV} {x : Value} (ht : tyIs P t ty = true) (hf : ty.fits u = true) (hx : GV B ob g w u x) (e : Bool) (M : Nat) (hM : ∀ (k : Kd) (t : TypeId) (x : Value), kdTy P k t = true → (Instr.checkKey e M t x).run P w = .ok () w) : (Instr.checkKey e (M + 1) t x).run P w = .ok () w := by
  cases ty with
  | sc k => exact check_sc (u := u) ht e M
  | st l =>
    cases u <;> simp only [Ty.fits, Bool.false_eq_true] at hf
    rename_i us
    obtain ⟨xs, rfl, _, hl, hx'⟩ := hx.agg_inv
    simp only [tyIs] at ht
    cases hu : P.underlying t with
    | none => simp [hu] at ht
    | some dd =>
      cases dd <;> simp only [hu, Bool.false_eq_true] at ht
      rename_i fs
      simp only [Bool.and_eq_true, Bool.not_eq_true'] at ht
      simp only [Instr.checkKey, Sem.run_bind, run_underlying hu, Result.andThen_ok]
      rw [← Array.forIn_toList]
      have hst := ht.1.1
      have hlen : ∀ (l : List Kd) (us : List VV), fitsL l us = true → l.length = us.length := by
        intro l
        induction l with
        | nil => intro us h; cases us <;> simp_all [fitsL]
        | cons a r ih =>
          intro us h
          cases us with
          | nil => simp [fitsL] at h
          | cons u us => simp only [fitsL, Bool.and_eq_true] at h; simp [ih us h.2]
      have hll := hlen l us hf
      clear ht hu hf hx'
      suffices h : ∀ (fs : List Field) (l : List Kd) (n : Nat), stTy P l fs n = true → n + l.length ≤ xs.size →
          (forIn fs PUnit.unit fun (f : Field) r => do
            if f.name ≠ "_" then do
              let __do_lift ← part f.type xs f.offset
              Instr.checkKey e M f.type __do_lift
              pure (ForInStep.yield PUnit.unit)
            else pure (ForInStep.yield PUnit.unit)).run P w = .ok PUnit.unit w by
        have := h fs.toList l 0 hst (by omega)
        simp at this ⊢
        rw [this]
        rfl
      intro fs
      induction fs with
      | nil => intro l n _ _; simp
      | cons f r ih =>
        intro l n h hn
        cases l with
        | nil => simp [stTy] at h
        | cons k l =>
          simp only [stTy, Bool.and_eq_true, bne_iff_ne, ne_eq, beq_iff_eq] at h
          obtain ⟨⟨⟨h1, h2⟩, h3⟩, h4⟩ := h
          simp only [List.length_cons] at hn
          have hlt : n < xs.size := by omega
          have hp : (part f.type xs f.offset).run P w = .ok xs[n] w := by
            unfold kdTy at h3
            cases hu : P.underlying f.type with
            | none => cases k <;> simp [hu] at h3
            | some dd => cases k <;> cases dd <;> simp [hu] at h3 <;> simp [part, isAgg, run_underlying hu, h2, hlt]
          have hc := hM k f.type xs[n] h3
          simp only [List.forIn_cons, ne_eq, h1, not_false_eq_true, if_true, Sem.run_bind, hp, Result.andThen_ok, hc, Sem.run_pure]
          exact ih l (n + 1) h4 (by omega)

theorem check_run {t : TypeId} {ty : Ty} {u : VV} {x : Value} (ht : tyIs P t ty = true) (hf : ty.fits u = true) (hx : GV B ob g w u x) (e : Bool) : (Instr.checkKey e 10000 t x).run P w = .ok () w :=
  check_run' ht hf hx e 9999 fun k t x h => check_sc (u := .dead) h e 9998

/-- The entries of a map, as V has them. -/
def Ents (w : World) (g : Gh) (es : List (VV × VV)) (arr : List MapEntry) : Prop :=
  arr.length = es.length ∧ ∀ (j : Nat) (h : j < es.length) (h' : j < arr.length), es[j].1.canon = true ∧ es[j].2.canonH = true ∧ Rep w g.F g.tb es[j].1 arr[j].key ∧ Rep w g.F g.tb es[j].2 arr[j].val

theorem Ents.tail {e : VV × VV} {es : List (VV × VV)} {a : MapEntry} {arr : List MapEntry} (h : Ents w g (e :: es) (a :: arr)) : Ents w g es arr :=
  ⟨by have := h.1; simpa using this, fun j h1 h2 => h.2 (j + 1) (by simpa using h1) (by simpa using h2)⟩
theorem Ents.head {e : VV × VV} {es : List (VV × VV)} {a : MapEntry} {arr : List MapEntry} (h : Ents w g (e :: es) (a :: arr)) : e.1.canon = true ∧ e.2.canonH = true ∧ Rep w g.F g.tb e.1 a.key ∧ Rep w g.F g.tb e.2 a.val :=
  h.2 0 (by simp) (by simp)

/-- where a key is -/
def midx (k : VV) : List (VV × VV) → Option (Option Nat)
  | [] => some none
  | (k', _) :: r => match eqV k k' with
    | some true => some (some 0)
    | some false => (midx k r).map (·.map (· + 1))
    | none => none

theorem findAsking_run {t : TypeId} {ty : Ty} {u : VV} {x : Value} (ht : tyIs P t ty = true) (hf : ty.fits u = true) (hx : GV B ob g w u x) : ∀ (es : List (VV × VV)) (arr : List MapEntry) (n : Nat) (r : Option Nat), Ents w g es arr → midx u es = some r →
    (Instr.findAsking t x arr n).run P w = .ok (r.bind fun i => (arr[i]?).map fun e => (n + i, e.val)) w
  | [], [], n, r, _, h => by simp [midx] at h; subst h; simp [Instr.findAsking]
  | [], _ :: _, _, _, he, _ => by have := he.1; simp at this
  | _ :: _, [], _, _, he, _ => by have := he.1; simp at this
  | (k', v') :: es, a :: arr, n, r, he, h => by
    obtain ⟨c1, c2, r1, r2⟩ := he.head
    simp only [midx] at h
    cases hq : eqV u k' with
    | none => simp [hq] at h
    | some q =>
      have hrun := run_eqV (P := P) ht hf hx (GV.canon (B := B) (ob := ob) c1 r1) hq
      simp only [Instr.findAsking, Sem.run_bind, hrun, Result.andThen_ok]
      cases q with
      | true =>
        simp [hq] at h
        subst h
        simp
      | false =>
        simp only [hq, Option.map_eq_some_iff] at h
        obtain ⟨r', hr', rfl⟩ := h
        have ih := findAsking_run ht hf hx es arr (n + 1) r' he.tail hr'
        simp only [Bool.false_eq_true, if_false]
        rw [ih]
        cases r' with
        | none => rfl
        | some i => simp [Nat.add_assoc, Nat.add_comm 1 i]

theorem findNow_run {d : TypeDesc} {u : VV} {x : Value} (hx : GV B ob g w u x) : ∀ (es : List (VV × VV)) (arr : List MapEntry) (n : Nat) (r : Option Nat) (q : Option (Nat × Value)), Ents w g es arr → midx u es = some r →
    Instr.findNow d x arr n = some q → (∀ (k' : VV) (y : Value) (b b' : Bool), k'.canon = true → Rep w g.F g.tb k' y → Instr.sameNow d x y = some b → eqV u k' = some b' → b = b') →
    q = (r.bind fun i => (arr[i]?).map fun e => (n + i, e.val))
  | [], [], n, r, q, _, h, hq, _ => by simp [midx] at h; subst h; simp [Instr.findNow] at hq; subst hq; rfl
  | [], _ :: _, _, _, _, he, _, _, _ => by have := he.1; simp at this
  | _ :: _, [], _, _, _, he, _, _, _ => by have := he.1; simp at this
  | (k', v') :: es, a :: arr, n, r, q, he, h, hq, hs => by
    obtain ⟨c1, c2, r1, r2⟩ := he.head
    simp only [midx] at h
    simp only [Instr.findNow] at hq
    cases hv : eqV u k' with
    | none => simp [hv] at h
    | some b' =>
      cases hn : Instr.sameNow d x a.key with
      | none => simp [hn] at hq
      | some b =>
        have hbb := hs _ _ _ _ c1 r1 hn hv
        subst hbb
        cases b with
        | true =>
          simp [hv] at h
          simp [hn] at hq
          subst h hq
          simp
        | false =>
          simp only [hv, Option.map_eq_some_iff] at h
          simp only [hn] at hq
          obtain ⟨r', hr', rfl⟩ := h
          have ih := findNow_run hx es arr (n + 1) r' q he.tail hr' hq hs
          rw [ih]
          cases r' with
          | none => rfl
          | some i => simp [Nat.add_assoc, Nat.add_comm 1 i]

theorem sameNow_eq {d : TypeDesc} {u k' : VV} {x y : Value} {b b' : Bool} (hx : GV B ob g w u x) (hy : Rep w g.F g.tb k' y) (h : Instr.sameNow d x y = some b) (h' : eqV u k' = some b') : b = b' := by
  unfold eqV at h'
  split at h'
  · rename_i us vs
    obtain ⟨xs, rfl, _⟩ := hx.agg_inv
    cases d <;> simp [Instr.sameNow] at h
  · unfold eq0 at h'
    split at h'
    · split at h'
      · rename_i hk
        subst hk
        cases h'
        cases hy
        obtain rfl := hx.int_inv
        cases d <;> simp [Instr.sameNow] at h
        exact h.symm
      · cases h'
    · cases h'
      cases hy
      obtain rfl := hx.bool_inv
      cases d <;> simp [Instr.sameNow] at h
      exact h.symm
    · cases h'
      obtain ⟨s, rfl, rfl⟩ := hx.str_inv
      cases hy with
      | str he =>
        subst he
        cases d <;> simp [Instr.sameNow] at h
        rw [← h, beq_toListBytes, ByteArray.toList_eq, ByteArray.toList_eq]
    · cases h'

theorem findKey_run {t : TypeId} {ty : Ty} {u : VV} {x : Value} (ht : tyIs P t ty = true) (hf : ty.fits u = true) (hx : GV B ob g w u x) {es : List (VV × VV)} {arr : List MapEntry} {r : Option Nat} (he : Ents w g es arr) (h : midx u es = some r) :
    (Instr.findKey t x arr).run P w = .ok (r.bind fun i => (arr[i]?).map fun e => (i, e.val)) w := by
  have hu : ∃ d, P.underlying t = some d := by
    cases hu : P.underlying t with
    | none => cases ty with
      | sc k => cases k <;> simp [tyIs, kdTy, hu] at ht
      | st l => simp [tyIs, hu] at ht
    | some d => exact ⟨d, rfl⟩
  obtain ⟨d, hu⟩ := hu
  simp only [Instr.findKey, Sem.run_bind, run_underlying hu, Result.andThen_ok]
  cases hq : Instr.findNow d x arr 0 with
  | some q =>
    have := findNow_run hx es arr 0 r q he h hq (fun k' y b b' _ hy h1 h2 => sameNow_eq hx hy h1 h2)
    simp only [Sem.run_pure, this, Nat.zero_add]
  | none =>
    have := findAsking_run (P := P) ht hf hx es arr 0 r he h
    simpa using this

theorem mfind_idx : ∀ {k : VV} {es : List (VV × VV)} {r : Option VV}, mfind k es = some r → ∃ i, midx k es = some i ∧ r = i.bind fun j => (es[j]?).map (·.2)
  | k, [], r, h => by simp [mfind] at h; subst h; exact ⟨none, rfl, rfl⟩
  | k, (k', v) :: es, r, h => by
    simp only [mfind] at h
    cases hq : eqV k k' with
    | none => simp [hq] at h
    | some q =>
      cases q with
      | true => simp [hq] at h; subst h; exact ⟨some 0, by simp [midx, hq], by simp⟩
      | false =>
        simp only [hq] at h
        obtain ⟨i, h1, h2⟩ := mfind_idx h
        refine ⟨i.map (· + 1), by simp [midx, hq, h1], ?_⟩
        cases i <;> simp [h2]

theorem mput_idx : ∀ {k v : VV} {es es' : List (VV × VV)}, mput k v es = some es' → ∃ i, midx k es = some i ∧ match i with
    | none => es' = es ++ [(k, v)]
    | some j => j < es.length ∧ es' = es.set j (k, v) ∧ ∃ h : j < es.length, eqV k es[j].1 = some true
  | k, v, [], es', h => by simp [mput] at h; subst h; exact ⟨none, rfl, rfl⟩
  | k, v, (k', u) :: es, es', h => by
    simp only [mput] at h
    cases hq : eqV k k' with
    | none => simp [hq] at h
    | some q =>
      cases q with
      | true => simp [hq] at h; subst h; exact ⟨some 0, by simp [midx, hq], by simp [hq]⟩
      | false =>
        simp only [hq, Option.map_eq_some_iff] at h
        obtain ⟨es1, h1, rfl⟩ := h
        obtain ⟨i, h2, h3⟩ := mput_idx h1
        refine ⟨i.map (· + 1), by simp [midx, hq, h2], ?_⟩
        cases i with
        | none => simp at h3 ⊢; exact h3
        | some j => simp at h3 ⊢; exact ⟨h3.1, h3.2.1, h3.2.2⟩

theorem mrem_idx : ∀ {k : VV} {es es' : List (VV × VV)}, mrem k es = some es' → ∃ i, midx k es = some i ∧ match i with
    | none => es' = es
    | some j => j < es.length ∧ es' = es.eraseIdx j
  | k, [], es', h => by simp [mrem] at h; subst h; exact ⟨none, rfl, rfl⟩
  | k, (k', u) :: es, es', h => by
    simp only [mrem] at h
    cases hq : eqV k k' with
    | none => simp [hq] at h
    | some q =>
      cases q with
      | true => simp [hq] at h; subst h; exact ⟨some 0, by simp [midx, hq], by simp⟩
      | false =>
        simp only [hq, Option.map_eq_some_iff] at h
        obtain ⟨es1, h1, rfl⟩ := h
        obtain ⟨i, h2, h3⟩ := mrem_idx h1
        refine ⟨i.map (· + 1), by simp [midx, hq, h2], ?_⟩
        cases i with
        | none => simp at h3 ⊢; exact h3
        | some j => simp at h3 ⊢; exact h3

theorem canon_noTup' {v : VV} (h : v.canon = true) : v.noTup = true := by
  cases v <;> simp_all [VV.noTup, VV.canon, VV.canon0]
theorem canonH_noTup {v : VV} (h : v.canonH = true) : v.noTup = true := by
  cases v <;> simp_all [VV.noTup, VV.canonH, VV.canon, VV.canon0]

theorem op_lkp (H : HInv B w0 ob g w) (R : Reads B ob g w env ρ) {ty : Ty} {zero : VV} {ok : Bool} {m k : Opd} {m' k' : Operand} {t : TypeId} (hm : mO m m' = true) (hk : mO k k' = true) (ht : mapIs P t ty = true) (hz : mapZero P t zero = true) {v : VV}
    (hv : (VOp.lkp ty zero ok m k).ev ⟨env, ob⟩ = some (v, ob)) : Out P B w0 ob g w (do pure (.value (← Instr.lookup t (ρ m') (ρ k') ok))) v ob := by
  have h1 := R.opd hm
  have h2 := R.opd hk
  unfold mapIs at ht
  unfold mapZero at hz
  cases hu : P.underlying t with
  | none => simp [hu] at ht
  | some d =>
  cases d <;> simp only [hu, Bool.false_eq_true] at ht hz
  rename_i kt et
  simp only [Bool.and_eq_true] at hz
  obtain ⟨hzc, hzz⟩ := hz
  cases hi : P.info? et with
  | none => simp [hi] at hzz
  | some i =>
  simp only [hi] at hzz
  cases hiz : i.zero with
  | none => simp [hiz] at hzz
  | some z =>
  simp only [hiz] at hzz
  have hzero : (zeroValue et).run P w = .ok z w := by simp [zeroValue, typeInfo, hi, hiz]
  simp only [VOp.ev] at hv
  split at hv
  · cases hv
  rename_i hfits
  have hfits : ty.fits (k.ev env) = true := by cases q : ty.fits (k.ev env) with | true => rfl | false => rw [q] at hfits; exact absurd rfl hfits
  split at hv
  · cases hv
  rename_i r hr
  simp only [Option.some.injEq, Prod.mk.injEq, and_true] at hv
  subst hv
  have hmz : GV B ob g w zero z := GV.const hzz
  have hznt : zero.noTup = true := by
    rw [Bool.or_eq_true] at hzc
    rcases hzc with q | q
    · exact canon_noTup' q
    · cases zero <;> simp_all [VV.isNils, VV.noTup]
  have fin : ∀ (x : Value), (r.getD zero).noTup = true → GV B ob g w (r.getD zero) x → (Instr.lookup t (ρ m') (ρ k') ok).run P w = .ok (if ok then .tuple #[x, .bool r.isSome] else x) w → Out P B w0 ob g w (do pure (.value (← Instr.lookup t (ρ m') (ρ k') ok))) (if ok then .tup [r.getD zero, .bool r.isSome] else r.getD zero) ob := by
    intro x hnt hg hrun
    refine Out.quiet H (x := if ok then .tuple #[x, .bool r.isSome] else x) (by simp only [Sem.run_bind, hrun, Result.andThen_ok, Sem.run_pure]) ?_
    cases ok with
    | false => exact hg
    | true =>
      simp only [if_true]
      refine ⟨.tup rfl (by simp only [List.all_cons, List.all_nil, hnt]; rfl) fun j hj => ?_, ?_, ?_⟩
      · match j, hj with
        | 0, _ => exact hg.rep
        | 1, _ => exact .bool _
      · intro j v y hv hy
        match j, hv, hy with
        | 0, hv, hy =>
          simp at hv hy
          subst hv hy
          refine ⟨?_, fun ds ys e1 e2 q u y hu hy => ?_⟩
          · have := hg.hnd
            revert this hnt
            cases r.getD zero with
            | sl es t => intro _ h; exact Hnd.sl.1 h
            | _ => intro _ _; trivial
          · have := hg.hnd
            rw [e1, e2] at this
            exact this q u y hu hy
        | 1, hv, hy =>
          simp at hv hy
          subst hv hy
          exact ⟨trivial, fun ds ys e1 => by cases e1⟩
        | j + 2, hv, _ => simp at hv
      · have := hg.ids
        simp [VV.ids, idsL, this]
  split at hr
  · rename_i he
    cases hr
    rw [he] at h1
    have hrep := h1.rep
    revert hrep
    generalize hmm : ρ m' = y
    rw [hmm] at fin
    intro hrep
    cases hrep
    refine fin z hznt hmz ?_
    simp only [Instr.lookup, Sem.run_bind, run_underlying hu, Result.andThen_ok, Sem.run_pure, check_run ht hfits h2, Instr.findKey]
    have hkt : ∃ d, P.underlying kt = some d := by
      cases hq : P.underlying kt with
      | none => cases ty with
        | sc k => cases k <;> simp [tyIs, kdTy, hq] at ht
        | st l => simp [tyIs, hq] at ht
      | some d => exact ⟨d, rfl⟩
    obtain ⟨dk, hkt⟩ := hkt
    simp [run_underlying hkt, Instr.findNow, hzero]
  · rename_i o he
    rw [he] at h1
    split at hr
    · rename_i es ho
      have hrep := h1.rep
      revert hrep
      generalize hmm : ρ m' = y
      rw [hmm] at fin
      intro hrep
      cases hrep with
      | @mp _ b htb =>
        obtain ⟨_, b', arr, clock, q1, q2, q3, q4, hsz, q5⟩ := H.get ho (by simp)
        rw [htb] at q1; cases q1
        obtain ⟨idx, hidx, hrr⟩ := mfind_idx hr
        have hents : Ents w g es arr.toList := ⟨by simpa using hsz, fun j h h' => by have := q5 j h; exact ⟨this.1, this.2.1, by simpa using this.2.2.1, by simpa using this.2.2.2.rep⟩⟩
        have hrun := findKey_run (P := P) ht hfits h2 hents hidx
        have hget : (getObj b).run P w = .ok (.map arr clock) w := by simp [getObj, Sem.run, q4]
        cases idx with
        | none =>
          simp at hrr; subst hrr
          refine fin z hznt hmz ?_
          simp only [Option.bind_none] at hrun
          simp [Instr.lookup, run_underlying hu, hget, check_run ht hfits h2, hrun, hzero]
        | some j =>
          simp only [Option.bind_some] at hrr hrun
          have hj : j < es.length := by
            rcases Nat.lt_or_ge j es.length with q | q
            · exact q
            · exfalso
              have : ∀ {u : VV} {es : List (VV × VV)} {j : Nat}, midx u es = some (some j) → j < es.length := by
                intro u es
                induction es with
                | nil => intro j h; simp [midx] at h
                | cons e r ih =>
                  obtain ⟨a, b⟩ := e
                  intro j h
                  simp only [midx] at h
                  cases hq : eqV u a with
                  | none => simp [hq] at h
                  | some q =>
                    cases q with
                    | true => simp [hq] at h; subst h; simp
                    | false =>
                      simp only [hq, Option.map_eq_some_iff] at h
                      obtain ⟨i, h1, h2⟩ := h
                      cases i with
                      | none => simp at h2
                      | some i => simp at h2; subst h2; have := ih h1; simp; omega
              have := this hidx
              omega
          have hj' : j < arr.size := by omega
          obtain ⟨c1, c2, r1, r2⟩ := q5 j hj
          simp [hj] at hrr
          subst hrr
          refine fin arr[j].val (canonH_noTup c2) r2 ?_
          simp [hj'] at hrun
          simp [Instr.lookup, run_underlying hu, hget, check_run ht hfits h2, hrun]
    · cases hr
  · cases hr

end
end Go.V

/- V, part 15: stores into maps, deletes. -/
set_option linter.unusedVariables false
set_option linter.unusedSimpArgs false
namespace Go.V
open Go.RowKit

section
variable {P : Program} {B : Nat} {w0 : W0} {ob : List Obj} {g : Gh} {w : World} {env : List (Nat × VV)} {ρ : Operand → Value}

/-- the world with another object in a block -/
def putAt (w : World) (b : Nat) (o : _root_.Go.Obj) : World := { w with heap := w.heap.setIfInBounds b o }
theorem putAt_at {w : World} {b : Nat} {o o' : _root_.Go.Obj} (h : w.heap[b]? = some o') : (putAt w b o).heap[b]? = some o := by
  simp [putAt, Array.getElem?_setIfInBounds, lt_of_heap h]
theorem putAt_ne {w : World} {b b' : Nat} (o : _root_.Go.Obj) (h : b' ≠ b) : (putAt w b o).heap[b']? = w.heap[b']? := by
  simp only [putAt, Array.getElem?_setIfInBounds]
  rw [if_neg (fun e => h e.symm)]
theorem putAt_size (w : World) (b : Nat) (o : _root_.Go.Obj) : (putAt w b o).heap.size = w.heap.size := by simp [putAt]

theorem born_push {arr : Array MapEntry} {cl : Nat} (h : Born arr cl) (x : MapEntry) (hx : x.born = cl) : Born (arr.push x) (cl + 1) := by
  obtain ⟨h1, h2⟩ := h
  refine ⟨fun y hy => ?_, ?_⟩
  · rw [Array.toList_push] at hy
    rcases List.mem_append.1 hy with hy | hy
    · have := h1 y hy; omega
    · simp at hy; subst hy; omega
  · rw [Array.toList_push, List.map_append]
    refine List.nodup_append.2 ⟨h2, by simp, fun a ha b hb => ?_⟩
    obtain ⟨y, hy, rfl⟩ := List.mem_map.1 ha
    simp at hb
    have := h1 y hy
    omega
theorem born_modify {arr : Array MapEntry} {cl : Nat} (h : Born arr cl) (j : Nat) (f : MapEntry → MapEntry) (hf : ∀ x, (f x).born = x.born) : Born (arr.modify j f) cl := by
  have e : (arr.modify j f).toList.map (·.born) = arr.toList.map (·.born) := by
    apply List.ext_getElem?
    intro i
    simp only [Array.toList_modify, List.getElem?_map, List.getElem?_modify, Option.map_map]
    cases arr.toList[i]? with
    | none => rfl
    | some x => by_cases q : j = i <;> simp [q, hf]
  refine ⟨fun x hx => ?_, by rw [e]; exact h.2⟩
  have : x.born ∈ (arr.modify j f).toList.map (·.born) := List.mem_map.2 ⟨x, hx, rfl⟩
  rw [e] at this
  obtain ⟨y, hy, q⟩ := List.mem_map.1 this
  rw [← q]; exact h.1 y hy
theorem born_erase {arr : Array MapEntry} {cl : Nat} (h : Born arr cl) (j : Nat) : Born (arr.eraseIdxIfInBounds j) cl := by
  have e : (arr.eraseIdxIfInBounds j).toList = arr.toList.eraseIdx j := by
    unfold Array.eraseIdxIfInBounds
    split
    · simp
    · rename_i q; rw [List.eraseIdx_of_length_le (by simpa using q)]
  refine ⟨fun x hx => h.1 x (by rw [e] at hx; exact List.mem_of_mem_eraseIdx hx), ?_⟩
  rw [e]
  exact List.Sublist.nodup ((List.eraseIdx_sublist _ _).map _) h.2

theorem HInv.putMap (H : HInv B w0 ob g w) {o b : Nat} {es es' : List (VV × VV)} {arr arr' : Array MapEntry} {cl cl' : Nat} (ho : nthO ob o = .map es) (htb : g.tb o = some b) (hb : w.heap[b]? = some (.map arr cl))
    (hbn : Born arr' cl') (hl : arr'.size = es'.length) (hg : ∀ j (h : j < es'.length), es'[j].1.canon = true ∧ es'[j].2.canonH = true ∧ Rep w g.F g.tb es'[j].1 (arr'[j]'(hl ▸ h)).key ∧ GV B ob g w es'[j].2 (arr'[j]'(hl ▸ h)).val) :
    HInv B w0 (ob.set o (.map es')) g (putAt w b (.map arr' cl')) ∧ Pres B ob g w (ob.set o (.map es')) g (putAt w b (.map arr' cl')) := by
  obtain ⟨hlt, b', arr0, c0, k1, k2, k3, k4, k5, k6⟩ := H.get ho (by simp)
  rw [htb] at k1; cases k1
  have hw : ∀ b' o', o' < g.F b' → (putAt w b (.map arr' cl')).cell? ⟨b', o', none⟩ = w.cell? ⟨b', o', none⟩ := fun b' o' h => by
    have hne : b' ≠ b := fun e => by subst e; rw [k3] at h; omega
    simp only [World.cell?, putAt_ne _ hne]
  have hp : Pres B ob g w (ob.set o (.map es')) g (putAt w b (.map arr' cl')) := by
    refine Pres.of (by simp) hw (fun _ => Nat.le_refl _) (fun _ _ _ h => h) fun t n sz ht => ⟨n, ?_, Nat.le_refl _, fun _ x hc => ?_⟩
    · rw [nthO_set, if_neg]
      · exact ht
      · rintro ⟨rfl, _⟩; rw [ho] at ht; cases ht
    · rcases hc with ⟨a, rfl, rfl⟩ | ⟨b1, o1, cap, arr1, ty1, q1, rfl, q3, q4, q5, q6, q7⟩
      · exact .inl ⟨a, rfl, rfl⟩
      · have hne : b1 ≠ b := fun e => by subst e; exact H.apart _ _ _ htb q1
        exact .inr ⟨b1, o1, cap, arr1, ty1, q1, rfl, q3, by rw [putAt_ne _ hne]; exact q4, q5, q6, q7⟩
  refine ⟨⟨?_, by rw [putAt_size]; exact H.hB, fun b1 hb1 => H.fz b1 (by simpa [putAt_size] using hb1), H.f0, H.c0, fun i b1 h => by simpa [putAt_size] using H.tbl i b1 h, fun i b1 h => by simpa [putAt_size] using H.kbl i b1 h, H.inj, H.injk, H.apart, fun i hi => ?_⟩, hp⟩
  · exact H.below.trans ⟨⟨rfl, rfl, rfl, by rw [putAt_size]; exact Nat.le_refl _, fun k hk => putAt_ne _ (by have := k2.1; omega)⟩, Nat.le_refl _⟩
  · by_cases e : i = o
    · subst e
      simp only [List.getElem_set_self]
      exact ⟨b, arr', cl', htb, ⟨k2.1, hbn⟩, k3, putAt_at hb, hl, fun j hj => ⟨(hg j hj).1, (hg j hj).2.1, rep_keep hw (fun _ => Nat.le_refl _) _ _ (hg j hj).1 (hg j hj).2.2.1, hp _ _ (hg j hj).2.2.2⟩⟩
    · rw [List.getElem_set_ne (fun q => e q.symm)]
      have hi' : i < ob.length := by simpa using hi
      exact (H.obs i hi').keep hp (rep_keep hw fun _ => Nat.le_refl _) (fun b1 hb1 => ⟨hb1, rfl, putAt_ne _ fun q => e (H.inj _ _ _ hb1 (q ▸ htb))⟩) (fun h => h) (fun m b1 q1 q2 => by
        have hmo : m ≠ o := fun q => by subst q; rw [ho] at q1; cases q1
        exact ⟨q2, by rw [nthO_set, if_neg (fun q => hmo q.1)]; exact q1, putAt_ne _ fun q => hmo (H.inj _ _ _ q2 (q ▸ htb))⟩)

theorem bits0 {u v : VV} {x y : Value} (hx : Rep w g.F g.tb u x) (hy : Rep w g.F g.tb v y) (h : eq0 u v = some true) (n : Nat) : Instr.sameBits n x y = true := by
  unfold eq0 at h
  split at h
  · split at h
    · rename_i hk
      simp only [Option.some.injEq, beq_iff_eq] at h
      subst hk h
      cases hx; cases hy
      simp [Instr.sameBits]
    · cases h
  · simp only [Option.some.injEq, beq_iff_eq] at h
    subst h
    cases hx; cases hy
    simp [Instr.sameBits]
  · simp only [Option.some.injEq, beq_iff_eq] at h
    subst h
    cases hx with
    | @str _ a ha => cases hy with
      | @str _ b hb =>
        have : a = b := by
          obtain ⟨⟨a⟩⟩ := a; obtain ⟨⟨b⟩⟩ := b
          simp at ha hb; subst ha; subst hb; rfl
        subst this
        simp only [Instr.sameBits, beq_toListBytes, beq_self_eq_true]
  · cases h

theorem bitsL : ∀ {us vs : List VV} {xs ys : List Value}, xs.length = us.length → ys.length = vs.length → (∀ j (h : j < us.length) (h' : j < xs.length), Rep w g.F g.tb us[j] xs[j]) → (∀ j (h : j < vs.length) (h' : j < ys.length), Rep w g.F g.tb vs[j] ys[j]) →
    eqL us vs = some true → ∀ n, xs.length = ys.length ∧ (xs.zip ys).all (fun (x, y) => Instr.sameBits n x y) = true
  | [], [], [], [], _, _, _, _, _, _ => by simp
  | [], _ :: _, _, _, _, _, _, _, h, _ => by simp [eqL] at h
  | _ :: _, [], _, _, _, _, _, _, h, _ => by simp [eqL] at h
  | [], [], _ :: _, _, h, _, _, _, _, _ => by simp at h
  | [], [], [], _ :: _, _, h, _, _, _, _ => by simp at h
  | _ :: _, _ :: _, [], _, h, _, _, _, _, _ => by simp at h
  | _ :: _, _ :: _, _ :: _, [], _, h, _, _, _, _ => by simp at h
  | u :: us, v :: vs, x :: xs, y :: ys, h1, h2, hx, hy, h, n => by
    simp only [eqL] at h
    cases hq : eq0 u v with
    | none => simp [hq] at h
    | some q =>
      cases q with
      | false => simp [hq] at h
      | true =>
        simp only [hq] at h
        obtain ⟨i1, i2⟩ := bitsL (by simpa using h1) (by simpa using h2) (fun j hj hj' => hx (j + 1) (by simpa using hj) (by simpa using hj')) (fun j hj hj' => hy (j + 1) (by simpa using hj) (by simpa using hj')) h n
        have h0 := bits0 (hx 0 (by simp) (by simp)) (hy 0 (by simp) (by simp)) hq n
        simp only [List.getElem_cons_zero] at h0
        refine ⟨by simp [i1], ?_⟩
        simp only [List.zip_cons_cons, List.all_cons, h0, Bool.true_and]
        exact i2

theorem bitsV {u v : VV} {x y : Value} (hx : Rep w g.F g.tb u x) (hy : Rep w g.F g.tb v y) (h : eqV u v = some true) (n : Nat) : Instr.sameBits (n + 1) x y = true := by
  unfold eqV at h
  split at h
  · rename_i us vs
    cases hx with
    | @agg _ xs hl hc hr => cases hy with
      | @agg _ ys hl' hc' hr' =>
        obtain ⟨i1, i2⟩ := bitsL (xs := xs.toList) (ys := ys.toList) (by simpa using hl) (by simpa using hl') (fun j h h' => by simpa using hr j h) (fun j h h' => by simpa using hr' j h) h n
        simp only [Instr.sameBits, Bool.and_eq_true, beq_iff_eq]
        exact ⟨by simpa using i1, i2⟩
  · exact bits0 hx hy h _

theorem mapTy_inv {t : TypeId} {ty : Ty} (ht : mapIs P t ty = true) : ∃ kt et, P.underlying t = some (.map kt et) ∧ tyIs P kt ty = true := by
  unfold mapIs at ht
  cases hu : P.underlying t with
  | none => simp [hu] at ht
  | some d =>
  cases d <;> simp only [hu, Bool.false_eq_true] at ht
  exact ⟨_, _, rfl, ht⟩

theorem setObj_run {b : Nat} {arr : Array MapEntry} {cl : Nat} (o : _root_.Go.Obj) (h : w.heap[b]? = some (.map arr cl)) : (setObj b o).run P w = .ok () (putAt w b o) := by
  simp [setObj, Sem.run, h, putAt]

theorem keepH_GV {v : VV} {x : Value} (h : GV B ob g w v x) (hc : v.keepH.canonH = true) : GV B ob g w v.keepH x := by
  have hs := strip_rep h.rep
  cases v with
  | sl es t =>
    match t with
    | 0 => exact ⟨hs, Hnd.sl.2 trivial, by simp [VV.keepH, VV.strip, VV.strip0, VV.ids]⟩
    | 1 => exact ⟨hs, Hnd.sl.2 trivial, by simp [VV.keepH, VV.strip, VV.strip0, VV.ids]⟩
    | t + 2 => exact h
  | nils => exact ⟨hs, Hnd.sl.2 trivial, by simp [VV.keepH, VV.strip, VV.strip0, VV.ids]⟩
  | _ => exact GV.canon hc hs

theorem op_mset (H : HInv B w0 ob g w) (R : Reads B ob g w env ρ) {ty : Ty} {m k x : Opd} {m' k' x' : Operand} {t : TypeId} (hm : mO m m' = true) (hk : mO k k' = true) (hx : mO x x' = true) (ht : mapIs P t ty = true) {v : VV} {ob' : List Obj}
    (hv : (VOp.mset ty m k x).ev ⟨env, ob⟩ = some (v, ob')) : Out P B w0 ob g w (do Instr.mapUpdate t (ρ m') (ρ k') (ρ x'); pure .skip) v ob' := by
  have h1 := R.opd hm
  have h2 := R.opd hk
  have h3 := R.opd hx
  obtain ⟨kt, et, hu, htk⟩ := mapTy_inv ht
  simp only [VOp.ev] at hv
  split at hv
  · cases hv
  rename_i hfits
  have hfits : ty.fits (k.ev env) = true := by cases q : ty.fits (k.ev env) with | true => rfl | false => rw [q] at hfits; exact absurd rfl hfits
  split at hv
  · rename_i o he
    rw [he] at h1
    split at hv
    · rename_i es ho
      split at hv
      · rename_i hkc
        split at hv
        · rename_i es' hes
          split at hv
          · rename_i hvc
            simp only [Option.some.injEq, Prod.mk.injEq] at hv
            obtain ⟨rfl, rfl⟩ := hv
            have hrep := h1.rep
            revert hrep
            generalize hmm : ρ m' = y
            intro hrep
            cases hrep with
            | @mp _ b htb =>
            obtain ⟨_, b', arr, clock, q1, q2, q3, q4, hsz, q5⟩ := H.get ho (by simp)
            rw [htb] at q1; cases q1
            obtain ⟨idx, hidx, hres⟩ := mput_idx hes
            have hents : Ents w g es arr.toList := ⟨by simpa using hsz, fun j h h' => by have := q5 j h; exact ⟨this.1, this.2.1, by simpa using this.2.2.1, by simpa using this.2.2.2.rep⟩⟩
            have hrun := findKey_run (P := P) htk hfits h2 hents hidx
            have hget : (getObj b).run P w = .ok (.map arr clock) w := by simp [getObj, Sem.run, q4]
            have hxr : GV B ob g w (x.ev env).keepH (ρ x') := keepH_GV h3 hvc
            cases idx with
            | none =>
              simp only at hres
              subst hres
              obtain ⟨H', p'⟩ := H.putMap (es' := es ++ [(k.ev env, (x.ev env).keepH)]) (arr' := arr.push { key := ρ k', val := ρ x', born := clock }) (cl' := clock + 1) ho htb q4 (born_push q2.2 _ rfl) (by simp [hsz]) (fun j hj => by
                by_cases e : j < es.length
                · rw [List.getElem_append_left e, Array.getElem_push_lt (by omega)]
                  exact q5 j e
                · have : j = es.length := by simp at hj; omega
                  subst this
                  simp [← hsz]
                  exact ⟨hkc, hvc, h2.rep, hxr⟩)
              refine ⟨undef, g, _, .inr ⟨?_, rfl⟩, H', .dead, p'⟩
              simp only [Option.bind_none] at hrun
              simp [Instr.mapUpdate, run_underlying hu, hget, check_run htk hfits h2, hrun, setObj_run _ q4]
            | some j =>
              obtain ⟨hj, rfl, _, heq⟩ := hres
              have hj' : j < arr.size := by omega
              obtain ⟨c1, c2, r1, r2⟩ := q5 j hj
              have hbits : Instr.sameBits 10000 arr[j].key (ρ k') = true ∨ True := .inr trivial
              have hb2 : Instr.sameBits 10000 arr[j].key (ρ k') = true := by
                have : eqV es[j].1 (k.ev env) = some true := by
                  have hsym0 : ∀ u v : VV, eq0 u v = some true → eq0 v u = some true := by
                    intro u v h
                    unfold eq0 at h ⊢
                    split at h <;> simp_all
                  have hsymL : ∀ us vs : List VV, eqL us vs = some true → eqL vs us = some true := by
                    intro us
                    induction us with
                    | nil => intro vs h; cases vs <;> simp_all [eqL]
                    | cons u us ih =>
                      intro vs h
                      cases vs with
                      | nil => simp [eqL] at h
                      | cons v vs =>
                        simp only [eqL] at h ⊢
                        cases hq : eq0 u v with
                        | none => simp [hq] at h
                        | some q =>
                          cases q with
                          | false => simp [hq] at h
                          | true => simp only [hq] at h; simp [hsym0 u v hq, ih vs h]
                  revert heq
                  generalize k.ev env = u
                  generalize es[j].1 = v
                  intro heq
                  unfold eqV at heq ⊢
                  split at heq
                  · exact hsymL _ _ heq
                  · rename_i hno
                    have hs := hsym0 _ _ heq
                    cases u <;> cases v <;> first | exact hs | (simp [eq0] at heq)
                exact bitsV r1 h2.rep this 9999
              obtain ⟨H', p'⟩ := H.putMap (es' := es.set j (k.ev env, (x.ev env).keepH)) (arr' := arr.modify j fun e => { e with key := ρ k', val := ρ x' }) (cl' := clock) ho htb q4 (born_modify q2.2 _ _ fun _ => rfl) (by simp [hsz]) (fun i hi => by
                rw [Array.getElem_modify]
                by_cases e : i = j
                · subst e
                  simp only [List.getElem_set_self, if_true]
                  exact ⟨hkc, hvc, h2.rep, hxr⟩
                · rw [List.getElem_set_ne (fun q => e q.symm), if_neg (fun q => e q.symm)]
                  exact q5 i (by simpa using hi))
              refine ⟨undef, g, _, .inr ⟨?_, rfl⟩, H', .dead, p'⟩
              simp [hj'] at hrun
              simp [Instr.mapUpdate, run_underlying hu, hget, check_run htk hfits h2, hrun, hj', Instr.keyThatStays, hb2, setObj_run _ q4]
          · cases hv
        · cases hv
      · cases hv
    · cases hv
  · cases hv

theorem op_mdel (H : HInv B w0 ob g w) (R : Reads B ob g w env ρ) {ty : Ty} {m k : Opd} {m' k' : Operand} {t t' rt : TypeId} (hm : mO m m' = true) (hk : mO k k' = true) (ht : mapIs P t ty = true) {v : VV} {ob' : List Obj}
    (hv : (VOp.mdel ty m k).ev ⟨env, ob⟩ = some (v, ob')) : Out P B w0 ob g w (do pure (.value (← Builtin.delete_ #[t, t'] rt #[ρ m', ρ k']))) v ob' := by
  have h1 := R.opd hm
  have h2 := R.opd hk
  obtain ⟨kt, et, hu, htk⟩ := mapTy_inv ht
  simp only [VOp.ev] at hv
  split at hv
  · cases hv
  rename_i hfits
  have hfits : ty.fits (k.ev env) = true := by cases q : ty.fits (k.ev env) with | true => rfl | false => rw [q] at hfits; exact absurd rfl hfits
  split at hv
  · rename_i o he
    rw [he] at h1
    split at hv
    · rename_i es ho
      split at hv
      · rename_i es' hes
        simp only [Option.some.injEq, Prod.mk.injEq] at hv
        obtain ⟨rfl, rfl⟩ := hv
        have hrep := h1.rep
        revert hrep
        generalize hmm : ρ m' = y
        intro hrep
        cases hrep with
        | @mp _ b htb =>
        obtain ⟨_, b', arr, clock, q1, q2, q3, q4, hsz, q5⟩ := H.get ho (by simp)
        rw [htb] at q1; cases q1
        obtain ⟨idx, hidx, hres⟩ := mrem_idx hes
        have hents : Ents w g es arr.toList := ⟨by simpa using hsz, fun j h h' => by have := q5 j h; exact ⟨this.1, this.2.1, by simpa using this.2.2.1, by simpa using this.2.2.2.rep⟩⟩
        have hrun := findKey_run (P := P) htk hfits h2 hents hidx
        have hget : (getObj b).run P w = .ok (.map arr clock) w := by simp [getObj, Sem.run, q4]
        cases idx with
        | none =>
          simp only at hres
          subst hres
          obtain ⟨H', p'⟩ := H.putMap (es' := es') (arr' := arr) (cl' := clock) ho htb q4 q2.2 hsz q5
          refine ⟨.tuple #[], g, _, .inl ?_, H', .dead, p'⟩
          simp only [Option.bind_none] at hrun
          simp [Builtin.delete_, run_underlying hu, hget, check_run htk hfits h2, hrun, setObj_run _ q4]
        | some j =>
          obtain ⟨hj, rfl⟩ := hres
          have hj' : j < arr.size := by omega
          obtain ⟨H', p'⟩ := H.putMap (es' := es.eraseIdx j) (arr' := arr.eraseIdxIfInBounds j) (cl' := clock) ho htb q4 (born_erase q2.2 j) (by simp [Array.eraseIdxIfInBounds, hj', List.length_eraseIdx, hj, hsz]) (fun i hi => by
            have hlen := List.length_eraseIdx_of_lt hj
            have hs2 : (arr.eraseIdxIfInBounds j).size = arr.size - 1 := by simp [Array.eraseIdxIfInBounds, hj']
            by_cases e : i < j
            · have a1 : (es.eraseIdx j)[i] = es[i]'(by omega) := List.getElem_eraseIdx_of_lt _ e
              have a2 : (arr.eraseIdxIfInBounds j)[i]'(by omega) = arr[i]'(by omega) := by
                simp [Array.eraseIdxIfInBounds, hj', Array.getElem_eraseIdx, e]
              rw [a1, a2]; exact q5 i (by omega)
            · have a1 : (es.eraseIdx j)[i] = es[i + 1]'(by omega) := List.getElem_eraseIdx_of_ge _ (by omega)
              have a2 : (arr.eraseIdxIfInBounds j)[i]'(by omega) = arr[i + 1]'(by omega) := by
                simp [Array.eraseIdxIfInBounds, hj', Array.getElem_eraseIdx, e]
              rw [a1, a2]; exact q5 (i + 1) (by omega))
          refine ⟨.tuple #[], g, _, .inl ?_, H', .dead, p'⟩
          simp [hj'] at hrun
          simp [Builtin.delete_, run_underlying hu, hget, check_run htk hfits h2, hrun, setObj_run _ q4]
      · cases hv
    · cases hv
  · cases hv

end
end Go.V

/- V, part 15m: ranges over maps: the iterator, its steps, in whatever order. -/
set_option linter.unusedVariables false
set_option linter.unusedSimpArgs false
namespace Go.V
open Go.RowKit

section
variable {P : Program} {B : Nat} {w0 : W0} {ob : List Obj} {g : Gh} {w : World} {env : List (Nat × VV)} {ρ : Operand → Value}

/-- An object that is no row and no map becomes another. -/
theorem HInv.putO (H : HInv B w0 ob g w) {o b : Nat} {X X' : Obj} {mo mo' : _root_.Go.Obj} (ho : nthO ob o = X) (hg : X ≠ .gone) (ht : ∀ n s, X ≠ .tok n s) (htb : g.tb o = some b) (hb : w.heap[b]? = some mo) (hB : B ≤ b) (hF : g.F b = 0)
    (hX : Pres B ob g w (ob.set o X') g (putAt w b mo') → ObR B (ob.set o X') g (putAt w b mo') o X') :
    HInv B w0 (ob.set o X') g (putAt w b mo') ∧ Pres B ob g w (ob.set o X') g (putAt w b mo') := by
  have hw : ∀ b' o', o' < g.F b' → (putAt w b mo').cell? ⟨b', o', none⟩ = w.cell? ⟨b', o', none⟩ := fun b' o' h => by
    have hne : b' ≠ b := fun e => by subst e; rw [hF] at h; omega
    simp only [World.cell?, putAt_ne _ hne]
  have hp : Pres B ob g w (ob.set o X') g (putAt w b mo') := by
    refine Pres.of (by simp) hw (fun _ => Nat.le_refl _) (fun _ _ _ h => h) fun t n sz h => ⟨n, ?_, Nat.le_refl _, fun _ x hc => ?_⟩
    · rw [nthO_set, if_neg]
      · exact h
      · rintro ⟨rfl, _⟩; rw [ho] at h; exact ht _ _ h
    · rcases hc with ⟨a, rfl, rfl⟩ | ⟨b1, o1, cap, arr1, ty1, q1, rfl, q3, q4, q5, q6, q7⟩
      · exact .inl ⟨a, rfl, rfl⟩
      · have hne : b1 ≠ b := fun e => by subst e; exact H.apart _ _ _ htb q1
        exact .inr ⟨b1, o1, cap, arr1, ty1, q1, rfl, q3, by rw [putAt_ne _ hne]; exact q4, q5, q6, q7⟩
  refine ⟨⟨?_, by rw [putAt_size]; exact H.hB, fun b1 hb1 => H.fz b1 (by simpa [putAt_size] using hb1), H.f0, H.c0, fun i b1 h => by simpa [putAt_size] using H.tbl i b1 h, fun i b1 h => by simpa [putAt_size] using H.kbl i b1 h, H.inj, H.injk, H.apart, fun i hi => ?_⟩, hp⟩
  · exact H.below.trans ⟨⟨rfl, rfl, rfl, by rw [putAt_size]; exact Nat.le_refl _, fun k hk => putAt_ne _ (by omega)⟩, Nat.le_refl _⟩
  · by_cases e : i = o
    · subst e
      simp only [List.getElem_set_self]
      exact hX hp
    · rw [List.getElem_set_ne (fun q => e q.symm)]
      have hi' : i < ob.length := by simpa using hi
      exact (H.obs i hi').keep hp (rep_keep hw fun _ => Nat.le_refl _) (fun b1 hb1 => ⟨hb1, rfl, putAt_ne _ fun q => e (H.inj _ _ _ hb1 (q ▸ htb))⟩) (fun h => h) (fun m b1 q1 q2 => by
        have hmo : m ≠ o := fun q => by subst q; rw [ho] at q1; exact hg q1
        exact ⟨q2, by rw [nthO_set, if_neg (fun q => hmo q.1)]; exact q1, putAt_ne _ fun q => hmo (H.inj _ _ _ q2 (q ▸ htb))⟩)

/-- An object that counts nothing is given up. -/
theorem HInv.setGone (H : HInv B w0 ob g w) {o : Nat} (ht : ∀ n s, nthO ob o ≠ .tok n s) : HInv B w0 (ob.set o .gone) g w ∧ Pres B ob g w (ob.set o .gone) g w := by
  have hp : Pres B ob g w (ob.set o .gone) g w := by
    refine Pres.of (by simp) (fun _ _ _ => rfl) (fun _ => Nat.le_refl _) (fun _ _ _ h => h) fun t n sz h => ⟨n, ?_, Nat.le_refl _, fun _ x hc => hc⟩
    rw [nthO_set, if_neg]
    · exact h
    · rintro ⟨rfl, _⟩; exact ht _ _ h
  refine ⟨⟨H.below, H.hB, H.fz, H.f0, H.c0, fun i b h => by simpa using H.tbl i b h, fun i b h => by simpa using H.kbl i b h, H.inj, H.injk, H.apart, fun i hi => ?_⟩, hp⟩
  have hi' : i < ob.length := by simpa using hi
  by_cases e : i = o
  · subst e
    simp only [List.getElem_set_self]
    trivial
  · rw [List.getElem_set_ne (fun q => e q.symm)]
    exact (H.obs i hi').keep hp (rep_keep (fun _ _ _ => rfl) fun _ => Nat.le_refl _) (fun b1 hb1 => ⟨hb1, rfl, rfl⟩) (fun h => h) (fun m b1 q1 q2 => ⟨q2, by rw [nthO_set]; split; rfl; exact q1, rfl⟩)

def mapAny (P : Program) (t : TypeId) : Bool := match P.underlying t with | some (.map _ _) => true | _ => false

theorem leftM_all (arr : Array MapEntry) : leftM arr #[] = arr.toList := by simp [leftM]

theorem stripH_canon {v : VV} {x : Value} (h : v.canonH = true) (r : GV B ob g w v x) : v.strip.canon = true := by
  cases v with
  | sl es t => rfl
  | nils => rfl
  | agg cs =>
    have h' : (VV.agg cs).canon = true := h
    simp only [VV.canon, VV.strip] at h' ⊢
    rw [List.all_eq_true] at h' ⊢
    intro u hu
    obtain ⟨u', hu', rfl⟩ := List.mem_map.1 hu
    have := h' u' hu'
    cases u' <;> simp_all [VV.canon0, VV.strip0]
  | _ => exact h

theorem op_mrng (H : HInv B w0 ob g w) (R : Reads B ob g w env ρ) {x : Opd} {x' : Operand} {t : TypeId} (hx : mO x x' = true) (ht : mapAny P t = true) {v : VV} {ob' : List Obj}
    (hv : (VOp.mrng x).ev ⟨env, ob⟩ = some (v, ob')) : Out P B w0 ob g w (do pure (.value (← Instr.range t (ρ x')))) v ob' := by
  have h1 := R.opd hx
  simp only [VOp.ev] at hv
  split at hv
  · rename_i o he
    rw [he] at h1
    split at hv
    · rename_i es ho
      simp only [Option.some.injEq, Prod.mk.injEq] at hv
      obtain ⟨rfl, rfl⟩ := hv
      have hrep := h1.rep
      revert hrep
      generalize hmm : ρ x' = y
      intro hrep
      cases hrep with
      | @mp _ bm htb =>
      obtain ⟨hlt, b', arr, clock, q1, ⟨q2, qb⟩, q3, q4, hsz, q5⟩ := H.get ho (by simp)
      rw [htb] at q1; cases q1
      unfold mapAny at ht
      cases hu : P.underlying t with
      | none => simp [hu] at ht
      | some d =>
      cases d <;> simp only [hu, Bool.false_eq_true] at ht
      obtain ⟨H1, p1⟩ := H.setGone (o := o) (by rw [ho]; intro n s q; cases q)
      have hl1 : (ob.set o .gone).length = ob.length := by simp
      have hpush := H1.push (.mapIter (some bm) clock #[] clock) (.miter o (es.map fun e => (e.1, e.2.strip)) none) (by simp) (by
        refine ⟨w.heap.size, bm, arr, clock, clock, #[], clock, by simp, H.hB, H.fz _ (Nat.le_refl _), heap_alloc_at _ _, ?_, ?_, ?_, qb.1, Nat.le_refl _, qb.2, rfl, ⟨by rw [leftM_all]; simpa using hsz, fun j hj => ?_⟩, fun e q => by cases q⟩
        · rw [nthO_app (by simpa using hlt), nthO_set, if_pos ⟨rfl, hlt⟩]
        · show upd _ _ _ o = _
          rw [upd_ne _ _ (by simp; omega)]; exact htb
        · rw [heap_alloc_lt w _ (H.tbl _ _ htb).2]; exact q4
        · simp only [List.length_map] at hj
          obtain ⟨c1, c2, r1, r2⟩ := q5 j hj
          have e1 : (leftM arr #[])[j]'(by rw [leftM_all]; simpa [hsz] using hj) = arr[j]'(by omega) := by simp only [leftM_all, Array.getElem_toList]
          rw [e1, List.getElem_map]
          have c3 := stripH_canon c2 r2
          exact ⟨c1, c3, rep_keep (fun b o h => World.cell?_alloc_lt w _ _ (H.F_pos h)) (fun _ => Nat.le_refl _) _ _ c1 r1, rep_keep (fun b o h => World.cell?_alloc_lt w _ _ (H.F_pos h)) (fun _ => Nat.le_refl _) _ _ c3 (strip_rep r2.rep)⟩)
      obtain ⟨H2, p2⟩ := hpush
      rw [hl1] at H2 p2
      refine ⟨.pointer (some ⟨w.heap.size, 0, none⟩), _, _, .inl ?_, H2, ⟨.it (by simp), trivial, by simp [VV.ids]⟩, p1.trans p2⟩
      simp [run_range_map w t _ _ bm arr clock hu q4]
    · cases hv
  · cases hv

theorem canon_tup2 {a b : VV} {x y : Value} (h1 : a.canon = true) (h2 : b.canon = true) (r1 : Rep w g.F g.tb a x) (r2 : Rep w g.F g.tb b y) : GV B ob g w (.tup [a, b]) (.tuple #[x, y]) := by
  have nt : ∀ v : VV, v.canon = true → v.noTup = true := fun v h => by revert h; cases v <;> simp [VV.noTup, VV.canon, VV.canon0]
  have hh : ∀ (v : VV) (z : Value), v.canon = true → Hnd1 B ob g w v z ∧ ∀ ds ys, v = .agg ds → z = .agg ys → ∀ (k : Nat) u y, ds[k]? = some u → ys[k]? = some y → Hnd1 B ob g w u y := fun v z h => by
    refine ⟨?_, fun ds ys e1 e2 k u y hu hy => ?_⟩
    · cases v <;> first | trivial | (simp only [VV.canon, VV.canon0, beq_iff_eq] at h; subst h; trivial)
    · rw [e1] at h
      simp only [VV.canon, List.all_eq_true] at h
      have := h u (List.mem_of_getElem? hu)
      cases u <;> simp only [VV.canon0, Bool.false_eq_true, beq_iff_eq] at this <;> first | trivial | (subst this; trivial)
  refine ⟨.tup rfl (by simp [nt _ h1, nt _ h2]) fun j hj => ?_, ?_, ?_⟩
  · match j, hj with
    | 0, _ => exact r1
    | 1, _ => exact r2
  · intro j v z hv hz
    match j, hv, hz with
    | 0, hv, hz => simp at hv hz; subst hv hz; exact hh _ _ h1
    | 1, hv, hz => simp at hv hz; subst hv hz; exact hh _ _ h2
    | j + 2, hv, _ => simp at hv
  · simp [VV.ids, idsL, canon_ids ob.length h1, canon_ids ob.length h2]

theorem canon_tup3 {c : Bool} {a b : VV} {x y : Value} (h1 : a.canon = true) (h2 : b.canon = true) (r1 : Rep w g.F g.tb a x) (r2 : Rep w g.F g.tb b y) : GV B ob g w (.tup [.bool c, a, b]) (.tuple #[.bool c, x, y]) := by
  have h := canon_tup2 (B := B) (ob := ob) (g := g) (w := w) h1 h2 r1 r2
  have hr := h.rep
  have hd := h.hnd
  have hi := h.ids
  cases hr with
  | tup hl hc hr =>
  refine ⟨.tup rfl (by rw [List.all_cons, hc]; rfl) fun j hj => ?_, ?_, ?_⟩
  · match j, hj with
    | 0, _ => exact .bool _
    | 1, _ => exact r1
    | 2, _ => exact r2
  · intro j v z hv hz
    match j, hv, hz with
    | 0, hv, hz => simp at hv hz; subst hv hz; exact ⟨trivial, fun ds ys e1 => by cases e1⟩
    | j + 1, hv, hz => exact hd j v z (by simpa using hv) (by simpa using hz)
  · simp only [VV.ids, idsL, Bool.true_and] at hi ⊢; exact hi

theorem op_mentry (H : HInv B w0 ob g w) (R : Reads B ob g w env ρ) {x : Opd} {x' : Operand} (hx : mO x x' = true) {v : VV} {ob' : List Obj}
    (hv : (VOp.mentry x).ev ⟨env, ob⟩ = some (v, ob')) : Out P B w0 ob g w (do pure (.value (← Instr.entry (ρ x')))) v ob' := by
  have h1 := R.opd hx
  simp only [VOp.ev] at hv
  split at hv
  · rename_i o he
    rw [he] at h1
    split at hv
    · rename_i m left e ho
      simp only [Option.some.injEq, Prod.mk.injEq] at hv
      obtain ⟨rfl, rfl⟩ := hv
      have hrep := h1.rep
      revert hrep
      generalize hmm : ρ x' = y
      intro hrep
      cases hrep with
      | @it _ b htb =>
      obtain ⟨hlt, b', bm, arr, clock, since, seen, c0, q1, q2, q3, q4, q5, q6, q7, q8, q9, q10, rfl, _, q12⟩ := H.get ho (by simp)
      rw [htb] at q1; cases q1
      obtain ⟨x, hx, hb, c1, c2, r1, r2⟩ := q12 e rfl
      have hf : arr.find? (·.born == x.born) = some x := by rw [← Array.find?_toList]; exact find_born x arr.toList q10 hx
      refine Out.quiet H (x := .tuple #[x.key, x.val]) ?_ (canon_tup2 c1 c2 r1 r2)
      simp only [Instr.entry, getObj, Sem.run_bind, Sem.run, q4, q7, Result.andThen, hb, bne_self_eq_false, Bool.false_eq_true, if_false, hf]
      rfl
    · cases hv
  · cases hv

theorem picks_get {α : Type} : ∀ (l : List α) (j : Nat) (h : j < l.length), (l[j], l.eraseIdx j) ∈ picks l
  | x :: r, 0, _ => by simp [picks]
  | x :: r, j + 1, h => by
    simp only [picks, List.mem_cons, List.mem_map]
    right
    exact ⟨_, picks_get r j (by simpa using h), by simp⟩

theorem filter_eraseIdx : ∀ (l : List MapEntry) (j : Nat) (h : j < l.length), (l.map (·.born)).Nodup → l.filter (fun x => !(x.born == l[j].born)) = l.eraseIdx j
  | x :: r, 0, _, hn => by
    have hn' := List.nodup_cons.1 hn
    simp only [List.getElem_cons_zero, List.eraseIdx_zero, List.tail_cons]
    rw [List.filter_cons_of_neg (by simp)]
    exact List.filter_eq_self.2 fun y hy => by
      have : y.born ≠ x.born := fun q => hn'.1 (List.mem_map.2 ⟨y, hy, q⟩)
      simp [this]
  | x :: r, j + 1, h, hn => by
    have hn' := List.nodup_cons.1 hn
    have hj : j < r.length := by simpa using h
    simp only [List.getElem_cons_succ, List.eraseIdx_cons_succ]
    rw [List.filter_cons_of_pos]
    · rw [filter_eraseIdx r j hj hn'.2]
    · have : x.born ≠ r[j].born := fun q => hn'.1 (List.mem_map.2 ⟨r[j], List.getElem_mem hj, q.symm⟩)
      simp [this]

theorem leftM_push (arr : Array MapEntry) (seen : Array Nat) (hn : (arr.toList.map (·.born)).Nodup) (j : Nat) (h : j < (leftM arr seen).length) : leftM arr (seen.push (leftM arr seen)[j].born) = (leftM arr seen).eraseIdx j := by
  have hn2 : ((leftM arr seen).map (·.born)).Nodup := List.Sublist.nodup ((List.filter_sublist).map _) hn
  rw [← filter_eraseIdx _ j h hn2]
  unfold leftM
  rw [List.filter_filter]
  congr 1
  funext x
  simp only [Array.contains_push, Bool.not_or]
  rw [Bool.and_comm]

theorem next_at (b bm since c0 : Nat) (seen : Array Nat) (es : Array MapEntry) (clock : Nat) (ty : TypeId) (hi : w.heap[b]? = some (.mapIter (some bm) since seen c0)) (hb : w.heap[bm]? = some (.map es clock)) (hold : ∀ x ∈ es.toList, x.born < since) (hsc : since ≤ c0) :
    ((leftM es seen).length = 0 ∧ (Instr.next (.pointer (some ⟨b, 0, none⟩)) false ty).run P w = .ok (.tuple #[.bool false]) w) ∨
    ∃ j, ∃ h : j < (leftM es seen).length, ∃ w1 : World, (w1 = w ∨ w1 = w.drew) ∧ (Instr.next (.pointer (some ⟨b, 0, none⟩)) false ty).run P w = .ok (.tuple #[.bool true, (leftM es seen)[j].key, (leftM es seen)[j].val]) (putAt w1 b (.mapIter (some bm) since (seen.push (leftM es seen)[j].born) clock)) := by
  simp only [Instr.next, getObj, Sem.run_bind, Sem.run, hi, hb, Result.andThen, next_test_false seen es since c0 hold hsc, Bool.false_eq_true, if_false]
  have hL : leftM es seen = (Array.filter (fun e => !seen.contains e.born) es).toList := by simp [leftM]
  rw [hL]
  have hmem : ∀ x ∈ (Array.filter (fun e => !seen.contains e.born) es).toList, x.born < since := fun x hx => hold x (by simp at hx ⊢; exact hx.1)
  generalize Array.filter (fun e => !seen.contains e.born) es = L at hmem ⊢
  have e1 : L.filter (fun x => decide (x.born < since)) = L := Array.filter_eq_self.2 (fun x hx => by simpa using hmem x (by simpa using hx))
  have e2 : L.filter (fun x => decide (x.born ≥ since)) = #[] := by
    rw [Array.filter_eq_empty_iff]
    intro x hx
    have := hmem x (by simpa using hx)
    simp
    omega
  simp only [e1, e2, Array.append_empty]
  by_cases h0 : L.size = 0
  · left
    have : L = #[] := Array.eq_empty_of_size_eq_zero h0
    subst this
    refine ⟨rfl, ?_⟩
    simp [choose, Sem.run, Question.forced]
  · right
    have hne : L.isEmpty = false := by simp [Array.isEmpty, h0]
    simp only [hne, Bool.false_eq_true, if_false, Array.empty_append, Array.size_map]
    have hch : ∃ (j : Nat) (w1 : World), j < L.size ∧ (w1 = w ∨ w1 = w.drew) ∧ (choose (Question.mapNext L.size)).run P w = .ok j w1 := by
      by_cases hf : L.size ≤ 1
      · exact ⟨0, w, by omega, .inl rfl, by simp [choose, Sem.run, Question.forced, hf]⟩
      · exact ⟨_, w.drew, Nat.mod_lt _ (by omega), .inr rfl, by
          simp only [choose, Sem.run, Question.forced, decide_eq_true_eq, hf, if_false, Question.cut]
          rfl⟩
    obtain ⟨j, w1, hj, hal, hrun⟩ := hch
    refine ⟨j, by simpa using hj, w1, hal, ?_⟩
    have hi1 : w1.heap[b]? = some (.mapIter (some bm) since seen c0) := by rcases hal with rfl | rfl <;> exact hi
    have hset : ∀ o' : _root_.Go.Obj, (setObj b o').run P w1 = .ok () (putAt w1 b o') := fun o' => by
      simp [setObj, Sem.run, hi1, putAt]
    simp only [hrun, Array.getElem?_map, Array.getElem?_eq_getElem hj, Option.map_some, Sem.run_bind, hset, Result.andThen, Array.getElem_toList]
    rfl

/-- A step of a range over a map. -/
theorem next_sound (H : HInv B w0 ob g w) {o m : Nat} {left : List (VV × VV)} {cur : Option (VV × VV)} {y : Value} (ho : nthO ob o = .miter m left cur) (hy : GV B ob g w (.it o) y) (ty : TypeId) :
    (left = [] ∧ (Instr.next y false ty).run P w = .ok (.tuple #[.bool false]) w) ∨
    ∃ p ∈ picks left, ∃ x w', (Instr.next y false ty).run P w = .ok x w' ∧ HInv B w0 (ob.set o (.miter m p.2 (some p.1))) g w' ∧ Pres B ob g w (ob.set o (.miter m p.2 (some p.1))) g w' ∧ GV B (ob.set o (.miter m p.2 (some p.1))) g w' (.tup [.bool true, p.1.1, p.1.2]) x := by
  have hrep := hy.rep
  cases hrep with
  | @it _ b htb =>
  obtain ⟨hlt, b', bm, arr, clock, since, seen, c0, q1, q2, q3, q4, q5, q6, q7, q8, q9, q10, rfl, ⟨hl, q11⟩, q12⟩ := H.get ho (by simp)
  rw [htb] at q1; cases q1
  rcases next_at (P := P) b bm since c0 seen arr c0 ty q4 q7 q8 q9 with ⟨h0, hrun⟩ | ⟨j, hj, w1, hw1, hrun⟩
  · exact .inl ⟨List.eq_nil_of_length_eq_zero (by omega), hrun⟩
  · right
    have hj' : j < left.length := by omega
    have hm0 : m ≠ o := fun q => by subst q; rw [ho] at q5; cases q5
    have hbb : bm ≠ b := fun q => hm0 (H.inj _ _ _ q6 (q ▸ htb))
    obtain ⟨H1, p1, e1⟩ : HInv B w0 ob g w1 ∧ Pres B ob g w ob g w1 ∧ w1.heap = w.heap := by
      rcases hw1 with rfl | rfl
      · exact ⟨H, Pres.refl _ _ _ _, rfl⟩
      · exact ⟨H.drew, Pres.drew H, rfl⟩
    have hkeep : ∀ b o, o < g.F b → w1.cell? ⟨b, o, none⟩ = w.cell? ⟨b, o, none⟩ := fun b o _ => by simp only [World.cell?, e1]
    have hE := q11 j hj'
    have hx : (leftM arr seen)[j] ∈ arr.toList := (List.mem_filter.1 (List.getElem_mem hj)).1
    have hw : ∀ b' o', o' < g.F b' → (putAt w1 b (.mapIter (some bm) since (seen.push (leftM arr seen)[j].born) c0)).cell? ⟨b', o', none⟩ = w1.cell? ⟨b', o', none⟩ := fun b' o' h => by
      have hne : b' ≠ b := fun e => by subst e; rw [q3] at h; omega
      simp only [World.cell?, putAt_ne _ hne]
    have hw2 : ∀ b' o', o' < g.F b' → (putAt w1 b (.mapIter (some bm) since (seen.push (leftM arr seen)[j].born) c0)).cell? ⟨b', o', none⟩ = w.cell? ⟨b', o', none⟩ := fun b' o' h => (hw b' o' h).trans (hkeep b' o' h)
    have he : ∀ e x, EntR w g.F g.tb e x → EntR (putAt w1 b (.mapIter (some bm) since (seen.push (leftM arr seen)[j].born) c0)) g.F g.tb e x := fun e x h => ⟨h.1, h.2.1, rep_keep hw2 (fun _ => Nat.le_refl _) _ _ h.1 h.2.2.1, rep_keep hw2 (fun _ => Nat.le_refl _) _ _ h.2.1 h.2.2.2⟩
    have q4' : w1.heap[b]? = some (.mapIter (some bm) since seen c0) := by rw [e1]; exact q4
    obtain ⟨H2, p2⟩ := H1.putO (X' := .miter m (left.eraseIdx j) (some left[j])) (mo' := .mapIter (some bm) since (seen.push (leftM arr seen)[j].born) c0) ho (by simp) (by simp) htb q4' q2 q3 (fun _ => by
      refine ⟨b, bm, arr, c0, since, _, c0, htb, q2, q3, putAt_at q4', ?_, q6, ?_, q8, q9, q10, rfl, ⟨?_, fun i hi => ?_⟩, fun e q => ?_⟩
      · rw [nthO_set, if_neg (fun q => hm0 q.1)]; exact q5
      · rw [putAt_ne _ hbb, e1]; exact q7
      · rw [leftM_push arr seen q10 j hj, List.length_eraseIdx_of_lt hj, List.length_eraseIdx_of_lt hj', hl]
      · have e2 : (leftM arr (seen.push (leftM arr seen)[j].born)) = (leftM arr seen).eraseIdx j := leftM_push arr seen q10 j hj
        have hlen1 := List.length_eraseIdx_of_lt hj'
        have hlen2 := List.length_eraseIdx_of_lt hj
        simp only [e2]
        by_cases c : i < j
        · have a1 : (left.eraseIdx j)[i] = left[i]'(by omega) := List.getElem_eraseIdx_of_lt _ c
          have a2 : ((leftM arr seen).eraseIdx j)[i]'(by omega) = (leftM arr seen)[i]'(by omega) := List.getElem_eraseIdx_of_lt _ c
          rw [a1, a2]; exact he _ _ (q11 i (by omega))
        · have a1 : (left.eraseIdx j)[i] = left[i + 1]'(by omega) := List.getElem_eraseIdx_of_ge _ (by omega)
          have a2 : ((leftM arr seen).eraseIdx j)[i]'(by omega) = (leftM arr seen)[i + 1]'(by omega) := List.getElem_eraseIdx_of_ge _ (by omega)
          rw [a1, a2]; exact he _ _ (q11 (i + 1) (by omega))
      · cases q
        exact ⟨_, hx, by simp, he _ _ hE⟩)
    refine ⟨_, picks_get left j hj', _, _, hrun, H2, p1.trans p2, ?_⟩
    have hE2 := he _ _ hE
    exact canon_tup3 hE2.1 hE2.2.1 hE2.2.2.1 hE2.2.2.2

end
end Go.V

/- V, part 16: every operation of V but the calls: where its text is the machine's text, the machine does what V says. -/
set_option linter.unusedVariables false
set_option linter.unusedSimpArgs false
namespace Go.V
open Go.RowKit

def mBuild (P : Program) (z : List VV) (ps : List (Nat × Nat × Opd)) (t : TypeId) (qs : Array (Nat × Operand)) : Bool :=
  zeroIs P t z && (match P.underlying t with | some (.struct fs) => mParts P fs ps qs.toList && fs.toList.all (fun f => (P.info? f.type).isSome) | some (.array n e) => (match P.info? e with | some i => mParts P (arrFs n i.size e) ps qs.toList | none => false) | _ => false)

/-- the builtins -/
def mCallB (P : Program) : VOp → Call → Bool
  | .len k x, c => match c.callee, c.args.toList, c.argTypes.toList with
    | .builtin .len, [y], [t] => mO x y && kindTy P k t
    | _, _, _ => false
  | .app sz b x y, c => match c.callee, c.args.toList, c.argTypes.toList with
    | .builtin .append, [x', y'], [t, tx] => mO x x' && mO y y' && appIs P t tx sz b
    | _, _, _ => false
  | .appr sz b x y, c => match c.callee, c.args.toList, c.argTypes.toList with
    | .builtin .append, [x', y'], [t, tx] => mO x x' && mO y y' && appIs P t tx sz b
    | _, _, _ => false
  | .mm isMax x y, c => match c.callee, c.args.toList with
    | .builtin .max, [x', y'] => isMax && mO x x' && mO y y'
    | .builtin .min, [x', y'] => !isMax && mO x x' && mO y y'
    | _, _ => false
  | .capo x, c => match c.callee, c.args.toList, c.argTypes.toList with
    | .builtin .cap, [y], [t] => mO x y && kindTy P 1 t
    | _, _, _ => false
  | .clr z x, c => match c.callee, c.args.toList, c.argTypes.toList with
    | .builtin .clear, [y], [t] => mO x y && clrIs P t z
    | _, _, _ => false
  | .mdel ty m k, c => match c.callee, c.args.toList, c.argTypes.toList with
    | .builtin .delete, [m', k'], [t, _] => mO m m' && mO k k' && mapIs P t ty
    | _, _, _ => false
  | _, _ => false

def mOp (P : Program) : VOp → Op → Bool
  | .mov x, .move y => mO x y
  | .mov x, .assign y => mO x y
  | .pick c a b, .pick c' a' b' => mO c c' && mO a a' && mO b b'
  | .alloc z, .alloc t => zeroIs P t z
  | .box x, .box _ y => mO x y
  | .build z ps, .build t qs => mBuild P z ps t qs
  | .bsl _ sz z n ps, .buildSlice t m qs => n == m && bslIs P t sz n z && mElems ps qs.toList
  | .load n a, .load t a' => mO a a' && varIs P t n
  | .load2 _ n a, .load t a' => mO a a' && varIs P t n
  | .load3 _ n a, .load t a' => mO a a' && varIs P t n
  | .store3 _ n a x, .store t a' x' => mO a a' && mO x x' && sizeIs P t n
  | .store2 _ n a x, .store t a' x' => mO a a' && mO x x' && sizeIs P t n
  | .fill _ _ z, .alloc t => zeroIs P t z
  | .dark, .defer _ => false
  | .dark, _ => true
  | .store n a x, .store t a' x' => mO a a' && mO x x' && sizeIs P t n
  | .nilck x, .nilCheck y => mO x y
  | .bin op ty x y, .binOp op' t x' y' _ => decide (op = op') && mO x x' && mO y y' && tyIs P t ty
  | .un op x, .unOp op' _ y => decide (op = op') && mO x y
  | .cvi k x, .convert s d y => mO x y && someTy P s && intTy P d k
  | .faddr off x, .fieldAddr t y f => mO x y && fieldIs P t f off
  | .fld off n x, .field t y f => mO x y && fieldVar P t f off n
  | .iaddr sz x i, .indexAddr t y j => mO x y && mO i j && sliceIs P t sz
  | .aaddr n sz x i, .indexAddr t y j => mO x y && mO i j && arrIs P t n sz
  | .mkif t x, .makeInterface t' y => t == t' && mO x y && slTy P t
  | .s2b x, .convert s d y => mO x y && someTy P s && bytesTy P d
  | .b2s x, .convert s d y => mO x y && bytesTy P s && strTy P d
  | .mks b z x, .makeSlice t y y' => mO x y && mO x y' && mksIs P t b z
  | .mrng x, .range t y => mO x y && mapAny P t
  | .mentry x, .entry y => mO x y
  | .idx x i, .index t y j => mO x y && mO i j && strTy P t
  | .slc 0 x lo hi mx, .slice t y lo' hi' mx' => mO x y && mOO lo lo' && mOO hi hi' && mOO mx mx' && strTy P t
  | .slc (n + 1) x lo hi mx, .slice t y lo' hi' mx' => mO x y && mOO lo lo' && mOO hi hi' && mOO mx mx' && sliceIs P t (n + 1)
  | .ext x i, .extract y j => i == j && mO x y
  | .mkfn f cap, .makeFunc (.func f') first cap' => f == f' && first.isEmpty && mOL cap cap'.toList
  | .mkmap, .makeMap _ none => true
  | .lkp ty z ok m k, .lookup t m' k' ok' => ok == ok' && mO m m' && mO k k' && mapIs P t ty && mapZero P t z
  | .mset ty m k v, .mapUpdate t m' k' v' => mO m m' && mO k k' && mO v v' && mapIs P t ty
  | .mset ty m k v, .insert t m' k' v' => mO m m' && mO k k' && mO v v' && mapIs P t ty
  | v, .call c => mCallB P v c
  | _, _ => false

section
variable {P : Program} {B : Nat} {w0 : W0} {ob : List Obj} {g : Gh} {w : World} {env : List (Nat × VV)} {ρ : Operand → Value}

theorem one_of_toList {α : Type} {a : Array α} {x : α} (h : a.toList = [x]) : a = #[x] := by
  obtain ⟨a⟩ := a; simp at h; subst h; rfl
theorem two_of_toList {α : Type} {a : Array α} {x y : α} (h : a.toList = [x, y]) : a = #[x, y] := by
  obtain ⟨a⟩ := a; simp at h; subst h; rfl

theorem builtin_op (o : Oper) (c : Call) (b : Builtin) (ho : o.op = .call c) (hc : c.callee = .builtin b) :
    execOp ρ o = (do let d ← resolve ρ c o.type; invoke d.target d.args) := by
  simp [execOp, ho]

theorem call_sound (H : HInv B w0 ob g w) (R : Reads B ob g w env ρ) {vop : VOp} {c : Call} (hm : mCallB P vop c = true) (o : Oper) (ho : o.op = .call c) {v : VV} {ob' : List Obj} (hv : vop.ev ⟨env, ob⟩ = some (v, ob')) :
    Out P B w0 ob g w (execOp ρ o) v ob' := by
  obtain ⟨callee, args, argTypes⟩ := c
  unfold mCallB at hm
  split at hm
  · -- len
    rename_i k x
    split at hm
    · rename_i y t h1 h2 h3
      simp only at h1 h2 h3
      subst h1
      obtain rfl := one_of_toList h2
      obtain rfl := one_of_toList h3
      simp only [Bool.and_eq_true] at hm
      have hob : ob' = ob := by
        match k, hv with
        | 0, hv => simp only [VOp.ev] at hv; split at hv <;> simp_all
        | 1, hv => simp only [VOp.ev] at hv; split at hv <;> simp_all
        | k + 2, hv =>
          simp only [VOp.ev] at hv
          split at hv
          · simp_all
          · split at hv <;> simp_all
          · simp_all
      subst hob
      have := op_len (ty := o.type) H R hm.1 hm.2 hv
      have he : execOp ρ o = (do pure (.value (← Builtin.len_ #[t] o.type #[ρ y]))) := by simp [execOp, ho, resolve, invoke, builtin]
      rw [he]; exact this
    · cases hm
  · -- append
    rename_i sz b x y
    split at hm
    · rename_i x' y' t tx h1 h2 h3
      simp only at h1 h2 h3
      subst h1
      obtain rfl := two_of_toList h2
      obtain rfl := two_of_toList h3
      simp only [Bool.and_eq_true] at hm
      have := op_app (ty := o.type) H R hm.1.1 hm.1.2 hm.2 hv
      have he : execOp ρ o = (do pure (.value (← Builtin.append_ #[t, tx] o.type #[ρ x', ρ y']))) := by simp [execOp, ho, resolve, invoke, builtin]
      rw [he]; exact this
    · cases hm
  · -- append to nil
    rename_i sz b x y
    split at hm
    · rename_i x' y' t tx h1 h2 h3
      simp only at h1 h2 h3
      subst h1
      obtain rfl := two_of_toList h2
      obtain rfl := two_of_toList h3
      simp only [Bool.and_eq_true] at hm
      have := op_appr (ty := o.type) H R hm.1.1 hm.1.2 hm.2 hv
      have he : execOp ρ o = (do pure (.value (← Builtin.append_ #[t, tx] o.type #[ρ x', ρ y']))) := by simp [execOp, ho, resolve, invoke, builtin]
      rw [he]; exact this
    · cases hm
  · -- max, min
    rename_i isMax x y
    have hob : ob' = ob := by
      simp only [VOp.ev] at hv
      split at hv
      · split at hv <;> simp_all
      · simp_all
    subst hob
    split at hm
    · rename_i x' y' h1 h2
      simp only at h1 h2
      subst h1
      obtain rfl := two_of_toList h2
      simp only [Bool.and_eq_true] at hm
      have := op_mm (P := P) (ts := argTypes) (ty := o.type) H R hm.1.2 hm.2 hv
      have he : execOp ρ o = (do pure (.value (← (if isMax then Builtin.max_ argTypes o.type #[ρ x', ρ y'] else Builtin.min_ argTypes o.type #[ρ x', ρ y'])))) := by simp [execOp, ho, resolve, invoke, builtin, hm.1.1]
      rw [he]; exact this
    · rename_i x' y' h1 h2
      simp only at h1 h2
      subst h1
      obtain rfl := two_of_toList h2
      simp only [Bool.and_eq_true, Bool.not_eq_true'] at hm
      have := op_mm (P := P) (ts := argTypes) (ty := o.type) H R hm.1.2 hm.2 hv
      have he : execOp ρ o = (do pure (.value (← (if isMax then Builtin.max_ argTypes o.type #[ρ x', ρ y'] else Builtin.min_ argTypes o.type #[ρ x', ρ y'])))) := by simp [execOp, ho, resolve, invoke, builtin, hm.1.1]
      rw [he]; exact this
    · cases hm
  · -- cap
    rename_i x
    split at hm
    · rename_i y t h1 h2 h3
      simp only at h1 h2 h3
      subst h1
      obtain rfl := one_of_toList h2
      obtain rfl := one_of_toList h3
      simp only [Bool.and_eq_true] at hm
      have := op_cap (ty := o.type) H R hm.1 hm.2 hv
      have he : execOp ρ o = (do pure (.value (← Builtin.cap_ #[t] o.type #[ρ y]))) := by simp [execOp, ho, resolve, invoke, builtin]
      rw [he]; exact this
    · cases hm
  · -- clear
    rename_i z x
    split at hm
    · rename_i y t h1 h2 h3
      simp only at h1 h2 h3
      subst h1
      obtain rfl := one_of_toList h2
      obtain rfl := one_of_toList h3
      simp only [Bool.and_eq_true] at hm
      have := op_clr (ty := o.type) H R hm.1 hm.2 hv
      have he : execOp ρ o = (do pure (.value (← Builtin.clear_ #[t] o.type #[ρ y]))) := by simp [execOp, ho, resolve, invoke, builtin]
      rw [he]; exact this
    · cases hm
  · -- delete
    rename_i ty m k
    split at hm
    · rename_i m' k' t t' h1 h2 h3
      simp only at h1 h2 h3
      subst h1
      obtain rfl := two_of_toList h2
      obtain rfl := two_of_toList h3
      simp only [Bool.and_eq_true] at hm
      have := op_mdel (t' := t') (rt := o.type) H R hm.1.1 hm.1.2 hm.2 hv
      have he : execOp ρ o = (do pure (.value (← Builtin.delete_ #[t, t'] o.type #[ρ m', ρ k']))) := by simp [execOp, ho, resolve, invoke, builtin]
      rw [he]; exact this
    · cases hm
  · cases hm

theorem op_sound (H : HInv B w0 ob g w) (R : Reads B ob g w env ρ) {vop : VOp} {op : Op} (hm : mOp P vop op = true) (o : Oper) (ho : o.op = op) {v : VV} {ob' : List Obj} (hv : vop.ev ⟨env, ob⟩ = some (v, ob')) :
    Out P B w0 ob g w (execOp ρ o) v ob' := by
  unfold mOp at hm
  split at hm
  · -- mov, move
    simp only [VOp.ev, Option.some.injEq, Prod.mk.injEq] at hv
    obtain ⟨rfl, rfl⟩ := hv
    have he : execOp ρ o = pure (.value (ρ ‹Operand›)) := by simp [execOp, ho]
    rw [he]; exact op_mov H R hm
  · simp only [VOp.ev, Option.some.injEq, Prod.mk.injEq] at hv
    obtain ⟨rfl, rfl⟩ := hv
    have he : execOp ρ o = pure (.value (ρ ‹Operand›)) := by simp [execOp, ho]
    rw [he]; exact op_mov H R hm
  · rename_i c a b c' a' b'
    simp only [Bool.and_eq_true] at hm
    simp only [VOp.ev] at hv
    split at hv
    · rename_i t hc
      simp only [Option.some.injEq, Prod.mk.injEq] at hv
      obtain ⟨rfl, rfl⟩ := hv
      have he : execOp ρ o = (do pure (.value (if ← asBool (ρ c') then ρ a' else ρ b'))) := by simp [execOp, ho]
      rw [he]; exact op_pick H R hm.1.1 hm.1.2 hm.2 hc
    · cases hv
  · rename_i z t
    simp only [VOp.ev, Option.some.injEq, Prod.mk.injEq] at hv
    obtain ⟨rfl, rfl⟩ := hv
    have he : execOp ρ o = (do pure (.value (← Instr.alloc t true (.tuple #[])))) := by simp [execOp, ho]
    rw [he]; exact op_alloc H hm
  · rename_i x t y
    have he : execOp ρ o = (do pure (.value (← Instr.box t (ρ y)))) := by simp [execOp, ho]
    rw [he]; exact op_box H R hm hv
  · rename_i z ps t qs
    have hob : ob' = ob := by simp only [VOp.ev, Option.map_eq_some_iff, Prod.mk.injEq] at hv; obtain ⟨_, _, _, h⟩ := hv; exact h.symm
    subst hob
    simp only [mBuild, Bool.and_eq_true] at hm
    obtain ⟨h1, h2⟩ := hm
    cases hu : P.underlying t with
    | none => simp [hu] at h2
    | some d =>
      have he : execOp ρ o = (do pure (.value (← Instr.build t (qs.map fun (i, x) => (i, ρ x))))) := by simp [execOp, ho]
      rw [he]
      cases d <;> simp only [hu, Bool.false_eq_true, Bool.and_eq_true, List.all_eq_true] at h2
      · rename_i n e
        cases hi : P.info? e with
        | none => simp [hi] at h2
        | some i =>
          simp only [hi] at h2
          exact op_buildA H R hu h1 (by simp [sizeIs, hi]) h2 hv
      · rename_i fs
        exact op_build H R hu h1 h2.1 (fun i f hf => h2.2 f (by obtain ⟨q, rfl⟩ := Array.getElem?_eq_some_iff.1 hf; simp)) hv
  · rename_i own sz z n ps t m qs
    simp only [Bool.and_eq_true, beq_iff_eq] at hm
    obtain ⟨⟨rfl, h1⟩, h2⟩ := hm
    have he : execOp ρ o = (do pure (.value (← Instr.buildSlice t n (qs.map fun (i, x) => (i, ρ x))))) := by simp [execOp, ho]
    rw [he]; exact op_bsl H R h1 h2 hv
  · rename_i n a t a'
    simp only [Bool.and_eq_true] at hm
    simp only [VOp.ev] at hv
    split at hv
    · rename_i cs off hd
      simp only [Option.map_eq_some_iff, Prod.mk.injEq] at hv
      obtain ⟨q, hl, rfl, rfl⟩ := hv
      have he : execOp ρ o = (do pure (.value (← Instr.loadAt t (ρ a')))) := by simp [execOp, ho]
      rw [he]; exact op_load H R hm.1 hm.2 hd hl
    · cases hv
  · rename_i ss n a t a'
    simp only [Bool.and_eq_true] at hm
    simp only [VOp.ev] at hv
    split at hv
    · split at hv
      · rename_i cs off hd
        simp only [Option.map_eq_some_iff, Prod.mk.injEq] at hv
        obtain ⟨q, hl, rfl, rfl⟩ := hv
        have he : execOp ρ o = (do pure (.value (← Instr.loadAt t (ρ a')))) := by simp [execOp, ho]
        rw [he]; exact op_load H R hm.1 hm.2 hd hl
      · cases hv
    · cases hv
  · rename_i kk n a t a'
    simp only [Bool.and_eq_true] at hm
    simp only [VOp.ev] at hv
    split at hv
    · split at hv
      · rename_i cs off hd
        simp only [Option.map_eq_some_iff, Prod.mk.injEq] at hv
        obtain ⟨q, hl, rfl, rfl⟩ := hv
        have he : execOp ρ o = (do pure (.value (← Instr.loadAt t (ρ a')))) := by simp [execOp, ho]
        rw [he]; exact op_load H R hm.1 hm.2 hd hl
      · cases hv
    · cases hv
  · rename_i kk n a x t a' x'
    simp only [Bool.and_eq_true] at hm
    have he : execOp ρ o = (do Instr.storeAt t (ρ a') (ρ x'); pure .skip) := by simp [execOp, ho]
    rw [he]
    refine op_store H R hm.1.1 hm.1.2 hm.2 ?_
    simp only [VOp.ev] at hv ⊢
    split at hv
    · exact hv
    · cases hv
  · rename_i kk n a x t a' x'
    simp only [Bool.and_eq_true] at hm
    have he : execOp ρ o = (do Instr.storeAt t (ρ a') (ρ x'); pure .skip) := by simp [execOp, ho]
    rw [he]
    refine op_store H R hm.1.1 hm.1.2 hm.2 ?_
    simp only [VOp.ev] at hv ⊢
    split at hv
    · exact hv
    · cases hv
  · rename_i kk j z t
    simp only [VOp.ev] at hv
    split at hv
    · rename_i hr
      simp only [Option.some.injEq, Prod.mk.injEq] at hv
      obtain ⟨rfl, rfl⟩ := hv
      have he : execOp ρ o = (do pure (.value (← Instr.alloc t true (.tuple #[])))) := by simp [execOp, ho]
      rw [he]; exact op_fill H hm hr
    · cases hv
  · cases hm
  · have hv : (none : Option (VV × List Obj)) = some (v, ob') := hv
    cases hv
  · rename_i n a x t a' x'
    simp only [Bool.and_eq_true] at hm
    have he : execOp ρ o = (do Instr.storeAt t (ρ a') (ρ x'); pure .skip) := by simp [execOp, ho]
    rw [he]; exact op_store H R hm.1.1 hm.1.2 hm.2 hv
  · rename_i x y
    have hob : ob' = ob := by simp only [VOp.ev] at hv; split at hv <;> simp_all
    subst hob
    exact op_nilck H R hm hv o ho
  · rename_i op ty x y op' t x' y' _
    simp only [Bool.and_eq_true, decide_eq_true_eq] at hm
    obtain ⟨⟨⟨rfl, h1⟩, h2⟩, h3⟩ := hm
    simp only [VOp.ev] at hv
    split at hv
    · rename_i hf
      simp only [Option.map_eq_some_iff, Prod.mk.injEq] at hv
      obtain ⟨q, hl, rfl, rfl⟩ := hv
      have he : execOp ρ o = (do pure (.value (← (do eqGuard op t x' y' (ρ x') (ρ y'); binOp op t (ρ x') (ρ y'))))) := by simp [execOp, ho]
      rw [he]; exact op_bin (t' := t) H R h1 h2 h3 hf hl
    · cases hv
  · rename_i op x op' _ y
    simp only [Bool.and_eq_true, decide_eq_true_eq] at hm
    obtain ⟨rfl, h1⟩ := hm
    have hob : ob' = ob := by simp only [VOp.ev] at hv; split at hv <;> simp_all
    subst hob
    have he : execOp ρ o = (do pure (.value (← Op.unary op (ρ y)))) := by simp [execOp, ho]
    rw [he]; exact op_un H R h1 hv
  · rename_i k x s d y
    simp only [Bool.and_eq_true] at hm
    have hob : ob' = ob := by simp only [VOp.ev] at hv; split at hv <;> simp_all
    subst hob
    have he : execOp ρ o = (do pure (.value (← convert s d (ρ y)))) := by simp [execOp, ho]
    rw [he]; exact op_cvi H R hm.1.1 hm.1.2 hm.2 hv
  · rename_i off x t y f
    simp only [Bool.and_eq_true] at hm
    have hob : ob' = ob := by simp only [VOp.ev] at hv; split at hv <;> simp_all
    subst hob
    have he : execOp ρ o = (do pure (.value (← Instr.fieldAt t (ρ y) f))) := by simp [execOp, ho]
    rw [he]; exact op_faddr H R hm.1 hm.2 hv
  · rename_i off n x t y f
    simp only [Bool.and_eq_true] at hm
    simp only [VOp.ev] at hv
    split at hv
    · rename_i cs hc
      simp only [Option.map_eq_some_iff, Prod.mk.injEq] at hv
      obtain ⟨q, hl, rfl, rfl⟩ := hv
      have he : execOp ρ o = (do pure (.value (← Instr.field t (ρ y) f))) := by simp [execOp, ho]
      rw [he]; exact op_fld H R hm.1 hm.2 hc hl
    · cases hv
  · rename_i sz x i t y j
    simp only [Bool.and_eq_true] at hm
    have hob : ob' = ob := by
      simp only [VOp.ev] at hv
      split at hv
      · split at hv
        · split at hv <;> simp_all
        · cases hv
      · split at hv <;> simp_all
      · cases hv
    subst hob
    have he : execOp ρ o = (do pure (.value (← Instr.indexAt t (ρ y) (ρ j)))) := by simp [execOp, ho]
    rw [he]; exact op_iaddr H R hm.1.1 hm.1.2 hm.2 hv
  · rename_i n sz x i t y j
    simp only [Bool.and_eq_true] at hm
    have hob : ob' = ob := by
      simp only [VOp.ev] at hv
      split at hv
      · split at hv <;> simp_all
      · split at hv <;> simp_all
      · cases hv
    subst hob
    have he : execOp ρ o = (do pure (.value (← Instr.indexAt t (ρ y) (ρ j)))) := by simp [execOp, ho]
    rw [he]; exact op_aaddr H R hm.1.1 hm.1.2 hm.2 hv
  · rename_i t x t' y
    simp only [Bool.and_eq_true, beq_iff_eq] at hm
    obtain ⟨⟨rfl, hm1⟩, hm2⟩ := hm
    have hob : ob' = ob := by
      simp only [VOp.ev] at hv
      split at hv
      · simp_all
      · simp only [Option.some.injEq, Prod.mk.injEq] at hv
        exact hv.2.symm
      · split at hv
        · simp only [Option.some.injEq, Prod.mk.injEq] at hv
          exact hv.2.symm
        · cases hv
      · cases hv
    subst hob
    have he : execOp ρ o = (do pure (.value (← Instr.makeInterface t (ρ y)))) := by simp [execOp, ho]
    rw [he]; exact op_mkif H R hm1 hm2 hv
  · rename_i x s d y
    simp only [Bool.and_eq_true] at hm
    have he : execOp ρ o = (do pure (.value (← convert s d (ρ y)))) := by simp [execOp, ho]
    rw [he]; exact op_s2b H R hm.1.1 hm.1.2 hm.2 hv
  · rename_i x s d y
    simp only [Bool.and_eq_true] at hm
    have he : execOp ρ o = (do pure (.value (← convert s d (ρ y)))) := by simp [execOp, ho]
    rw [he]; exact op_b2s H R hm.1.1 hm.1.2 hm.2 hv
  · rename_i b z x t y y'
    simp only [Bool.and_eq_true] at hm
    have he : execOp ρ o = (do pure (.value (← Instr.makeSlice t (ρ y) (ρ y')))) := by simp [execOp, ho]
    rw [he]; exact op_mks H R hm.1.1 hm.1.2 hm.2 hv
  · rename_i x t y
    simp only [Bool.and_eq_true] at hm
    have he : execOp ρ o = (do pure (.value (← Instr.range t (ρ y)))) := by simp [execOp, ho]
    rw [he]; exact op_mrng H R hm.1 hm.2 hv
  · rename_i x y
    have he : execOp ρ o = (do pure (.value (← Instr.entry (ρ y)))) := by simp [execOp, ho]
    rw [he]; exact op_mentry H R hm hv
  · rename_i x i t y j
    simp only [Bool.and_eq_true] at hm
    have hob : ob' = ob := by
      simp only [VOp.ev] at hv
      split at hv
      · split at hv <;> simp_all
      · cases hv
    subst hob
    have he : execOp ρ o = (do pure (.value (← Instr.index t (ρ y) (ρ j)))) := by simp [execOp, ho]
    rw [he]; exact op_idx H R hm.1.1 hm.1.2 hm.2 hv
  · rename_i x lo hi mx t y lo' hi' mx'
    simp only [Bool.and_eq_true] at hm
    have hob : ob' = ob := by
      simp only [VOp.ev] at hv
      split at hv
      · split at hv
        · cases hv
        · simp only [Option.bind_eq_some_iff, Option.some.injEq, Prod.mk.injEq] at hv
          obtain ⟨_, _, _, _, _, h⟩ := hv; exact h.symm
      · cases hv
    subst hob
    have he : execOp ρ o = (do pure (.value (← Instr.sliceAt t (ρ y) (lo'.map ρ) (hi'.map ρ) (mx'.map ρ)))) := by simp [execOp, ho]
    rw [he]; exact op_slcS H R hm.1.1.1.1 hm.1.1.1.2 hm.1.1.2 hm.1.2 hm.2 hv
  · rename_i n x lo hi mx t y lo' hi' mx'
    simp only [Bool.and_eq_true] at hm
    have hob : ob' = ob := by
      simp only [VOp.ev] at hv
      split at hv
      · split at hv
        · cases hv
        · simp only [Option.bind_eq_some_iff, Option.some.injEq, Prod.mk.injEq] at hv
          obtain ⟨_, _, _, _, _, _, _, h⟩ := hv; exact h.symm
      · split at hv
        · cases hv
        · simp only [Option.bind_eq_some_iff, Option.some.injEq, Prod.mk.injEq] at hv
          obtain ⟨_, _, _, _, _, h⟩ := hv; exact h.symm
      · split at hv
        · cases hv
        · simp only [Option.bind_eq_some_iff, Option.some.injEq, Prod.mk.injEq] at hv
          obtain ⟨_, _, _, _, _, _, _, h⟩ := hv; exact h.symm
      · cases hv
    subst hob
    have he : execOp ρ o = (do pure (.value (← Instr.sliceAt t (ρ y) (lo'.map ρ) (hi'.map ρ) (mx'.map ρ)))) := by simp [execOp, ho]
    rw [he]; exact op_slc H R hm.1.1.1.1 hm.1.1.1.2 hm.1.1.2 hm.1.2 hm.2 hv
  · rename_i x i y j
    simp only [Bool.and_eq_true, beq_iff_eq] at hm
    obtain ⟨rfl, h1⟩ := hm
    have hob : ob' = ob := by
      simp only [VOp.ev] at hv
      split at hv
      · split at hv <;> simp_all
      · cases hv
    subst hob
    have he : execOp ρ o = (do pure (.value (← Instr.extract (ρ y) i))) := by simp [execOp, ho]
    rw [he]; exact op_ext H R h1 hv
  · rename_i f cap f' first cap'
    simp only [Bool.and_eq_true, beq_iff_eq, Array.isEmpty_iff] at hm
    obtain ⟨⟨rfl, rfl⟩, h1⟩ := hm
    have hob : ob' = ob := by
      simp only [VOp.ev] at hv
      split at hv
      · simp only [Option.some.injEq, Prod.mk.injEq] at hv; exact hv.2.symm
      · cases hv
    subst hob
    have he : execOp ρ o = (do pure (.value (← Instr.makeFunc (.func f) (#[].map ρ) (cap'.map ρ)))) := by simp [execOp, ho]
    rw [he]; exact op_mkfn H R h1 hv
  · simp only [VOp.ev, Option.some.injEq, Prod.mk.injEq] at hv
    obtain ⟨rfl, rfl⟩ := hv
    rename_i t
    have he : execOp ρ o = (do pure (.value (← Instr.makeMap t none))) := by simp [execOp, ho]
    rw [he]; exact op_mkmap H
  · rename_i ty z ok m k t m' k' ok'
    simp only [Bool.and_eq_true, beq_iff_eq] at hm
    obtain ⟨⟨⟨⟨rfl, h1⟩, h2⟩, h3⟩, h4⟩ := hm
    have hob : ob' = ob := by
      simp only [VOp.ev] at hv
      split at hv
      · cases hv
      · split at hv
        · cases hv
        · simp only [Option.some.injEq, Prod.mk.injEq] at hv; exact hv.2.symm
    subst hob
    have he : execOp ρ o = (do pure (.value (← Instr.lookup t (ρ m') (ρ k') ok))) := by simp [execOp, ho]
    rw [he]; exact op_lkp H R h1 h2 h3 h4 hv
  · rename_i ty m k x t m' k' x'
    simp only [Bool.and_eq_true] at hm
    have he : execOp ρ o = (do Instr.mapUpdate t (ρ m') (ρ k') (ρ x'); pure .skip) := by simp [execOp, ho]
    rw [he]; exact op_mset H R hm.1.1.1 hm.1.1.2 hm.1.2 hm.2 hv
  · rename_i ty m k x t m' k' x'
    simp only [Bool.and_eq_true] at hm
    have he : execOp ρ o = (do Instr.mapUpdate t (ρ m') (ρ k') (ρ x'); pure .skip) := by simp [execOp, ho]
    rw [he]; exact op_mset H R hm.1.1.1 hm.1.1.2 hm.1.2 hm.2 hv
  · exact call_sound H R hm o ho hv
  · cases hm

end
end Go.V

/- V, part 16a: the text of code: what is looked at to see that V's text is the machine's. -/
set_option linter.unusedVariables false
namespace Go.V
open Go.RowKit

def callOk (P : Program) (f : Nat) : Bool := match P.funcs[f]? with | some fn => fn.body.isSome && fn.name != "runtime.NumGoroutine" | none => false

/-! ### The text -/
def mGuard (ops : Array Oper) : Option (Nat × Bool) → Option (Nat × Bool) → Bool
  | none, none => true
  | some (s, b), some (j, b') => b == b' && ((ops[j]?).bind (·.dst) == some s)
  | _, _ => false

def nilC : Operand → Bool
  | .const (.slice none 0 0) => true
  | _ => false

def mCall (P : Program) : VOp → Op → Bool
  | .call f args _, .call c => match c.callee with
    | .value (.func f') => f == f' && mOL args c.args.toList && callOk P f
    | _ => false
  | .calln f args _, .call c => match c.callee with
    | .value (.func f') => f == f' && mOL args c.args.toList && callOk P f
    | _ => false
  | .callv x args _, .call c => match c.callee with
    | .value y => mO x y && mOL args c.args.toList
    | _ => false
  | .mnext x, .next y false => mO x y
  | .isnil neg x, .binOp op t y z _ => (if neg then decide (op = .neq) else decide (op = .eql)) && mO x y && nilC z && kindTy P 1 t
  | _, _ => false

def mVI (P : Program) (nt : Nat) (ops : Array Oper) (i : VI) (o : Oper) : Bool :=
  i.dst == o.dst && (match i.dst with | some d => d < nt | none => true) && mGuard ops i.g o.guard && (mOp P i.op o.op || mCall P i.op o.op)

def mVIs (P : Program) (nt : Nat) (ops : Array Oper) : List VI → List Oper → Bool
  | [], [] => true
  | i :: r, o :: s => mVI P nt ops i o && mVIs P nt ops r s
  | _, _ => false

def VOp.opds : VOp → List Opd
  | .mov x => [x]
  | .pick c a b => [c, a, b]
  | .alloc _ => []
  | .box x => [x]
  | .build _ ps => ps.map (·.2.2)
  | .bsl _ _ _ _ ps => ps.map (·.2)
  | .load _ a => [a]
  | .load2 ss _ a => a :: ss.map Opd.t
  | .load3 _ _ a => [a]
  | .store3 _ _ a x => [a, x]
  | .store2 ss _ a x => a :: x :: ss.map .t
  | .fill .. => []
  | .clr _ x => [x]
  | .calln _ args _ => args
  | .capo x => [x]
  | .dark => []
  | .store _ a x => [a, x]
  | .nilck x => [x]
  | .bin _ _ x y => [x, y]
  | .un _ x => [x]
  | .cvi _ x => [x]
  | .faddr _ x => [x]
  | .fld _ _ x => [x]
  | .iaddr _ x i => [x, i]
  | .idx x i => [x, i]
  | .slc _ x lo hi mx => x :: (lo.toList ++ hi.toList ++ mx.toList)
  | .ext x _ => [x]
  | .len _ x => [x]
  | .app _ _ x y => [x, y]
  | .appr _ _ x y => [x, y]
  | .mm _ x y => [x, y]
  | .mks _ _ x => [x]
  | .s2b x => [x]
  | .mkif _ x => [x]
  | .b2s x => [x]
  | .aaddr _ _ x i => [x, i]
  | .mrng x => [x]
  | .mnext x => [x]
  | .mentry x => [x]
  | .isnil _ x => [x]
  | .mkfn _ cap => cap
  | .mkmap => []
  | .lkp _ _ _ m k => [m, k]
  | .mset _ m k v => [m, k, v]
  | .mdel _ m k => [m, k]
  | .call _ args _ => args
  | .callv x args _ => x :: args

def Opd.rd : Opd → List Nat
  | .t s => [s]
  | _ => []

def VI.rd (i : VI) : List Nat := (match i.g with | some (s, _) => [s] | none => []) ++ i.op.opds.flatMap Opd.rd

def clsO : Option (Option Nat × Nat) → Nat
  | none => 0
  | some (some 0, 0) => 3
  | some _ => 2

/-- 0: nothing of the objects read or turned; 1: cells and maps read; 2: something pushed, a count turned; 3: else -/
def VOp.cls : VOp → Nat
  | .load .. | .load2 .. | .load3 .. | .lkp .. | .len (_ + 2) _ => 1
  | .alloc .. | .fill .. | .box .. | .bsl true .. | .mkmap | .mks .. | .app .. | .appr .. => 2
  | .store .. | .store3 .. | .clr .. | .calln .. | .dark | .s2b .. | .b2s .. | .store2 .. | .mset .. | .mdel .. | .mrng _ | .mnext _ | .mentry _ | .isnil .. => 3
  | .call _ _ own | .callv _ _ own => clsO own
  | _ => 0

/-- a load that is told to read another object than the store writes -/
def sepLd : VOp → VOp → Bool
  | .load2 ss _ _, .store _ (.t s) _ => ss.contains s
  | .load3 k _ _, .store3 k' _ _ _ => k == k'
  | _, _ => false

/-- two variables that are made for which different objects were kept -/
def sepFill : VOp → VOp → Bool
  | .fill k j _, .fill k' j' _ => k == k' && !(j == j')
  | _, _ => false

/-- two stores, the first told to be of another object than the second's -/
def sepSt : VOp → VOp → Bool
  | .store2 ss _ _ _, .store _ (.t s) _ => ss.contains s
  | _, _ => false

/-- two operations, the first ahead of the second, that may change places -/
def comm (i j : VI) : Bool :=
  (match i.dst with | some d => !(j.rd.contains d) && !(j.dst == some d) | none => true) && (match j.dst with | some d => !(i.rd.contains d) | none => true) &&
  (i.op.cls == 0 || j.op.cls == 0 || (i.op.cls == 1 && j.op.cls ≤ 2) || sepLd i.op j.op || sepFill i.op j.op || sepSt i.op j.op)

def edgesOf (o : Oper) : List Nat := (o.after.toList.filter (Region.binds .any)).map (·.on)

def addAll : List Nat → List Nat → List Nat
  | [], l => l
  | x :: r, l => addAll r (if l.contains x then l else x :: l)

def ancOf (T : List (List Nat)) : List Nat → List Nat
  | [] => []
  | e :: r => addAll (e :: T.getD e []) (ancOf T r)

def ancT : List Oper → List (List Nat) → List (List Nat)
  | [], T => T
  | o :: r, T => ancT r (T ++ [ancOf T (edgesOf o)])

def freeP (T : List (List Nat)) (x y : Nat × VI) : Bool := !(x.1 == y.1) && ((T.getD y.1 []).contains x.1 || comm x.2 y.2)
def pairsOk (T : List (List Nat)) : List (Nat × VI) → Bool
  | [] => true
  | x :: r => r.all (freeP T x) && pairsOk T r

def topo (ops : Array Oper) : List Nat → List Nat → Bool
  | _, [] => true
  | seen, i :: r => (match ops[i]? with | some o => (edgesOf o).all seen.contains | none => false) && topo ops (i :: seen) r

def gOk (nt : Nat) (i : VI) : Bool := match i.g with | some (s, _) => s < nt | none => true

def mDraw (P : Program) (nt : Nat) (ops : Array Oper) (vis : List VI) (ord : List Nat) : Bool :=
  P.follows .mixedOrders && (ord.length == vis.length) && (ord.length == ops.size) && ((List.range ops.size).all fun k => ord.contains k) &&
  ((ord.zip vis).all fun x => gOk nt x.2 && match ops[x.1]? with | some o => mVI P nt ops x.2 o | none => false) && (pairsOk (ops.toList.map edgesOf) (ord.zip vis) || pairsOk (ancT ops.toList []) (ord.zip vis)) && topo ops [] ord

/-- r: within a round of a loop over a function -/
def mVC (P : Program) (nt : Nat) (r : Bool) : VC → Code → Bool
  | .drop _ _ c, d => mVC P nt r c d
  | .own _ _ _ c, d => mVC P nt r c d
  | .skip, .skip => true
  | .skip, .label _ => true
  | .scope a, .scope c => mVC P nt r a c
  | .reg vis none, .region _ ops false => vis.all (gOk nt) && mVIs P nt ops vis ops.toList
  | .reg vis (some ord), .region _ ops true => mDraw P nt ops vis ord
  | .seq a b, .seq c d => mVC P nt r a c && mVC P nt r b d
  | .cond x a b, .cond y c d => mO x y && mVC P nt r a c && mVC P nt r b d
  | .block i a, .block j c => i == j && mVC P nt r a c
  | .loop a, .loop c => mVC P nt r a c
  | .rfn _ n f ps a b, .rangeFunc g qs c d => !r && n == nt && mO f g && qs.toList == ps && ps.all (· < nt) && mVC P nt true a c && mVC P nt true b d
  | .exit i, .exit j => i == j
  | .ret, .ret => true
  | _, _ => false


def cmP (P : Program) : VC → Nat → Code → Prop := fun v n c => mVC P n true v c = true

end Go.V

/- V, part 17: calls and code. What it means that a function, called with data, returns data; what V's code comes to. -/
set_option linter.unusedVariables false
set_option linter.unusedSimpArgs false
namespace Go.V
open Go.RowKit

/-- A slice of a block of its own, its data ending at its end. -/
def Fresh (n0 : Nat) (w : World) (F : Nat → Nat) : VV → Value → Prop
  | .sl es 1, x => (∃ a, x = .slice a 0 0 ∧ es = []) ∨ ∃ b o cap arr ty sz, x = .slice (some ⟨b, o, none⟩) es.length cap ∧ es.length ≤ cap ∧ es ≠ [] ∧ w.heap[b]? = some (.cells arr ty (0, 0)) ∧
      (∀ e ∈ es, e.cells.length = sz) ∧ o + cap * sz ≤ arr.size ∧ F b = o + es.length * sz ∧ n0 ≤ b ∧ o = 0
  | _, _ => True

/-- What a call hands back: data, at most one slice of it fresh. -/
structure ResR (n0 : Nat) (w : World) (F : Nat → Nat) (r : VV) (x : Value) : Prop where
  rep : ∀ tb, Rep w F tb r x
  ids : r.ids 0 = true
  fresh : Fresh n0 w F r x
  tup : ∀ vs xs, r = .tup vs → x = .tuple xs → (∀ (j : Nat) v y, vs[j]? = some v → xs[j]? = some y → Fresh n0 w F v y) ∧ (∀ (i j : Nat) (es es' : List VV), vs[i]? = some (VV.sl es 1) → vs[j]? = some (VV.sl es' 1) → i = j)

/-- THE CONTRACT OF A CALL THAT IS HANDED DATA ALONE. -/
def PureC (P : Program) (f : Nat) (args : List VV) (r : VV) : Prop :=
  callOk P f = true ∧ ∀ (w : World) (F : Nat → Nat) (vals : Array Value), GlobOk w → (∀ b, w.heap.size ≤ b → F b = 0) → vals.size = args.length →
    (∀ j (h : j < args.length) (h' : j < vals.size), Rep w F (fun _ => none) args[j] vals[j]) →
    CallsIn Fence.wide 0 P f vals w fun e w' => ∃ x F', e = .returned x ∧ BelowD w.heap.size w w' ∧ (∀ b, w'.heap.size ≤ b → F' b = 0) ∧ (∀ b, b < w.heap.size → F' b = F b) ∧ ResR w.heap.size w' F' r x

/-- The contract of a call that is handed objects of the caller's. -/
def ImpC (P : Program) (f : Nat) (args : List VV) (ob : List Obj) (R : VV → List Obj → Prop) : Prop :=
  callOk P f = true ∧ ∀ (B : Nat) (w0 : W0) (g : Gh) (w : World) (vals : Array Value), w0.cm = cmP P → HInv B w0 ob g w → vals.size = args.length →
    (∀ j (h : j < args.length) (h' : j < vals.size), GV B ob g w args[j] vals[j]) →
    CallsIn Fence.wide 0 P f vals w fun e w' => ∃ x g' r ob', e = .returned x ∧ R r ob' ∧ HInv B w0 ob' g' w' ∧ GV B ob' g' w' r x ∧ Pres B ob g w ob' g' w'

/-- The contract of a round: what a call of yield, the loop's, answers. -/
def YldC (P : Program) (o : Nat) (args : List VV) (ob : List Obj) (R : VV → List Obj → Prop) : Prop :=
  ∀ (B : Nat) (w0 : W0) (g : Gh) (w : World) (l : Nat) (vals : Array Value), w0.cm = cmP P → HInv B w0 ob g w → g.tb o = some l → vals.size = args.length →
    (∀ j (h : j < args.length) (h' : j < vals.size), GV B ob g w args[j] vals[j]) →
    ∃ f tmps assign body, (Instr.yield l vals).run P w = .ok (.round l f tmps assign body) w ∧ RoundIn Fence.wide 0 P l f tmps assign body w fun e w' =>
      ∃ x g' r ob', e = .returned x ∧ R r ob' ∧ HInv B w0 ob' g' w' ∧ GV B ob' g' w' r x ∧ Pres B ob g w ob' g' w'

def yldOf : VV → Option Nat
  | .yld o => some o
  | _ => none

def VV.stripT : VV → VV
  | .tup vs => .tup (vs.map VV.strip)
  | v => v.strip

def setTok (t : Nat) : VV → VV
  | .sl es _ => .sl es t
  | v => v

/-- the elements of the fresh slice in a result -/
def freshOf : Option Nat → VV → Option (List VV)
  | none, .sl es 1 => some es
  | some i, .tup vs => match vs[i]? with
    | some (.sl es 1) => some es
    | _ => none
  | _, _ => none
def adoptV (t : Nat) : Option Nat → VV → VV
  | none, v => setTok t v
  | some i, .tup vs => .tup ((vs.map VV.strip).modify i (setTok t))
  | _, v => v

/-- A result on its way into a slot. -/
def takeR (own : Option (Option Nat × Nat)) (ob : List Obj) (r : VV) : Option (VV × List Obj) :=
  match own with
  | none => some (r.stripT, ob)
  | some (c, sz) => match freshOf c r with
    | some es => if hdSz es sz ∧ 0 < sz then some (adoptV (ob.length + 2) c r, ob ++ [.tok es.length sz]) else none
    | none => none

def putD (env : List (Nat × VV)) (d : Option Nat) (v : VV) : List (Nat × VV) := match d with | some d => put env d v | none => env

/-- is a guarded operation wanted -/
def wantedV (env : List (Nat × VV)) : Option (Nat × Bool) → Option Bool
  | none => some true
  | some (s, b) => match get env s with
    | .bool c => some (c == b)
    | .tup [] => some false
    | _ => none

/-- calls that are handed objects, in regions that draw: some true: one that keeps all cells and maps -/
def markOf : Option (Option Nat × Nat) → Option Bool
  | some (none, 0) => some true
  | some (some 0, 0) => some false
  | _ => none

def CallW (P : Program) (f : Nat) (args : List VV) (own : Option (Option Nat × Nat)) (d : Option Nat) (st : St) (K : St → Prop) : Prop :=
  ((args.map VV.strip).all (fun v => v.ids 0 && v.noTup) = true ∧ ∃ r, PureC P f (args.map VV.strip) r ∧ match takeR own st.ob r with
    | some (v, ob') => K { st with env := putD st.env d v, ob := ob' }
    | none => False) ∨
  ((own = none ∨ (markOf own).isSome = true) ∧ args.all VV.noTup = true ∧ ImpC P f (args.map VV.strip) st.ob fun r ob' => K { st with env := putD st.env d r, ob := ob' })

def CallN (P : Program) (f : Nat) (args : List VV) (own : Option (Option Nat × Nat)) (d : Option Nat) (st : St) (K : St → Prop) : Prop :=
  (args.map VV.stripN).all (fun v => v.ids 0 && v.noTup) = true ∧ ∃ r, PureC P f (args.map VV.stripN) r ∧ match takeR own st.ob r with
    | some (v, ob') => K { st with env := putD st.env d v, ob := ob' }
    | none => False

def fnOf : VV → Option (Nat × List VV)
  | .fn f cap => some (f, cap)
  | _ => none

def OpW (P : Program) (i : VI) (st : St) (K : St → Prop) : Prop :=
  match wantedV st.env i.g with
  | none => False
  | some false => K { st with env := putD st.env i.dst (.tup []) }
  | some true => match i.op with
    | .calln f args own => CallN P f (args.map (Opd.ev st.env)) own i.dst st K
    | .call f args own => CallW P f (args.map (Opd.ev st.env)) own i.dst st K
    | .callv x args own => match fnOf (x.ev st.env) with
      | some (f, cap) => CallW P f (args.map (Opd.ev st.env) ++ cap) own i.dst st K
      | none => match yldOf (x.ev st.env) with
        | some o => (args.map (Opd.ev st.env)).all VV.noTup = true ∧ YldC P o ((args.map (Opd.ev st.env)).map VV.strip) st.ob fun r ob' => K { st with env := putD st.env i.dst r, ob := ob' }
        | none => False
    | .isnil neg x => match x.ev st.env with
      | .sl (_ :: _) _ => K { st with env := putD st.env i.dst (.bool neg) }
      | .sl [] _ => ∀ b, K { st with env := putD st.env i.dst (.bool b) }
      | .nils => ∀ b, K { st with env := putD st.env i.dst (.bool b) }
      | _ => False
    | .mnext x => match x.ev st.env with
      | .it o => match nthO st.ob o with
        | .miter m left _ => (left = [] → K { st with env := putD st.env i.dst (.tup [.bool false]) }) ∧
            ∀ p ∈ picks left, K { st with env := putD st.env i.dst (.tup [.bool true, p.1.1, p.1.2]), ob := st.ob.set o (.miter m p.2 (some p.1)) }
        | _ => False
      | _ => False
    | op => match op.ev st.toS0 with
      | some (v, ob') => K { st with env := putD st.env i.dst v, ob := ob' }
      | none => False

def Ops (P : Program) : List VI → St → (St → Prop) → Prop
  | [], st, K => K st
  | i :: r, st, K => OpW P i st fun st' => Ops P r st' K

/-- the marks among the deferred calls -/
def Marks (B : Nat) (ob : List Obj) (g : Gh) (w : World) : List Nat → List Deferred → Prop
  | [], ds => ds = []
  | o :: r, ds => ∃ b es, ds = { target := .collected b, args := #[] } :: es ∧ GV B ob g w (.yld o) (.func (.yield b) #[] #[]) ∧ Marks B ob g w r es

theorem Marks.pres {B : Nat} {ob ob' : List Obj} {g g' : Gh} {w w' : World} (hp : Pres B ob g w ob' g' w') : ∀ {l : List Nat} {ds : List Deferred}, Marks B ob g w l ds → Marks B ob' g' w' l ds
  | [], _, h => h
  | _ :: _, _, ⟨b, es, h1, h2, h3⟩ => ⟨b, es, h1, hp _ _ h2, Marks.pres hp h3⟩

/-- The state of V and the machine's, side by side. -/
structure SInv (B : Nat) (w0 : W0) (st : St) (g : Gh) (nt : Nat) (D : List Deferred) (a : Act) (w : World) : Prop where
  H : HInv B w0 st.ob g w
  e : ∀ s, GV B st.ob g w (get st.env s) (a.tmps.getD s undef)
  n : a.tmps.size = nt
  d : Marks B st.ob g w st.marks a.defers
  k : (∀ v x, w0.keep v x → GV B st.ob g w v x ∧ v.ids st.base = true) ∧ (st.pure = true → ∀ v x, ¬ w0.keep v x)

theorem get_put (env : List (Nat × VV)) (d : Nat) (v : VV) (s : Nat) : get (put env d v) s = if s = d then v else get env s := by
  induction env with
  | nil => simp only [put, get]; by_cases h : d = s <;> simp [h]; intro e; exact absurd e.symm h
  | cons p r ih =>
    obtain ⟨k, u⟩ := p
    simp only [put]
    by_cases h1 : d = k
    · subst h1
      simp only [if_true, get]
      by_cases h2 : d = s
      · simp [h2]
      · rw [if_neg h2, if_neg h2, if_neg (fun e => h2 e.symm)]
    · rw [if_neg h1]
      by_cases h2 : d < k
      · rw [if_pos h2]
        simp only [get]
        by_cases h3 : d = s
        · simp [h3]
        · have h4 : ¬ s = d := fun e => h3 e.symm
          simp [h3, h4]
      · rw [if_neg h2]
        simp only [get, ih]
        by_cases h3 : k = s
        · subst h3
          rw [if_pos rfl, if_neg (fun e => h1 e.symm), if_pos rfl]
        · rw [if_neg h3, if_neg h3]

section
variable {P : Program} {B : Nat} {w0 : W0} {g : Gh} {nt : Nat} {D : List Deferred} {a : Act} {w : World} {st : St}

theorem GV.undef {ob : List Obj} : GV B ob g w (.tup []) undef := ⟨.tup rfl rfl fun j hj => absurd hj (by simp), fun j v x h => by simp at h, rfl⟩

theorem SInv.reads (S : SInv B w0 st g nt D a w) : Reads B st.ob g w st.env a.eval := ⟨fun _ => rfl, fun _ => rfl, S.e⟩

theorem SInv.put (S : SInv B w0 st g nt D a w) {g' : Gh} {w' : World} {ob' : List Obj} {d : Option Nat} {v : VV} {x : Value} (hd : ∀ k, d = some k → k < nt) (H : HInv B w0 ob' g' w') (hv : GV B ob' g' w' v x) (hp : Pres B st.ob g w ob' g' w') :
    SInv B w0 { st with env := putD st.env d v, ob := ob' } g' nt D (a.put d x) w' := by
  refine ⟨H, fun s => ?_, ?_, ?_, ⟨fun v x h => ⟨hp _ _ (S.k.1 v x h).1, (S.k.1 v x h).2⟩, S.k.2⟩⟩
  · cases d with
    | none => exact hp _ _ (S.e s)
    | some k =>
      have hk := hd k rfl
      simp only [putD, Act.put]
      rw [get_put]
      by_cases e : s = k
      · subst e
        rw [if_pos rfl]
        have : (a.tmps.setIfInBounds s x).getD s Go.undef = x := by simp [S.n, hk]
        rw [this]; exact hv
      · rw [if_neg e]
        have : (a.tmps.setIfInBounds k x).getD s Go.undef = a.tmps.getD s Go.undef := by
          simp [Array.getElem?_setIfInBounds_ne (fun q => e q.symm)]
        rw [this]; exact hp _ _ (S.e s)
  · cases d with
    | none => exact S.n
    | some k => simpa [Act.put] using S.n
  · cases d with
    | none => exact S.d.pres hp
    | some k => exact S.d.pres hp

theorem callFunc_ok {f : Nat} (h : callOk P f = true) (args : Array Value) (w : World) : (callFunc f args).run P w = .ok (.enter f args) w := by
  unfold callOk at h
  cases hf : P.funcs[f]? with
  | none => simp [hf] at h
  | some fn =>
    simp only [hf, Bool.and_eq_true, bne_iff_ne, ne_eq] at h
    obtain ⟨h1, h2⟩ := h
    obtain ⟨c, hb⟩ := Option.isSome_iff_exists.1 h1
    simp [callFunc, hf, h2, hb]

/-- the fence that bars nothing, in a round or not -/
def Wd (ro : Option Nat) : Fence := { Fence.wide with round := ro }

theorem calls_wd {ro : Option Nat} {f : Nat} {args : Array Value} {R : Ending → World → Prop} (h : CallsIn Fence.wide 0 P f args w R) : CallsIn (Wd ro) 0 P f args w R := h

theorem stripT_eq {v : VV} (h : v.noTup = true) : v.stripT = v.strip := by
  cases v <;> first | rfl | (simp [VV.noTup] at h)

theorem stripT_GV {ob : List Obj} {r : VV} {x : Value} (hr : ∀ tb, Rep w g.F tb r x) (hi : r.ids 0 = true) : GV B ob g w r.stripT x := by
  cases r with
  | tup vs =>
    have h := hr g.tb
    cases h with
    | @tup _ xs hl hc h =>
      simp only [VV.ids] at hi
      refine ⟨.tup (by simpa using hl) ?_ fun j hj => ?_, ?_, ?_⟩
      · rw [List.all_eq_true] at hc ⊢
        intro u hu
        obtain ⟨q, hq, rfl⟩ := List.mem_map.1 hu
        have := hc q hq
        cases q <;> simp_all [VV.strip, VV.strip0, VV.noTup]
      · have := strip_rep (h j (by simpa using hj))
        simpa using this
      · intro j v y hv hy
        simp only [List.getElem?_map, Option.map_eq_some_iff] at hv
        obtain ⟨q, hq, rfl⟩ := hv
        have hn := List.all_eq_true.1 hc q (List.mem_of_getElem? hq)
        have hs := strip_hnd (B := B) (ob := ob) (g := g) (w := w) q y hn
        refine ⟨?_, fun ds ys e1 e2 k u z hu hz => ?_⟩
        · revert hs
          generalize q.strip = p
          cases p with
          | agg cs => intro _; trivial
          | tup cs => intro _; trivial
          | sl es t => intro h; exact Hnd.sl.1 h
          | _ => intro _; trivial
        · rw [e1, e2] at hs
          exact hs k u z hu hz
      · simp only [VV.stripT, VV.ids]
        refine idsL_of fun u hu => ?_
        obtain ⟨q, hq, rfl⟩ := List.mem_map.1 hu
        obtain ⟨j, hj, rfl⟩ := List.getElem_of_mem hq
        exact strip_ids ((ids_mono (Nat.zero_le _)).1 _ (idsL_get hi j hj))
  | _ =>
    rw [stripT_eq rfl]
    exact ⟨strip_rep (hr g.tb), strip_hnd _ _ rfl, strip_ids ((ids_mono (Nat.zero_le _)).1 _ hi)⟩

end
end Go.V

/- V, part 18: calls in the machine. -/
set_option linter.unusedVariables false
set_option linter.unusedSimpArgs false
namespace Go.V
open Go.RowKit

section
variable {P : Program} {B : Nat} {w0 : W0} {ob : List Obj} {g : Gh} {nt : Nat} {D : List Deferred} {a : Act} {w : World} {st : St}

/-- Behind a call that has left all old blocks as they were. -/
theorem HInv.called (H : HInv B w0 ob g w) {w' : World} {F' : Nat → Nat} (hb : BelowD w.heap.size w w') (hf : ∀ b, w'.heap.size ≤ b → F' b = 0) (hF : ∀ b, b < w.heap.size → F' b = g.F b) :
    HInv B w0 ob { g with F := F' } w' ∧ Pres B ob g w ob { g with F := F' } w' := by
  have hw : ∀ b o, o < g.F b → w'.cell? ⟨b, o, none⟩ = w.cell? ⟨b, o, none⟩ := fun b o h => hb.cell (p := ⟨b, o, none⟩) (H.F_pos h)
  have hFm : ∀ b, g.F b ≤ F' b := fun b => by
    rcases Nat.lt_or_ge b w.heap.size with h | h
    · rw [hF b h]; exact Nat.le_refl _
    · rw [H.fz b h]; exact Nat.zero_le _
  have hp : Pres B ob g w ob { g with F := F' } w' := by
    refine Pres.of (Nat.le_refl _) hw hFm (fun _ _ _ h => h) fun t n sz h => ⟨n, h, Nat.le_refl _, fun _ x hc => ?_⟩
    rcases hc with ⟨a, rfl, rfl⟩ | ⟨b1, o1, cap, arr1, ty1, q1, rfl, q3, q4, q5, q6, q7⟩
    · exact .inl ⟨a, rfl, rfl⟩
    · have hlt := lt_of_heap q4
      exact .inr ⟨b1, o1, cap, arr1, ty1, q1, rfl, q3, (hb.block _ hlt).trans q4, q5, (hF _ hlt).trans q6, q7⟩
  refine ⟨⟨H.below.trans (hb.mono H.hB), Nat.le_trans H.hB hb.size, hf, fun b h => (hF b (Nat.lt_of_lt_of_le h H.hB)).trans (H.f0 b h), H.c0, fun i b h => ⟨(H.tbl i b h).1, Nat.lt_of_lt_of_le (H.tbl i b h).2 hb.size⟩, fun i b h => ⟨(H.kbl i b h).1, Nat.lt_of_lt_of_le (H.kbl i b h).2 hb.size⟩, H.inj, H.injk, H.apart, fun i hi => ?_⟩, hp⟩
  exact (H.obs i hi).keep hp (rep_keep hw hFm) (fun b h => ⟨h, hF _ (H.tbl i b h).2, hb.block _ (H.tbl i b h).2⟩) (fun h => h) (fun m b q1 q2 => ⟨q2, q1, hb.block _ (H.tbl m b q2).2⟩)

theorem fresh_adopt (H : HInv B w0 ob g w) {n0 : Nat} {es : List VV} {x : Value} {sz : Nat} (h0 : 0 < sz) (hs : hdSz es sz = true) (hB : B ≤ n0) (hfr : Fresh n0 w g.F (.sl es 1) x) (hr : Rep w g.F g.tb (.sl es 1) x)
    (hn : ∀ i b, g.tb i = some b → b < n0) (hk : ∀ i b, g.kb i = some b → b < n0) :
    ∃ g', g'.F = g.F ∧ g'.tb = g.tb ∧ HInv B w0 (ob ++ [.tok es.length sz]) g' w ∧ Pres B ob g w (ob ++ [.tok es.length sz]) g' w ∧ GV B (ob ++ [.tok es.length sz]) g' w (.sl es (ob.length + 2)) x := by
  have hrep : Rep w g.F g.tb (.sl es (ob.length + 2)) x := by
    cases hr with
    | slE => exact .slE
    | sl vals hne hcap hsz hc h hr hF => exact .sl vals hne hcap hsz hc h hr hF
  rcases hfr with ⟨a, rfl, rfl⟩ | ⟨b, o, cap, arr, ty, sz', rfl, hcap, hne, hheap, hel, hfit, hF, hb0⟩
  · obtain ⟨H2, p2⟩ := H.pushTok (n := 0) h0 none (by simp)
    refine ⟨{ g with kb := fun i => if i = ob.length then none else g.kb i }, rfl, rfl, H2, p2, hrep, Hnd.sl.2 ⟨0, sz, nthO_new _ _, h0, Nat.le_refl _, fun _ => .inl ⟨a, rfl, rfl⟩, fun j hj => absurd hj (by simp)⟩, by simp [VV.ids]⟩
  · have hse : sz' = sz := by
      cases es with
      | nil => exact absurd rfl hne
      | cons e r =>
        simp only [hdSz, beq_iff_eq] at hs
        rw [← hs]; exact (hel e (by simp)).symm
    subst hse
    obtain ⟨H2, p2⟩ := H.pushTok (n := es.length) h0 (some b) (fun b' h => by
      cases h
      exact ⟨lt_of_heap hheap, fun i h => by have := hn i _ h; omega, fun i h => by have := hk i _ h; omega⟩)
    refine ⟨{ g with kb := fun i => if i = ob.length then some b else g.kb i }, rfl, rfl, H2, p2, hrep, Hnd.sl.2 ⟨es.length, sz', nthO_new _ _, h0, Nat.le_refl _, fun _ => .inr ⟨b, o, cap, arr, ty, by simp, rfl, hcap, hheap, hfit, hF, by omega, List.length_pos_iff.2 hne, hb0.2⟩, fun j hj => hel _ (List.getElem_mem hj)⟩, by simp [VV.ids]⟩

theorem take_sound (H : HInv B w0 ob g w) {n0 : Nat} (hB : B ≤ n0) {own : Option (Option Nat × Nat)} {r v : VV} {x : Value} {ob' : List Obj} (hr : ResR n0 w g.F r x) (hn : ∀ i b, g.tb i = some b → b < n0) (hk : ∀ i b, g.kb i = some b → b < n0)
    (h : takeR own ob r = some (v, ob')) : ∃ g', HInv B w0 ob' g' w ∧ Pres B ob g w ob' g' w ∧ GV B ob' g' w v x := by
  unfold takeR at h
  split at h
  · simp only [Option.some.injEq, Prod.mk.injEq] at h
    obtain ⟨rfl, rfl⟩ := h
    exact ⟨g, H, Pres.refl _ _ _ _, stripT_GV hr.rep hr.ids⟩
  · rename_i c sz
    split at h
    · rename_i es hes
      split at h
      · rename_i hcond
        simp only [Option.some.injEq, Prod.mk.injEq] at h
        obtain ⟨rfl, rfl⟩ := h
        unfold freshOf at hes
        split at hes
        · cases hes
          obtain ⟨g', _, _, H', p', hg'⟩ := fresh_adopt H hcond.2 hcond.1 hB hr.fresh (hr.rep g.tb) hn hk
          exact ⟨g', H', p', hg'⟩
        · rename_i i vs
          split at hes
          · rename_i es' hvi
            cases hes
            have hrep := hr.rep g.tb
            have hids := hr.ids
            obtain ⟨hlt, hve⟩ := List.getElem?_eq_some_iff.1 hvi
            cases hrep with
            | @tup _ xs hl hc hrs =>
              have hxi : xs[i]? = some (xs[i]'(hl ▸ hlt)) := Array.getElem?_eq_getElem (hl ▸ hlt)
              have hfr := (hr.tup vs xs rfl rfl).1 i _ _ hvi hxi
              have hri := hrs i hlt
              rw [hve] at hri
              obtain ⟨g', hF', ht', H', p', hg'⟩ := fresh_adopt H hcond.2 hcond.1 hB hfr hri hn hk
              refine ⟨g', H', p', ?_⟩
              -- the tuple with the one component's handle
              have hS : GV B ob g w (VV.stripT (.tup vs)) (.tuple xs) := stripT_GV hr.rep hr.ids
              have hS' := p' _ _ hS
              simp only [VV.stripT] at hS'
              have hcomp : ∀ (j : Nat) (hj : j < ((vs.map VV.strip).modify i (setTok (ob.length + 2))).length), ((vs.map VV.strip).modify i (setTok (ob.length + 2)))[j] = if j = i then .sl es (ob.length + 2) else (vs[j]'(by simpa using hj)).strip := fun j hj => by
                rw [List.getElem_modify]
                by_cases e : j = i
                · subst e
                  simp only [if_true, List.getElem_map, hve]
                  rfl
                · rw [if_neg (fun q => e q.symm), if_neg e, List.getElem_map]
              have hrep' := hS'.rep
              have hids' := hS'.ids
              have hhnd' := hS'.hnd
              cases hrep' with
              | @tup _ _ hl2 hc2 hrs2 =>
                refine ⟨.tup (by simpa using hl) ?_ fun j hj => ?_, ?_, ?_⟩
                · rw [List.all_eq_true]
                  intro u hu
                  obtain ⟨j, hj, rfl⟩ := List.getElem_of_mem hu
                  rw [hcomp j hj]
                  split
                  · rfl
                  · have := List.all_eq_true.1 hc2 ((vs.map VV.strip)[j]'(by simpa using hj)) (List.getElem_mem _)
                    simpa using this
                · rw [hcomp j hj]
                  split
                  · rename_i e; subst e; exact hg'.rep
                  · have := hrs2 j (by simpa using hj)
                    simpa using this
                · intro j v y hv hy
                  obtain ⟨hj, rfl⟩ := List.getElem?_eq_some_iff.1 hv
                  rw [hcomp j hj]
                  split
                  · rename_i e
                    subst e
                    rw [hxi] at hy; cases hy
                    exact ⟨Hnd.sl.1 hg'.hnd, fun ds ys e1 => by cases e1⟩
                  · have := hhnd' j (vs[j]'(by simpa using hj)).strip y (by simp [show j < vs.length by simpa using hj]) hy
                    exact this
                · simp only [adoptV, VV.ids]
                  refine idsL_of fun u hu => ?_
                  obtain ⟨j, hj, rfl⟩ := List.getElem_of_mem hu
                  rw [hcomp j hj]
                  split
                  · exact hg'.ids
                  · simp only [VV.ids] at hids'
                    have := idsL_get hids' j (by simpa using hj)
                    simpa using this
          · cases hes
        · cases hes
      · cases h
    · cases h

theorem noHnd_hnd {v : VV} (h : v.noHnd = true) (x : Value) : Hnd B ob g w v x := by
  cases v with
  | agg cs =>
    simp only [VV.noHnd, List.all_eq_true] at h
    cases x <;> try trivial
    intro j v x hv _
    have hc := h v (List.mem_of_getElem? hv)
    cases v <;> first | trivial | (simp only [VV.noHnd0, beq_iff_eq] at hc; subst hc; trivial)
  | sl es t =>
    simp only [VV.noHnd, VV.noHnd0, beq_iff_eq] at h
    subst h
    exact Hnd.sl.2 trivial
  | tup vs => simp [VV.noHnd, VV.noHnd0] at h
  | _ => cases x <;> trivial

/-- A call, in the machine. -/
theorem callW_sound (hcm : w0.cm = cmP P) (S : SInv B w0 st g nt D a w) {f : Nat} {args : List VV} {vals : Array Value} (hl : vals.size = args.length) (hv : ∀ j (h : j < args.length) (h' : j < vals.size), GV B st.ob g w args[j] vals[j])
    {own : Option (Option Nat × Nat)} {d : Option Nat} (hd : ∀ k, d = some k → k < nt) {K : St → Prop} (h : CallW P f args own d st K) :
    callOk P f = true ∧ CallsIn Fence.wide 0 P f vals w fun e w' => ∃ x g' st', e = .returned x ∧ K st' ∧ SInv B w0 st' g' nt D (a.put d x) w' := by
  rcases h with ⟨hcl, r, ⟨hok, hc⟩, hk⟩ | ⟨hown, hnt, hok, hc⟩
  · refine ⟨hok, ?_⟩
    rw [List.all_eq_true] at hcl
    refine CallsIn.mono (hc w g.F vals S.H.glob S.H.fz (by simpa using hl) fun j hj hj' => ?_) ?_
    · have hj2 : j < args.length := by simpa using hj
      have hg := hv j hj2 hj'
      have := hcl (args[j].strip) (List.mem_map.2 ⟨_, List.getElem_mem hj2, rfl⟩)
      simp only [Bool.and_eq_true] at this
      have hs := strip_rep hg.rep
      simp only [List.getElem_map]
      exact hs.mono (n := 0) (fun _ _ _ => rfl) (fun _ => Nat.le_refl _) (fun i b hi => absurd hi (by omega)) this.1
    · rintro e w' ⟨x, F', rfl, hb, hf, hF, hres⟩
      obtain ⟨H1, p1⟩ := S.H.called hb hf hF
      cases ht : takeR own st.ob r with
      | none => rw [ht] at hk; exact hk.elim
      | some q =>
        obtain ⟨v, ob'⟩ := q
        rw [ht] at hk
        obtain ⟨g', H2, p2, hg2⟩ := take_sound (n0 := w.heap.size) H1 S.H.hB hres (fun i b h => (S.H.tbl i b h).2) (fun i b h => (S.H.kbl i b h).2) ht
        exact ⟨x, g', _, rfl, hk, S.put hd H2 hg2 (p1.trans p2)⟩
  · refine ⟨hok, ?_⟩
    rw [List.all_eq_true] at hnt
    refine CallsIn.mono (hc B w0 g w vals hcm S.H (by simpa using hl) fun j hj hj' => ?_) ?_
    · have hj2 : j < args.length := by simpa using hj
      simp only [List.getElem_map]
      exact (hv j hj2 hj').strip (hnt _ (List.getElem_mem hj2))
    · rintro e w' ⟨x, g', r, ob', rfl, hk, H', hg', hp⟩
      exact ⟨x, g', _, rfl, hk, S.put hd H' hg' hp⟩

theorem stripN_rep {F : Nat → Nat} {tb : Nat → Option Nat} {v : VV} {x : Value} (h : Rep w F tb v x) : Rep w F tb v.stripN x := by
  have := strip_rep (g := ⟨F, tb, fun _ => none, fun _ _ _ => False⟩) h
  cases v <;> first | exact h | exact this
/-- A call that hands nil slices on, in the machine. -/
theorem callN_sound (S : SInv B w0 st g nt D a w) {f : Nat} {args : List VV} {vals : Array Value} (hl : vals.size = args.length) (hv : ∀ j (h : j < args.length) (h' : j < vals.size), GV B st.ob g w args[j] vals[j])
    {own : Option (Option Nat × Nat)} {d : Option Nat} (hd : ∀ k, d = some k → k < nt) {K : St → Prop} (h : CallN P f args own d st K) :
    callOk P f = true ∧ CallsIn Fence.wide 0 P f vals w fun e w' => ∃ x g' st', e = .returned x ∧ K st' ∧ SInv B w0 st' g' nt D (a.put d x) w' := by
  obtain ⟨hcl, r, ⟨hok, hc⟩, hk⟩ := h
  refine ⟨hok, ?_⟩
  rw [List.all_eq_true] at hcl
  refine CallsIn.mono (hc w g.F vals S.H.glob S.H.fz (by simpa using hl) fun j hj hj' => ?_) ?_
  · have hj2 : j < args.length := by simpa using hj
    have hg := hv j hj2 hj'
    have := hcl (args[j].stripN) (List.mem_map.2 ⟨_, List.getElem_mem hj2, rfl⟩)
    simp only [Bool.and_eq_true] at this
    have hs := stripN_rep hg.rep
    simp only [List.getElem_map]
    exact hs.mono (n := 0) (fun _ _ _ => rfl) (fun _ => Nat.le_refl _) (fun i b hi => absurd hi (by omega)) this.1
  · rintro e w' ⟨x, F', rfl, hb, hf, hF, hres⟩
    obtain ⟨H1, p1⟩ := S.H.called hb hf hF
    cases ht : takeR own st.ob r with
    | none => rw [ht] at hk; exact hk.elim
    | some q =>
      obtain ⟨v, ob'⟩ := q
      rw [ht] at hk
      obtain ⟨g', H2, p2, hg2⟩ := take_sound (n0 := w.heap.size) H1 S.H.hB hres (fun i b h => (S.H.tbl i b h).2) (fun i b h => (S.H.kbl i b h).2) ht
      exact ⟨x, g', _, rfl, hk, S.put hd H2 hg2 (p1.trans p2)⟩

theorem wanted_sound (S : SInv B w0 st g nt D a w) {ops : Array Oper} {gd : Option (Nat × Bool)} {o : Oper} (hm : mGuard ops gd o.guard = true) {t : Bool} (h : wantedV st.env gd = some t) (hnt : ∀ s b, gd = some (s, b) → s < nt) :
    Region.wanted o (yielded ops a.tmps) = t := by
  unfold mGuard at hm
  split at hm
  · rename_i h1
    simp only [wantedV, Option.some.injEq] at h
    subst h
    simp [Region.wanted, h1]
  · rename_i s b j b' h1
    simp only [Bool.and_eq_true, beq_iff_eq] at hm
    obtain ⟨rfl, hdst⟩ := hm
    have hs := hnt s b rfl
    have hg := S.e s
    have htm : a.tmps[s]? = some (a.tmps.getD s Go.undef) := by simp [S.n, hs]
    have hy : yielded ops a.tmps j = match a.tmps.getD s Go.undef with | .bool c => some c | _ => none := by
      unfold yielded
      rw [hdst]
      simp only [Option.bind_some, htm]
      cases a.tmps.getD s Go.undef <;> rfl
    simp only [Region.wanted, h1]
    rw [hy]
    simp only [wantedV] at h
    revert h hg
    generalize get st.env s = u
    generalize a.tmps.getD s Go.undef = x
    intro h hg
    split at h
    · cases h
      obtain rfl := hg.bool_inv
      rename_i c
      cases c <;> cases b <;> rfl
    · cases h
      have hr := hg.rep
      cases hr with
      | tup hl hc hr => rfl
    · cases h
  · cases hm

theorem args_sound (S : SInv B w0 st g nt D a w) {args : List Opd} {args' : Array Operand} (hm : mOL args args'.toList = true) :
    (args'.map a.eval).size = (args.map (Opd.ev st.env)).length ∧ ∀ j (h : j < (args.map (Opd.ev st.env)).length) (h' : j < (args'.map a.eval).size), GV B st.ob g w (args.map (Opd.ev st.env))[j] (args'.map a.eval)[j] := by
  have hl := mOL_len hm
  simp only [Array.length_toList] at hl
  refine ⟨by simpa using hl, fun j h h' => ?_⟩
  have hj : j < args.length := by simpa using h
  have hj' : j < args'.size := by omega
  simp only [List.getElem_map, Array.getElem_map]
  exact S.reads.opd (by have := mOL_get hm j hj (by simpa using hj'); rwa [Array.getElem_toList] at this)

theorem mOp_next {x : Opd} (op : Op) : mOp P (.mnext x) op = false := by
  unfold mOp
  split <;> first | rfl | (rename_i h; cases h; done) | skip
  all_goals (first | (rename_i h _; cases h; done) | simp_all [mCallB])
theorem mOp_isnil {neg : Bool} {x : Opd} (op : Op) : mOp P (.isnil neg x) op = false := by
  unfold mOp
  split <;> first | rfl | (rename_i h; cases h; done) | skip
  all_goals (first | (rename_i h _; cases h; done) | simp_all [mCallB])
theorem nilC_inv {z : Operand} (h : nilC z = true) : z = .const (.slice none 0 0) := by
  unfold nilC at h
  split at h
  · rfl
  · cases h
theorem mCall_isnil {neg : Bool} {x : Opd} {op : Op} (h : mCall P (.isnil neg x) op = true) : ∃ t y ty, op = .binOp (if neg then .neq else .eql) t y (.const (.slice none 0 0)) ty ∧ mO x y = true ∧ kindTy P 1 t = true := by
  unfold mCall at h
  split at h
  · rename_i e; cases e
  · rename_i e; cases e
  · rename_i e; cases e
  · rename_i e; cases e
  · rename_i e
    cases e
    simp only [Bool.and_eq_true] at h
    obtain ⟨⟨⟨h1, h2⟩, h3⟩, h4⟩ := h
    rw [nilC_inv h3]
    cases neg <;> simp at h1 <;> subst h1 <;> exact ⟨_, _, _, rfl, h2, h4⟩
  · cases h
theorem run_isnil {neg : Bool} {t : TypeId} {y z : Operand} {a : Option Addr} {n c : Nat} {w : World} (ht : kindTy P 1 t = true) :
    (do eqGuard (if neg then .neq else .eql) t y z (.slice a n c) (.slice none 0 0); binOp (if neg then .neq else .eql) t (.slice a n c) (.slice none 0 0) : Sem Value).run P w = .ok (.bool (a.isNone != neg)) w := by
  have hu : ∃ e, P.underlying t = some (.slice e) := by
    unfold kindTy at ht
    cases hu : P.underlying t with
    | none => simp [hu] at ht
    | some d => cases d <;> simp [hu] at ht; exact ⟨_, rfl⟩
  obtain ⟨e, hu⟩ := hu
  have h0 : ∀ d, (Op.equalIn (d + 1) t (.slice a n c) (.slice none 0 0)).run P w = .ok a.isNone w := fun d => by cases a <;> simp [Op.equalIn, run_underlying hu]
  cases neg
  · simp [eqGuard, binOp, Op.equal, Op.maxDepth, h0 9999]
  · simp [eqGuard, binOp, Op.equal, Op.maxDepth, h0 9999]
theorem mCall_next {x : Opd} {op : Op} (h : mCall P (.mnext x) op = true) : ∃ y, op = .next y false ∧ mO x y = true := by
  unfold mCall at h
  split at h
  · rename_i e; cases e
  · rename_i e; cases e
  · rename_i e; cases e
  · rename_i e; cases e; exact ⟨_, rfl, h⟩
  · rename_i e; cases e
  · cases h

set_option maxHeartbeats 1000000 in
/-- One operation of a region: it goes on in a state of V's. -/
theorem opW_sound (hcm : w0.cm = cmP P) (S : SInv B w0 st g nt D a w) {ro : Option Nat} {ops : Array Oper} {i : VI} {o : Oper} (hm : mVI P nt ops i o = true) (hgn : ∀ s b, i.g = some (s, b) → s < nt) {K : St → Prop} (h : OpW P i st K) {Q : Exit → Act → World → Prop} {next : Act → World → Prop}
    (hn : ∀ st' g' a' w', K st' → SInv B w0 st' g' nt D a' w' → next a' w') :
    if Region.wanted o (yielded ops a.tmps) then o.wpIn (Wd ro) 0 P a w next Q else (∀ f, o.about P w a.eval = some f → (Wd ro).fn f) ∧ next (a.put o.dst Go.undef) w := by
  simp only [mVI, Bool.and_eq_true, beq_iff_eq, Bool.or_eq_true] at hm
  obtain ⟨⟨⟨hdst, hdn⟩, hgd⟩, hop⟩ := hm
  have hdn' : ∀ k, i.dst = some k → k < nt := fun k hk => by rw [hk] at hdn; simpa using hdn
  unfold OpW at h
  split at h
  · exact h.elim
  · rename_i hw
    have := wanted_sound S hgd hw hgn
    rw [this]
    simp only [Bool.false_eq_true, if_false]
    exact ⟨fun _ _ => trivial, hn _ _ _ _ h (by rw [← hdst]; exact S.put (ob' := st.ob) hdn' S.H GV.undef (Pres.refl _ _ _ _))⟩
  · rename_i hw
    have hwant := wanted_sound S hgd hw hgn
    rw [hwant]
    simp only [if_true]
    have nodefer : ∀ c, o.op ≠ .defer c := fun c e => by
      rcases hop with q | q <;> rw [e] at q
      · unfold mOp at q; split at q <;> simp_all
      · unfold mCall at q; split at q <;> simp_all
    have hsem : Oper.semAt (Wd ro).round a.eval o = execOp a.eval o := Oper.semAt_eq _ _ _ nodefer
    refine ⟨fun _ _ => trivial, ?_⟩
    rw [hsem]
    have hcall : ∀ (f : Nat) (args : List VV) (vals : Array Value) (own : Option (Option Nat × Nat)), vals.size = args.length → (∀ j (h : j < args.length) (h' : j < vals.size), GV B st.ob g w args[j] vals[j]) → CallW P f args own i.dst st K →
        (execOp a.eval o).run P w = (callFunc f vals).run P w → o.uponIn (Wd ro) 0 P a next Q ((execOp a.eval o).run P w) := by
      intro f args vals own hl hv hc hrun
      obtain ⟨hok, hcalls⟩ := callW_sound hcm S hl hv hdn' hc
      rw [hrun, callFunc_ok hok]
      refine ⟨fun h => by simp [Wd, Fence.wide] at h, ?_⟩
      refine CallsIn.mono (calls_wd hcalls) ?_
      rintro e w' ⟨x, g', st', rfl, hk, hS⟩
      have e : a.put o.dst x = a.put i.dst x := by rw [hdst]
      show next (a.put o.dst x) w'
      rw [e]
      exact hn _ _ _ _ hk hS
    split at h
    · rename_i f args own hi
      rcases hop with hop | hop
      · rw [hi] at hop; unfold mOp at hop; split at hop <;> simp_all [mCallB]
      · rw [hi] at hop
        cases ho : o.op <;> simp only [ho, mCall, Bool.false_eq_true] at hop
        rename_i c
        obtain ⟨callee, cargs, cty⟩ := c
        cases callee <;> simp only [Bool.false_eq_true] at hop
        rename_i y
        cases y <;> simp only [Bool.false_eq_true, Bool.and_eq_true, beq_iff_eq] at hop
        obtain ⟨⟨rfl, h1⟩, h2⟩ := hop
        obtain ⟨q1, q2⟩ := args_sound S h1
        obtain ⟨hok, hcalls⟩ := callN_sound S q1 q2 hdn' h
        have hrun : (execOp a.eval o).run P w = (callFunc f (cargs.map a.eval)).run P w := by simp [execOp, ho, resolve, Deferred.ofValue, invoke, Act.eval]
        rw [hrun, callFunc_ok hok]
        refine ⟨fun h => by simp [Wd, Fence.wide] at h, ?_⟩
        refine CallsIn.mono (calls_wd hcalls) ?_
        rintro e w' ⟨x, g', st', rfl, hk, hS⟩
        have e : a.put o.dst x = a.put i.dst x := by rw [hdst]
        show next (a.put o.dst x) w'
        rw [e]
        exact hn _ _ _ _ hk hS
    · rename_i f args own hi
      rcases hop with hop | hop
      · rw [hi] at hop; unfold mOp at hop; split at hop <;> simp_all [mCallB]
      · rw [hi] at hop
        cases ho : o.op <;> simp only [ho, mCall, Bool.false_eq_true] at hop
        rename_i c
        obtain ⟨callee, cargs, cty⟩ := c
        cases callee <;> simp only [Bool.false_eq_true] at hop
        rename_i y
        cases y <;> simp only [Bool.false_eq_true, Bool.and_eq_true, beq_iff_eq] at hop
        obtain ⟨⟨rfl, h1⟩, h2⟩ := hop
        obtain ⟨q1, q2⟩ := args_sound S h1
        exact hcall f _ (cargs.map a.eval) own q1 q2 h (by simp [execOp, ho, resolve, Deferred.ofValue, invoke, Act.eval])
    · rename_i x args own hi
      rcases hop with hop | hop
      · rw [hi] at hop; unfold mOp at hop; split at hop <;> simp_all [mCallB]
      · rw [hi] at hop
        cases ho : o.op <;> simp only [ho, mCall, Bool.false_eq_true] at hop
        rename_i c
        obtain ⟨callee, cargs, cty⟩ := c
        cases callee <;> simp only [Bool.false_eq_true, Bool.and_eq_true] at hop
        rename_i y
        obtain ⟨h0, h1⟩ := hop
        split at h
        · rename_i f cap hf
          have hgx := S.reads.opd h0
          have hxe : x.ev st.env = .fn f cap := by
            revert hf
            cases x.ev st.env <;> simp [fnOf]
          rw [hxe] at hgx
          have hrep := hgx.rep
          have hids := hgx.ids
          obtain ⟨q1, q2⟩ := args_sound S h1
          revert hrep
          generalize hy : a.eval y = z
          intro hrep
          cases hrep with
          | @fn _ _ xs hcn hl hr =>
            refine hcall f _ (cargs.map a.eval ++ xs) own (by simp only [Array.size_append, List.length_append, q1, hl]) (fun j hj hj' => ?_) h (by simp [execOp, ho, resolve, Deferred.ofValue, invoke, hy])
            by_cases e : j < (args.map (Opd.ev st.env)).length
            · rw [List.getElem_append_left e, Array.getElem_append_left (by rw [q1]; exact e)]
              exact q2 j e _
            · have e2 : (args.map (Opd.ev st.env)).length ≤ j := by omega
              rw [List.getElem_append_right e2, Array.getElem_append_right (by rw [q1]; exact e2)]
              have hjc : j - (args.map (Opd.ev st.env)).length < cap.length := by simp at hj e2 ⊢; omega
              simp only [q1]
              have hcap := hr (j - (args.map (Opd.ev st.env)).length) hjc
              exact ⟨hcap, noHnd_hnd (List.all_eq_true.1 hcn _ (List.getElem_mem hjc)) _, idsL_get (by simpa [VV.ids] using hids) _ hjc⟩
        · split at h
          · rename_i oy hy
            have hgx := S.reads.opd h0
            have hxe : x.ev st.env = .yld oy := by
              revert hy
              cases x.ev st.env <;> simp [yldOf]
            rw [hxe] at hgx
            have hrep := hgx.rep
            obtain ⟨q1, q2⟩ := args_sound S h1
            obtain ⟨hnt, hyc⟩ := h
            rw [List.all_eq_true] at hnt
            revert hrep
            generalize hyv : a.eval y = z
            intro hrep
            cases hrep with
            | @yld _ l htb =>
              obtain ⟨f, tmps, assign, body, hrun, hround⟩ := hyc B w0 g w l (cargs.map a.eval) hcm S.H htb (by simpa using q1) fun j hj hj' => by
                have hj2 : j < (args.map (Opd.ev st.env)).length := by simpa using hj
                have := (q2 j hj2 hj').strip (hnt _ (List.getElem_mem hj2))
                simp only [List.getElem_map] at this ⊢
                exact this
              have hex : (execOp a.eval o).run P w = .ok (.round l f tmps assign body) w := by
                simp [execOp, ho, resolve, Deferred.ofValue, invoke, hyv, hrun]
              rw [hex]
              refine ⟨fun h => by simp [Wd, Fence.wide] at h, ?_⟩
              refine RoundIn.mono (F := Wd ro) hround ?_
              rintro e w' ⟨x, g', r, ob', rfl, hk, H', hg', hp⟩
              have e : a.put o.dst x = a.put i.dst x := by rw [hdst]
              show next (a.put o.dst x) w'
              rw [e]
              exact hn _ _ _ _ hk (S.put hdn' H' hg' hp)
          · exact h.elim
    · rename_i neg x hi
      rcases hop with hop | hop
      · rw [hi, mOp_isnil] at hop; cases hop
      · rw [hi] at hop
        obtain ⟨t, y, ty, hoo, hxy, ht⟩ := mCall_isnil hop
        have hgx := S.reads.opd hxy
        have hex : execOp a.eval o = (do pure (.value (← (do eqGuard (if neg then .neq else .eql) t y (.const (.slice none 0 0)) (a.eval y) (.slice none 0 0); binOp (if neg then .neq else .eql) t (a.eval y) (.slice none 0 0))))) := by simp [execOp, hoo, Act.eval]
        have key : ∀ (ad : Option Addr) (n c : Nat) (b : Bool), a.eval y = .slice ad n c → (ad.isNone != neg) = b → K { st with env := putD st.env i.dst (.bool b) } → o.uponIn (Wd ro) 0 P a next Q ((execOp a.eval o).run P w) := by
          intro ad n c b hv hb hk
          have hr : (execOp a.eval o).run P w = .ok (.value (.bool b)) w := by
            rw [hex, hv, ← hb]
            simp only [Sem.run_bind, run_isnil ht, Result.andThen_ok, Sem.run_pure]
          rw [hr]
          have e : ∀ x, a.put o.dst x = a.put i.dst x := fun x => by rw [hdst]
          show next (a.put o.dst _) w
          rw [e]
          exact hn _ _ _ _ hk (S.put (ob' := st.ob) hdn' S.H GV.bool (Pres.refl _ _ _ _))
        split at h
        · rename_i e0 r t0 hxe
          rw [hxe] at hgx
          have hrep := hgx.rep
          revert hrep
          generalize hyv : a.eval y = z
          intro hrep
          cases hrep with
          | sl vals hne hcap hsz hc hh hr hF => exact key _ _ _ neg hyv (by cases neg <;> rfl) h
        · rename_i t0 hxe
          rw [hxe] at hgx
          have hrep := hgx.rep
          revert hrep
          generalize hyv : a.eval y = z
          intro hrep
          cases hrep with
          | slE => exact key _ _ _ _ hyv rfl (h _)
          | sl vals hne hcap hsz hc hh hr hF => exact absurd rfl hne
        · rename_i hxe
          rw [hxe] at hgx
          have hrep := hgx.rep
          revert hrep
          generalize hyv : a.eval y = z
          intro hrep
          cases hrep with
          | nils => exact key _ _ _ _ hyv rfl (h _)
        · exact h.elim
    · rename_i x hi
      rcases hop with hop | hop
      · rw [hi, mOp_next] at hop; cases hop
      · rw [hi] at hop
        obtain ⟨y, hoo, hxy⟩ := mCall_next hop
        have hex : execOp a.eval o = (do pure (.value (← Instr.next (a.eval y) false o.type))) := by simp [execOp, hoo]
        have hgx := S.reads.opd hxy
        split at h
        · rename_i oi hxe
          rw [hxe] at hgx
          split at h
          · rename_i m left cur hoi
            have e : ∀ x, a.put o.dst x = a.put i.dst x := fun x => by rw [hdst]
            rcases next_sound (P := P) S.H hoi hgx o.type with ⟨hl, hrun⟩ | ⟨p, hp, x, w', hrun, H', hp', hg'⟩
            · have hr : (execOp a.eval o).run P w = .ok (.value (.tuple #[.bool false])) w := by rw [hex]; simp [hrun]
              rw [hr]
              show next (a.put o.dst _) w
              rw [e]
              exact hn _ _ _ _ (h.1 hl) (S.put (ob' := st.ob) hdn' S.H ⟨.tup rfl (by simp [VV.noTup]) (fun j hj => by
                match j, hj with
                | 0, _ => exact .bool _), fun j v y hv hy => by
                match j, hv, hy with
                | 0, hv, hy => simp at hv hy; subst hv hy; exact ⟨trivial, fun ds ys e1 => by cases e1⟩
                | j + 1, hv, _ => simp at hv, by simp [VV.ids, idsL]⟩ (Pres.refl _ _ _ _))
            · have hr : (execOp a.eval o).run P w = .ok (.value x) w' := by rw [hex]; simp [hrun]
              rw [hr]
              show next (a.put o.dst _) w'
              rw [e]
              exact hn _ _ _ _ (h.2 p hp) (S.put hdn' H' hg' hp')
          · exact h.elim
        · exact h.elim
    · rename_i hno0 hno1 hno2 hno4 hno3
      split at h
      · rename_i v ob' hev
        have hmo : mOp P i.op o.op = true := by
          rcases hop with q | q
          · exact q
          · exfalso
            unfold mCall at q
            split at q
            · exact hno1 _ _ _ (by assumption)
            · exact hno0 _ _ _ (by assumption)
            · exact hno2 _ _ _ (by assumption)
            · exact hno3 _ (by assumption)
            · exact hno4 _ _ (by assumption)
            · cases q
        obtain ⟨x, g', w', hok, H', hg', hp⟩ := op_sound S.H S.reads hmo o rfl hev
        have hS := S.put hdn' H' hg' hp
        rcases hok with hrun | ⟨hrun, rfl⟩
        · rw [hrun]
          have e : a.put o.dst x = a.put i.dst x := by rw [hdst]
          show next (a.put o.dst x) w'
          rw [e]
          exact hn _ _ _ _ h hS
        · rw [hrun]
          have e : a.put o.dst Go.undef = a.put i.dst Go.undef := by rw [hdst]
          show next (a.put o.dst Go.undef) w'
          rw [e]
          exact hn _ _ _ _ h hS
      · exact h.elim

end
end Go.V
