/- V, part 11: slices that are made and grow. -/
import Derived.Test.YtfhkgkijljfcfaaV10
import Derived.Deep.AppendSrc
set_option linter.unusedVariables false
set_option linter.unusedSimpArgs false
namespace Go.V
open Go.RowKit

/-- The cells of a list of elements, one after the other. -/
def FlatR (w : World) (F : Nat → Nat) (tb : Nat → Option Nat) (sz : Nat) (es : List VV) (xs : List Value) : Prop :=
  xs.length = es.length * sz ∧ ∀ i (h : i < es.length), es[i].canon = true ∧ es[i].cells.length = sz ∧ ∀ j (hj : j < es[i].cells.length), ∃ z, xs[i * sz + j]? = some z ∧ Rep w F tb es[i].cells[j] z

theorem mul_lt {i n sz j : Nat} (hi : i < n) (hj : j < sz) : i * sz + j < n * sz := by
  have : (i + 1) * sz ≤ n * sz := Nat.mul_le_mul_right _ hi
  rw [Nat.add_mul, Nat.one_mul] at this
  omega

theorem FlatR.keep {w w' : World} {F F' : Nat → Nat} {tb tb' : Nat → Option Nat} {sz : Nat} {es : List VV} {xs : List Value} (h : FlatR w F tb sz es xs)
    (hw : ∀ b o, o < F b → w'.cell? ⟨b, o, none⟩ = w.cell? ⟨b, o, none⟩) (hF : ∀ b, F b ≤ F' b) : FlatR w' F' tb' sz es xs :=
  ⟨h.1, fun i hi => ⟨(h.2 i hi).1, (h.2 i hi).2.1, fun j hj => by
    obtain ⟨z, hz, hr⟩ := (h.2 i hi).2.2 j hj
    exact ⟨z, hz, hr.mono (n := 0) hw hF (fun _ _ hlt => absurd hlt (by omega)) (canon0_ids 0 (List.all_eq_true.1 (canon_cells (h.2 i hi).1) _ (List.getElem_mem hj)))⟩⟩⟩

theorem FlatR.append {w : World} {F : Nat → Nat} {tb : Nat → Option Nat} {sz : Nat} {es ys : List VV} {xs zs : List Value} (h : FlatR w F tb sz es xs) (k : FlatR w F tb sz ys zs) : FlatR w F tb sz (es ++ ys) (xs ++ zs) := by
  refine ⟨by rw [List.length_append, List.length_append, h.1, k.1, Nat.add_mul], fun i hi => ?_⟩
  by_cases hlt : i < es.length
  · rw [List.getElem_append_left hlt]
    refine ⟨(h.2 i hlt).1, (h.2 i hlt).2.1, fun j hj => ?_⟩
    obtain ⟨z, hz, hr⟩ := (h.2 i hlt).2.2 j hj
    have := mul_lt hlt (by have := (h.2 i hlt).2.1; omega : j < sz)
    exact ⟨z, by rw [List.getElem?_append_left (by rw [h.1]; exact this)]; exact hz, hr⟩
  · have hi' : i - es.length < ys.length := by simp at hi; omega
    rw [List.getElem_append_right (by omega)]
    refine ⟨(k.2 _ hi').1, (k.2 _ hi').2.1, fun j hj => ?_⟩
    obtain ⟨z, hz, hr⟩ := (k.2 _ hi').2.2 j hj
    refine ⟨z, ?_, hr⟩
    have e : i * sz = es.length * sz + (i - es.length) * sz := by rw [← Nat.add_mul]; congr 1; omega
    rw [List.getElem?_append_right (by rw [h.1]; omega), h.1]
    rw [show i * sz + j - es.length * sz = (i - es.length) * sz + j by omega]
    exact hz

theorem FlatR.nil {w : World} {F : Nat → Nat} {tb : Nat → Option Nat} {sz : Nat} : FlatR w F tb sz [] [] := ⟨by simp, fun i hi => absurd hi (by simp)⟩

theorem FlatR.one {w : World} {F : Nat → Nat} {tb : Nat → Option Nat} {sz : Nat} {es : List VV} {xs : List Value} (h : FlatR w F tb sz es xs) : ∀ u ∈ xs, u.oneCell' = true := by
  intro u hu
  obtain ⟨k, hk, rfl⟩ := List.getElem_of_mem hu
  rcases Nat.eq_zero_or_pos sz with h0 | h0
  · have := h.1; rw [h0] at this; omega
  · have hi : k / sz < es.length := by rw [Nat.div_lt_iff_lt_mul h0, ← h.1]; exact hk
    have hj : k % sz < es[k / sz].cells.length := by rw [(h.2 _ hi).2.1]; exact Nat.mod_lt _ h0
    obtain ⟨z, hz, hr⟩ := (h.2 _ hi).2.2 _ hj
    rw [Nat.mul_comm, Nat.div_add_mod] at hz
    rw [List.getElem?_eq_getElem hk] at hz
    cases hz
    have hc := canon0_isCell (List.all_eq_true.1 (canon_cells (h.2 _ hi).1) _ (List.getElem_mem hj))
    revert hc hr
    generalize es[k / sz].cells[k % sz] = v
    generalize xs[k] = x
    intro hr hc
    cases hr <;> first | rfl | (simp [VV.isCell] at hc)

/-- A row of memory that holds a list's cells is a slice of them. -/
theorem FlatR.rep {w w' : World} {F F' : Nat → Nat} {tb tb' : Nat → Option Nat} {sz : Nat} {es : List VV} {xs : List Value} (h : FlatR w F tb sz es xs) (h0 : 0 < sz)
    (hw : ∀ b o, o < F b → w'.cell? ⟨b, o, none⟩ = w.cell? ⟨b, o, none⟩) (hF : ∀ b, F b ≤ F' b) {b o cap t : Nat} (hc : ∀ (k : Nat) z, xs[k]? = some z → w'.cell? ⟨b, o + k, none⟩ = some z) (hcap : es.length ≤ cap) (hb : o + es.length * sz ≤ F' b) :
    Rep w' F' tb' (.sl es t) (.slice (some ⟨b, o, none⟩) es.length cap) := by
  by_cases he : es = []
  · subst he; exact .slE
  · have hk := h.keep (tb' := tb') hw hF
    refine .sl (sz := sz) (fun i j => xs.getD (i * sz + j) undef) he hcap h0 (fun i hi => ⟨(h.2 i hi).1, (h.2 i hi).2.1⟩) (fun i hi j hj => ?_) (fun i hi j hj => ?_) hb
    · obtain ⟨z, hz, _⟩ := (hk.2 i hi).2.2 j hj
      rw [List.getD_eq_getElem?_getD, hz, Nat.add_assoc]
      exact hc _ _ hz
    · obtain ⟨z, hz, hr⟩ := (hk.2 i hi).2.2 j hj
      rw [List.getD_eq_getElem?_getD, hz]
      exact hr

section
variable {P : Program} {B : Nat} {w0 : W0} {ob : List Obj} {g : Gh} {w : World} {env : List (Nat × VV)} {ρ : Operand → Value}

/-- A slice is read cell by cell. -/
theorem GV.src {es : List VV} {t sz : Nat} {x : Value} {tx : TypeId} (h : GV B ob g w (.sl es t) x) (h0 : 0 < sz) (hs : hdSz es sz = true) (hu : ∃ e, P.underlying tx = some (.slice e)) :
    ∃ xs, Src P sz tx x es.length xs w ∧ FlatR w g.F g.tb sz es xs := by
  obtain ⟨e, hu⟩ := hu
  have hr := h.rep
  cases hr with
  | @slE _ a cap =>
    refine ⟨[], ?_, FlatR.nil⟩
    cases a with
    | none => exact Src.ofNil w hu cap
    | some a => exact Src.ofSlice w hu a 0 cap [] (by simp) (fun j u h => by simp at h) (fun u h => by simp at h)
  | @sl _ _ b o cap sz' vals hne hcap hsz hc hcell hr hF =>
    have hs' : sz' = sz := by
      cases es with
      | nil => exact absurd rfl hne
      | cons e r =>
        simp only [hdSz, beq_iff_eq] at hs
        have := (hc 0 (by simp)).2
        simp at this
        omega
    subst hs'
    have hfl : FlatR w g.F g.tb sz' es ((List.range (es.length * sz')).map fun k => vals (k / sz') (k % sz')) := by
      refine ⟨by simp, fun i hi => ⟨(hc i hi).1, (hc i hi).2, fun j hj => ⟨vals i j, ?_, hr i hi j hj⟩⟩⟩
      have hj' : j < sz' := by have := (hc i hi).2; omega
      have hlt := mul_lt hi hj'
      have e1 : (i * sz' + j) / sz' = i := by rw [Nat.add_comm, Nat.add_mul_div_right _ _ hsz, Nat.div_eq_of_lt hj']; omega
      have e2 : (i * sz' + j) % sz' = j := by rw [Nat.add_comm, Nat.add_mul_mod_self_right, Nat.mod_eq_of_lt hj']
      simp [hlt, e1, e2]
    refine ⟨_, Src.ofSlice w hu _ _ _ _ (by simp) (fun k u hk => ?_) hfl.one, hfl⟩
    rw [List.getElem?_map] at hk
    simp only [Option.map_eq_some_iff] at hk
    obtain ⟨q, hq, rfl⟩ := hk
    obtain ⟨hkl, rfl⟩ := List.getElem?_eq_some_iff.1 hq
    simp only [List.length_range] at hkl
    simp only [List.getElem_range]
    have hi : k / sz' < es.length := by rw [Nat.div_lt_iff_lt_mul hsz]; exact hkl
    have := hcell (k / sz') hi (k % sz') (by rw [(hc _ hi).2]; exact Nat.mod_lt _ hsz)
    rw [add_at]
    have e3 : k / sz' * sz' + k % sz' = k := by rw [Nat.mul_comm]; exact Nat.div_add_mod k sz'
    rwa [Nat.add_assoc, e3] at this

theorem GV.src_nils {sz : Nat} {x : Value} {tx : TypeId} (h : GV B ob g w .nils x) (hu : ∃ e, P.underlying tx = some (.slice e)) : Src P sz tx x 0 [] w := by
  obtain ⟨e, hu⟩ := hu
  have hr := h.rep
  cases hr with
  | @nils a =>
    cases a with
    | none => exact Src.ofNil w hu 0
    | some a => exact Src.ofSlice w hu a 0 0 [] (by simp) (fun j u h => by simp at h) (fun u h => by simp at h)

/-- A token object more; its handle stands at the end of block b, or there is none. -/
theorem HInv.pushTok (H : HInv B w0 ob g w) {n sz : Nat} (h0 : 0 < sz) (kb : Option Nat) (hk : ∀ b, kb = some b → b < w.heap.size ∧ (∀ i, g.tb i ≠ some b) ∧ (∀ i, g.kb i ≠ some b)) :
    HInv B w0 (ob ++ [.tok n sz]) { g with kb := fun i => if i = ob.length then kb else g.kb i } w ∧ Pres B ob g w (ob ++ [.tok n sz]) { g with kb := fun i => if i = ob.length then kb else g.kb i } w := by
  have hp : Pres B ob g w (ob ++ [.tok n sz]) { g with kb := fun i => if i = ob.length then kb else g.kb i } w := by
    refine Pres.of (by simp) (fun _ _ _ => rfl) (fun _ => Nat.le_refl _) (fun i b hi h => h) (fun t m s h => ⟨m, ?_, Nat.le_refl _, fun _ x hc => ?_⟩)
    · rw [nthO_app (nthO_ne_gone (by rw [h]; simp))]; exact h
    · have ht := nthO_ne_gone (ob := ob) (i := t) (by rw [h]; simp)
      rcases hc with ⟨a, rfl, rfl⟩ | ⟨b1, o1, cap, arr1, ty1, q1, rfl, q3⟩
      · exact .inl ⟨a, rfl, rfl⟩
      · exact .inr ⟨b1, o1, cap, arr1, ty1, by show (if t = ob.length then kb else g.kb t) = _; rw [if_neg (by omega)]; exact q1, rfl, q3⟩
  refine ⟨⟨H.below, H.hB, H.fz, H.f0, H.c0, fun i b h => by have := H.tbl i b h; simp; omega, fun i b h => ?_, H.inj, fun i j b h h' => ?_, fun i j b h h' => ?_, fun i hi => ?_⟩, hp⟩
  · simp only at h
    split at h
    · have := hk b h; simp; omega
    · have := H.kbl i b h; simp; omega
  · simp only at h h'
    split at h <;> split at h'
    · omega
    · exact absurd h' ((hk b h).2.2 j)
    · exact absurd h ((hk b h').2.2 i)
    · exact H.injk _ _ _ h h'
  · simp only at h h'
    split at h'
    · exact (hk b h').2.1 i h
    · exact H.apart _ _ _ h h'
  · by_cases e : i = ob.length
    · subst e
      simp only [List.getElem_concat_length]
      exact ⟨h0, H.tb_none (Nat.le_refl _)⟩
    · have hi' : i < ob.length := by simp at hi; omega
      rw [List.getElem_append_left hi']
      exact (H.obs i hi').keep hp (rep_keep (fun _ _ _ => rfl) fun _ => Nat.le_refl _) (fun b hb => ⟨hb, rfl, rfl⟩) (fun h => h)

/-- A new block with a list's cells at its head, and a handle at their end. -/
theorem newRow_own (H : HInv B w0 ob g w) {sz : Nat} (h0 : 0 < sz) {es : List VV} {xs rest : List Value} (hfl : FlatR w g.F g.tb sz es xs) {cap : Nat} (hcap : es.length ≤ cap) (hrest : cap * sz ≤ xs.length + rest.length) (ty : TypeId) (hpos : 0 < es.length ∨ cap = 0) :
    ∃ g', HInv B w0 (ob ++ [.tok es.length sz]) g' (w.alloc (.cells (xs ++ rest).toArray ty)) ∧ Pres B ob g w (ob ++ [.tok es.length sz]) g' (w.alloc (.cells (xs ++ rest).toArray ty)) ∧
      GV B (ob ++ [.tok es.length sz]) g' (w.alloc (.cells (xs ++ rest).toArray ty)) (.sl es (ob.length + 2)) (.slice (some ⟨w.heap.size, 0, none⟩) es.length cap) := by
  have H1 := H.alloc (.cells (xs ++ rest).toArray ty) (es.length * sz)
  have p1 := Pres.alloc H (.cells (xs ++ rest).toArray ty) (es.length * sz)
  obtain ⟨H2, p2⟩ := H1.pushTok (n := es.length) h0 (some w.heap.size) (fun b hb => by
    cases hb
    exact ⟨by simp, fun i h => by have := (H.tbl i _ h).2; omega, fun i h => by have := (H.kbl i _ h).2; omega⟩)
  refine ⟨_, H2, p1.trans p2, ?_, ?_, ?_⟩
  · refine hfl.rep h0 (fun b o h => World.cell?_alloc_lt w _ _ (H.F_pos h)) (fun b => ?_) (fun k z hz => ?_) hcap ?_
    · by_cases e : b = w.heap.size
      · subst e; rw [H.fz _ (Nat.le_refl _)]; exact Nat.zero_le _
      · show g.F b ≤ updF _ _ _ _; rw [updF_ne _ _ e]; exact Nat.le_refl _
    · rw [Nat.zero_add, World.cell?_alloc_new]
      have hk := (List.getElem?_eq_some_iff.1 hz).1
      simp [List.getElem?_append_left hk, hz]
    · show 0 + es.length * sz ≤ updF g.F w.heap.size (es.length * sz) w.heap.size
      simp
  · refine Hnd.sl.2 ⟨es.length, sz, nthO_new _ _, h0, Nat.le_refl _, fun _ => ?_, fun i hi => (hfl.2 i hi).2.1⟩
    by_cases hz : 0 < es.length
    · refine .inr ⟨w.heap.size, 0, cap, (xs ++ rest).toArray, ty, by simp, rfl, hcap, heap_alloc_at _ _, ?_, ?_, H.hB, hz⟩
      · simp; exact hrest
      · show updF g.F w.heap.size (es.length * sz) w.heap.size = _; simp
    · have hc0 := hpos.resolve_left hz
      have he0 : es.length = 0 := by omega
      exact .inl ⟨_, by rw [hc0, he0], he0⟩
  · simp [VV.ids]


theorem setRow_cell_ne {w : World} {b b' o : Nat} {arr : Array Value} (h : b' ≠ b) : (w.setRow b arr).cell? ⟨b', o, none⟩ = w.cell? ⟨b', o, none⟩ := by
  simp only [World.cell?, setRow_other w b b' arr h]

def appIs (P : Program) (t tx : TypeId) (sz bytes : Nat) : Bool :=
  match P.underlying t, P.underlying tx with
  | some (.slice e), some (.slice _) => match P.info? e with
    | some i => i.size == sz && i.bytes == bytes && 0 < sz && 0 < bytes && (match i.zero with | some z => z.cells.size == sz | none => false)
    | none => false
  | _, _ => false

/-- The same block, its handle further on. -/
theorem HInv.grow (H : HInv B w0 ob g w) {t n k sz b o : Nat} {arr arr' : Array Value} {ty : TypeId} (ht : nthO ob t = .tok n sz) (hkb : g.kb t = some b) (hb : w.heap[b]? = some (.cells arr ty (0, 0))) (hB : B ≤ b) (hF : g.F b = o + n * sz)
    (hsz : arr'.size = arr.size) (hold : ∀ j, j < o + n * sz → arr'[j]? = arr[j]?) (h0 : 0 < sz) :
    HInv B w0 (ob.set t (.tok (n + k) sz)) { g with F := updF g.F b (o + (n + k) * sz) } (w.setRow b arr') ∧ Pres B ob g w (ob.set t (.tok (n + k) sz)) { g with F := updF g.F b (o + (n + k) * sz) } (w.setRow b arr') := by
  have htl := nthO_ne_gone (ob := ob) (i := t) (by rw [ht]; simp)
  have hblt := lt_of_heap hb
  have hw : ∀ b' o', o' < g.F b' → (w.setRow b arr').cell? ⟨b', o', none⟩ = w.cell? ⟨b', o', none⟩ := fun b' o' h => by
    by_cases e : b' = b
    · subst e
      simp only [World.cell?, setRow_heap' hb, hb]
      simp only [Option.isSome_none, Bool.false_eq_true, if_false]
      exact hold o' (by omega)
    · exact setRow_cell_ne e
  have hmono : n * sz ≤ (n + k) * sz := Nat.mul_le_mul_right _ (by omega)
  have hFm : ∀ b', g.F b' ≤ updF g.F b (o + (n + k) * sz) b' := fun b' => by
    by_cases e : b' = b
    · subst e; rw [updF_same]; omega
    · rw [updF_ne _ _ e]; exact Nat.le_refl _
  have hp : Pres B ob g w (ob.set t (.tok (n + k) sz)) { g with F := updF g.F b (o + (n + k) * sz) } (w.setRow b arr') := by
    refine Pres.of (by simp) hw hFm (fun _ _ _ h => h) fun t' m s h => ?_
    by_cases e : t' = t
    · subst e
      rw [ht] at h; cases h
      refine ⟨n + k, by rw [nthO_set, if_pos ⟨rfl, htl⟩], by omega, fun hk x hc => ?_⟩
      obtain rfl : k = 0 := by omega
      rcases hc with ⟨a, rfl, rfl⟩ | ⟨b1, o1, cap, arr1, ty1, q1, rfl, q3, q4, q5, q6, q7⟩
      · exact .inl ⟨a, rfl, rfl⟩
      · rw [hkb] at q1; cases q1
        rw [hb] at q4; cases q4
        exact .inr ⟨b, o1, cap, arr', ty, hkb, rfl, q3, setRow_heap' hb, by omega, by show updF _ _ _ _ = _; rw [updF_same]; simp only [Nat.add_zero]; omega, q7⟩
    · refine ⟨m, by rw [nthO_set, if_neg (fun q => e q.1)]; exact h, Nat.le_refl _, fun _ x hc => ?_⟩
      rcases hc with ⟨a, rfl, rfl⟩ | ⟨b1, o1, cap, arr1, ty1, q1, rfl, q3, q4, q5, q6, q7⟩
      · exact .inl ⟨a, rfl, rfl⟩
      · have hne : b1 ≠ b := fun q => e (H.injk _ _ _ q1 (q ▸ hkb))
        exact .inr ⟨b1, o1, cap, arr1, ty1, q1, rfl, q3, by rw [setRow_other w b b1 arr' hne]; exact q4, q5, by show updF _ _ _ _ = _; rw [updF_ne _ _ hne]; exact q6, q7⟩
  refine ⟨⟨?_, by rw [setRow_size]; exact H.hB, fun b1 hb1 => ?_, fun b1 hb1 => ?_, H.c0, fun i b1 h => by simpa using H.tbl i b1 h, fun i b1 h => by simpa using H.kbl i b1 h, H.inj, H.injk, H.apart, fun i hi => ?_⟩, hp⟩
  · exact H.below.trans ⟨rfl, rfl, rfl, by rw [setRow_size]; exact Nat.le_refl _, fun q hq => setRow_other w b q arr' (by omega)⟩
  · rw [setRow_size] at hb1
    show updF _ _ _ _ = _
    rw [updF_ne _ _ (by omega)]; exact H.fz b1 hb1
  · show updF _ _ _ _ = _
    rw [updF_ne _ _ (by omega)]; exact H.f0 b1 hb1
  · have hi' : i < ob.length := by simpa using hi
    by_cases e : i = t
    · subst e
      simp only [List.getElem_set_self]
      have := H.obs i hi'
      rw [← nthO_lt hi', ht] at this
      exact ⟨h0, this.2⟩
    · rw [List.getElem_set_ne (fun q => e q.symm)]
      refine (H.obs i hi').keep hp (rep_keep hw hFm) (fun b1 hb1 => ?_) (fun h => h)
      have hne : b1 ≠ b := fun q => H.apart _ _ _ hb1 (q ▸ hkb)
      exact ⟨hb1, by show updF _ _ _ _ = _; rw [updF_ne _ _ hne], setRow_other w b b1 arr' hne⟩

end
end Go.V
