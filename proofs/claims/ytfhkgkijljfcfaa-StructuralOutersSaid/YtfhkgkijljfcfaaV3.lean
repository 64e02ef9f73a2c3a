/- V, part 3: memory grows by a block, an object; the changes of memory that operations make, and that the invariant outlives them. -/
import Derived.Test.YtfhkgkijljfcfaaV2
set_option linter.unusedVariables false
set_option linter.unusedSimpArgs false
namespace Go.V
open Go.RowKit

theorem nthO_lt {ob : List Obj} {i : Nat} (h : i < ob.length) : nthO ob i = ob[i] := by simp [nthO, List.getD_eq_getElem?_getD, List.getElem?_eq_getElem h]
theorem nthO_ge {ob : List Obj} {i : Nat} (h : ob.length ≤ i) : nthO ob i = .gone := by simp [nthO, List.getD_eq_getElem?_getD, List.getElem?_eq_none h]
theorem nthO_app {ob : List Obj} {X : Obj} {i : Nat} (h : i < ob.length) : nthO (ob ++ [X]) i = nthO ob i := by
  simp [nthO, List.getD_eq_getElem?_getD, List.getElem?_append_left h]
theorem nthO_new (ob : List Obj) (X : Obj) : nthO (ob ++ [X]) ob.length = X := by simp [nthO]
theorem nthO_set (ob : List Obj) (X : Obj) (j i : Nat) : nthO (ob.set j X) i = if i = j ∧ j < ob.length then X else nthO ob i := by
  simp only [nthO, List.getD_eq_getElem?_getD, List.getElem?_set]
  by_cases h : j = i
  · subst h
    by_cases hl : j < ob.length <;> simp [hl]
  · have h' : ¬ i = j := fun e => h e.symm
    simp [h, h']
theorem nthO_ne_gone {ob : List Obj} {i : Nat} (h : nthO ob i ≠ .gone) : i < ob.length := by
  rcases Nat.lt_or_ge i ob.length with h' | h'
  · exact h'
  · exact absurd (nthO_ge h') h

def upd (f : Nat → Option Nat) (i : Nat) (b : Nat) : Nat → Option Nat := fun j => if j = i then some b else f j
def updF (f : Nat → Nat) (i : Nat) (b : Nat) : Nat → Nat := fun j => if j = i then b else f j
@[simp] theorem upd_same (f : Nat → Option Nat) (i b : Nat) : upd f i b i = some b := by simp [upd]
theorem upd_ne (f : Nat → Option Nat) {i j : Nat} (b : Nat) (h : j ≠ i) : upd f i b j = f j := by simp [upd, h]
@[simp] theorem updF_same (f : Nat → Nat) (i b : Nat) : updF f i b i = b := by simp [updF]
theorem updF_ne (f : Nat → Nat) {i j : Nat} (b : Nat) (h : j ≠ i) : updF f i b j = f j := by simp [updF, h]

theorem heap_alloc_lt (w : World) (o : _root_.Go.Obj) {k : Nat} (h : k < w.heap.size) : (w.alloc o).heap[k]? = w.heap[k]? := Below.heap_alloc w o k h
theorem heap_alloc_at (w : World) (o : _root_.Go.Obj) : (w.alloc o).heap[w.heap.size]? = some o := by show (w.heap.push o)[w.heap.size]? = some o; simp
theorem lt_of_heap {w : World} {b : Nat} {o : _root_.Go.Obj} (h : w.heap[b]? = some o) : b < w.heap.size := (Array.getElem?_eq_some_iff.1 h).1

section
variable {B : Nat} {w0 : W0} {ob : List Obj} {g : Gh} {w : World}

theorem HInv.F_pos (H : HInv B w0 ob g w) {b o : Nat} (h : o < g.F b) : b < w.heap.size := by
  rcases Nat.lt_or_ge b w.heap.size with h' | h'
  · exact h'
  · rw [H.fz b h'] at h; omega
theorem HInv.tb_none (H : HInv B w0 ob g w) {i : Nat} (h : ob.length ≤ i) : g.tb i = none := by
  cases e : g.tb i with
  | none => rfl
  | some b => have := (H.tbl i b e).1; omega
theorem HInv.kb_none (H : HInv B w0 ob g w) {i : Nat} (h : ob.length ≤ i) : g.kb i = none := by
  cases e : g.kb i with
  | none => rfl
  | some b => have := (H.kbl i b e).1; omega
theorem HInv.get (H : HInv B w0 ob g w) {i : Nat} {X : Obj} (h : nthO ob i = X) (hX : X ≠ .gone) : i < ob.length ∧ ObR B ob g w i X := by
  have hi := nthO_ne_gone (h ▸ hX)
  refine ⟨hi, ?_⟩
  have := H.obs i hi
  rwa [← nthO_lt hi, h] at this

/-- An object's data outlives what keeps its block. -/
theorem ObR.keep {ob' : List Obj} {g' : Gh} {w' : World} {i : Nat} {X : Obj} (h : ObR B ob g w i X) (hp : Pres B ob g w ob' g' w')
    (hr : ∀ v x, v.canon = true → Rep w g.F g.tb v x → Rep w' g'.F g'.tb v x)
    (hb : ∀ b, g.tb i = some b → g'.tb i = some b ∧ g'.F b = g.F b ∧ w'.heap[b]? = w.heap[b]?) (hn : g.tb i = none → g'.tb i = none) (hcm : g'.cm = g.cm := by rfl) : ObR B ob' g' w' i X := by
  cases X with
  | cells cs =>
    obtain ⟨b, arr, ty, h1, h2, h3, h4, hl, h5⟩ := h
    obtain ⟨k1, k2, k3⟩ := hb b h1
    exact ⟨b, arr, ty, k1, h2, k2.trans h3, k3.trans h4, hl, fun j hj => ⟨(h5 j hj).1, hp _ _ (h5 j hj).2⟩⟩
  | map es =>
    obtain ⟨b, arr, ty, h1, h2, h3, h4, hl, h5⟩ := h
    obtain ⟨k1, k2, k3⟩ := hb b h1
    exact ⟨b, arr, ty, k1, h2, k2.trans h3, k3.trans h4, hl, fun j hj => ⟨(h5 j hj).1, (h5 j hj).2.1, hr _ _ (h5 j hj).1 (h5 j hj).2.2.1, hr _ _ (h5 j hj).2.1 (h5 j hj).2.2.2⟩⟩
  | siter s pos =>
    obtain ⟨b, bs, h1, h2, h3, h4, h5⟩ := h
    obtain ⟨k1, k2, k3⟩ := hb b h1
    exact ⟨b, bs, k1, h2, k2.trans h3, k3.trans h4, h5⟩
  | tok n sz => exact ⟨h.1, hn h.2⟩
  | loop nt env ps a b' st pend =>
    obtain ⟨b, r, h1, h2, h3, h4, h5, h6, h7, h8, h9, h10⟩ := h
    obtain ⟨k1, k2, k3⟩ := hb b h1
    exact ⟨b, r, k1, h2, k2.trans h3, k3.trans h4, h5, fun s => hp _ _ (h6 s), h7, by rw [hcm]; exact h8, by rw [hcm]; exact h9, h10⟩
  | dfr =>
    obtain ⟨b, h1, h2, h3, h4⟩ := h
    obtain ⟨k1, k2, k3⟩ := hb b h1
    exact ⟨b, k1, h2, k2.trans h3, k3.trans h4⟩
  | gone => trivial

theorem canon_ids {v : VV} (n : Nat) (h : v.canon = true) : v.ids n = true := by
  cases v with
  | agg cs =>
    simp only [VV.canon, List.all_eq_true] at h
    simp only [VV.ids]
    exact idsL_of fun u hu => canon0_ids n (h u hu)
  | _ => exact canon0_ids n h

theorem rep_keep {w w' : World} {F F' : Nat → Nat} {tb tb' : Nat → Option Nat}
    (hw : ∀ b o, o < F b → w'.cell? ⟨b, o, none⟩ = w.cell? ⟨b, o, none⟩) (hF : ∀ b, F b ≤ F' b) : ∀ v x, v.canon = true → Rep w F tb v x → Rep w' F' tb' v x :=
  fun v x hc h => h.mono (n := 0) hw hF (fun i b hi => absurd hi (by omega)) (canon_ids 0 hc)

/-! ### A block is laid that is nobody's object, and F tells how much of it is data -/
theorem Pres.alloc (H : HInv B w0 ob g w) (o : _root_.Go.Obj) (d : Nat) : Pres B ob g w ob { g with F := updF g.F w.heap.size d } (w.alloc o) := by
  refine Pres.of (Nat.le_refl _) (fun b o' h => World.cell?_alloc_lt w o _ (H.F_pos h)) (fun b => ?_) (fun _ _ _ h => h) (fun t n sz h => ⟨n, h, Nat.le_refl _, fun _ x hc => ?_⟩)
  · by_cases e : b = w.heap.size
    · subst e; rw [H.fz _ (Nat.le_refl _)]; exact Nat.zero_le _
    · simp [updF_ne _ _ e]
  · rcases hc with ⟨a, rfl, rfl⟩ | ⟨b, o1, cap, arr, ty, h1, rfl, h3, h4, h5, h6, h7⟩
    · exact .inl ⟨a, rfl, rfl⟩
    · have hb := lt_of_heap h4
      exact .inr ⟨b, o1, cap, arr, ty, h1, rfl, h3, (heap_alloc_lt w o hb).trans h4, h5, by show updF _ _ _ _ = _; rw [updF_ne _ _ (by omega)]; exact h6, h7⟩

theorem HInv.alloc (H : HInv B w0 ob g w) (o : _root_.Go.Obj) (d : Nat) : HInv B w0 ob { g with F := updF g.F w.heap.size d } (w.alloc o) where
  below := H.below.alloc H.hB o
  hB := by have := H.hB; simp; omega
  fz := fun b hb => by simp at hb; show updF _ _ _ _ = _; rw [updF_ne _ _ (by omega)]; exact H.fz b (by omega)
  f0 := fun b hb => by have := H.hB; show updF _ _ _ _ = _; rw [updF_ne _ _ (by omega)]; exact H.f0 b hb
  c0 := H.c0
  tbl := fun i b h => by have := H.tbl i b h; exact ⟨this.1, by simp; omega⟩
  kbl := fun i b h => by have := H.kbl i b h; exact ⟨this.1, by simp; omega⟩
  inj := H.inj
  injk := H.injk
  apart := H.apart
  obs := fun i hi => (H.obs i hi).keep (Pres.alloc H o d) (rep_keep (fun b o' h => World.cell?_alloc_lt w o _ (H.F_pos h)) fun b => by
      by_cases e : b = w.heap.size
      · subst e; rw [H.fz _ (Nat.le_refl _)]; exact Nat.zero_le _
      · simp [updF_ne _ _ e])
    (fun b hb => by
      have := (H.tbl i b hb).2
      exact ⟨hb, updF_ne _ _ (by omega), heap_alloc_lt w o this⟩) (fun h => h)

theorem updF_zero (H : HInv B w0 ob g w) : updF g.F w.heap.size 0 = g.F := by
  funext b
  by_cases e : b = w.heap.size
  · subst e; simp [H.fz]
  · exact updF_ne _ _ e

theorem Pres.alloc0 (H : HInv B w0 ob g w) (o : _root_.Go.Obj) : Pres B ob g w ob g (w.alloc o) := by
  have := Pres.alloc H o 0
  rw [updF_zero H] at this
  exact this
theorem HInv.alloc0 (H : HInv B w0 ob g w) (o : _root_.Go.Obj) : HInv B w0 ob g (w.alloc o) := by
  have := HInv.alloc H o 0
  rw [updF_zero H] at this
  exact this

/-! ### A draw -/
theorem Pres.drew (H : HInv B w0 ob g w) : Pres B ob g w ob g w.drew :=
  Pres.of (Nat.le_refl _) (fun _ _ _ => rfl) (fun _ => Nat.le_refl _) (fun _ _ _ h => h) (fun _ n _ h => ⟨n, h, Nat.le_refl _, fun _ _ hc => hc⟩)
theorem HInv.drew (H : HInv B w0 ob g w) : HInv B w0 ob g w.drew where
  below := H.below.drew
  hB := H.hB
  fz := H.fz
  f0 := H.f0
  c0 := H.c0
  tbl := H.tbl
  kbl := H.kbl
  inj := H.inj
  injk := H.injk
  apart := H.apart
  obs := fun i hi => (H.obs i hi).keep (Pres.drew H) (rep_keep (fun _ _ _ => rfl) fun _ => Nat.le_refl _) (fun _ hb => ⟨hb, rfl, rfl⟩) (fun h => h)

/-! ### An object more -/
theorem Pres.push (H : HInv B w0 ob g w) (X : Obj) {b : Nat} (hn : ∀ n sz, X ≠ .tok n sz) : Pres B ob g w (ob ++ [X]) { g with tb := upd g.tb ob.length b } w := by
  refine Pres.of (by simp) (fun _ _ _ => rfl) (fun _ => Nat.le_refl _) (fun i b' hi h => ?_) (fun t n sz h => ⟨n, ?_, Nat.le_refl _, fun _ x hc => hc⟩)
  · show upd g.tb ob.length b i = some b'
    rw [upd_ne _ _ (by omega)]; exact h
  · rw [nthO_app (nthO_ne_gone (by rw [h]; simp))]; exact h

/-- A new block that is an object. -/
theorem HInv.push (H : HInv B w0 ob g w) (o : _root_.Go.Obj) (X : Obj) (hn : ∀ n sz, X ≠ .tok n sz)
    (hX : ObR B (ob ++ [X]) { g with tb := upd g.tb ob.length w.heap.size } (w.alloc o) ob.length X) :
    HInv B w0 (ob ++ [X]) { g with tb := upd g.tb ob.length w.heap.size } (w.alloc o) ∧ Pres B ob g w (ob ++ [X]) { g with tb := upd g.tb ob.length w.heap.size } (w.alloc o) := by
  have H1 := H.alloc0 o
  have hp : Pres B ob g (w.alloc o) (ob ++ [X]) { g with tb := upd g.tb ob.length w.heap.size } (w.alloc o) := Pres.push H1 X hn
  refine ⟨?_, (Pres.alloc0 H o).trans hp⟩
  have htb : ∀ i b, upd g.tb ob.length w.heap.size i = some b → (i = ob.length ∧ b = w.heap.size) ∨ (i ≠ ob.length ∧ g.tb i = some b) := fun i b h => by
    by_cases e : i = ob.length
    · subst e; simp at h; exact .inl ⟨rfl, h.symm⟩
    · rw [upd_ne _ _ e] at h; exact .inr ⟨e, h⟩
  refine ⟨H1.below, H1.hB, H1.fz, H1.f0, H1.c0, fun i b h => ?_, fun i b h => ?_, fun i j b h h' => ?_, H1.injk, fun i j b h h' => ?_, fun i hi => ?_⟩
  · rcases htb i b h with ⟨rfl, rfl⟩ | ⟨_, h⟩
    · simp
    · have := H.tbl i b h; simp; omega
  · have := H.kbl i b h; simp; omega
  · rcases htb i b h with ⟨rfl, rfl⟩ | ⟨_, h⟩ <;> rcases htb j _ h' with ⟨rfl, e⟩ | ⟨_, h'⟩
    · rfl
    · have := (H.tbl _ _ h').2; omega
    · subst e; have := (H.tbl _ _ h).2; omega
    · exact H.inj _ _ _ h h'
  · rcases htb i b h with ⟨rfl, rfl⟩ | ⟨_, h⟩
    · have := (H.kbl _ _ h').2; omega
    · exact H.apart _ _ _ h h'
  · by_cases e : i = ob.length
    · subst e; simpa using hX
    · have hi' : i < ob.length := by simp at hi; omega
      have hold := H1.obs i hi'
      rw [List.getElem_append_left hi']
      exact hold.keep hp (rep_keep (fun _ _ _ => rfl) fun _ => Nat.le_refl _) (fun b hb => ⟨by show upd g.tb ob.length _ i = _; rw [upd_ne _ _ e]; exact hb, rfl, rfl⟩)
        (fun h => by show upd g.tb ob.length _ i = _; rw [upd_ne _ _ e]; exact h)

end
end Go.V
