/- V, bridges: sort.Slice on a row of groups of scalars, its comparison bound to a pointer to the boxed slice. Conditions: as the theorem says (2 to 12 elements). -/
import Derived.Shelf.GgSortFunc.InsertionK
import Derived.Test.YtglabjcjfjlkoaaGreatDoorSA2
set_option linter.unusedVariables false
set_option linter.unusedSimpArgs false
namespace Go.V
open Go.RowKit Go.Sort Go.Proofs

section
variable {P : Program} {B : Nat} {w0 : W0} {ob : List Obj} {g : Gh} {w : World} {α : Type} [Inhabited α]
/-- what the comparison reads, wherever the row stands -/
def LessK (P : Program) (c : Nat) (eV : α → List VV) (k : Nat) (lt : α → α → Bool) : Prop :=
  ∀ (W : World) (b bo cap n : Nat) (D : Nat → α), W.cell? ⟨bo, 0, none⟩ = some (.slice (some ⟨b, 0, none⟩) n cap) → (∀ t, t < n → ∀ u, u < k → W.cell? ⟨b, t * k + u, none⟩ = some (eRv eV (D t))[u]!) →
    ∀ i j : Nat, i < n → j < n → Calls P c #[.int .i64 i, .int .i64 j, .pointer (some ⟨bo, 0, none⟩)] W fun e w' => e = .returned (.bool (lt (D i) (D j))) ∧ ∃ q, w' = W.drewN q
/-- the contract that the shelf gives -/
def SlicesK (P : Program) (f c T : Nat) (eV : α → List VV) (k : Nat) (lt : α → α → Bool) : Prop :=
  ∀ (b bo cap : Nat) (d : Array α) (w : World), 2 ≤ d.size → d.size ≤ 12 → LessReadsK P c #[.pointer (some ⟨bo, 0, none⟩)] (eRv eV) k lt b 0 d.size w → HoldsK (eRv eV) k w b 0 d → b < w.heap.size →
    Calls P f #[.iface T (.slice (some ⟨b, 0, none⟩) d.size cap), .func (.func c) #[] #[.pointer (some ⟨bo, 0, none⟩)]] w fun e w' =>
      e = .returned (.tuple #[]) ∧ ∃ d' n os, PermIn 0 d.size d d' ∧ SortedIn lt 0 d.size d' ∧ w' = grow (putRowK (eRv eV) k (Sort.ahead w n) b 0 d') os

theorem sortW_at {eR : α → List Value} {k b m bo : Nat} {dk : Array α} {os : Array _root_.Go.Obj} (hbo : bo < w.heap.size) (hne : bo ≠ b) : (sortWorldK eR k w b 0 m dk os).heap[bo]? = w.heap[bo]? := by
  show (w.heap.modify b (onCells (putCells id 0 (flatK eR k dk))) ++ os)[bo]? = _
  rw [Array.getElem?_append_left (by simp; omega), Array.getElem?_modify, if_neg (by omega)]
theorem less_reads {eV : α → List VV} {k c : Nat} {lt : α → α → Bool} (hL : LessK P c eV k lt) {b bo cap : Nat} {d : Array α} (hb : b < w.heap.size) (hbo : bo < w.heap.size) (hne : bo ≠ b)
    (hbox : w.cell? ⟨bo, 0, none⟩ = some (.slice (some ⟨b, 0, none⟩) d.size cap)) (hH : HoldsK (eRv eV) k w b 0 d) : LessReadsK P c #[.pointer (some ⟨bo, 0, none⟩)] (eRv eV) k lt b 0 d.size w := by
  intro m os dk hs i j hi hj
  have hW : HoldsK (eRv eV) k (sortWorldK (eRv eV) k w b 0 m dk os) b 0 dk := holdsK_sortWorldK_c (eRv eV) k w b 0 d dk m os hH hb hs
  refine hL _ b bo cap d.size (fun t => dk[t]!) ?_ (fun t ht u hu => ?_) i j hi hj
  · have := sortW_at (eR := eRv eV) (k := k) (m := m) (dk := dk) (os := os) hbo hne
    simp only [World.cell?, this] at hbox ⊢
    exact hbox
  · have := (hW.cell (i := t) (c := u) (by omega) hu).1
    rw [Nat.zero_add] at this
    exact this

theorem imp_slice {eV : α → List VV} {k f c o t T : Nat} {lt : α → α → Bool} {l : List α} (hok : callOk P f = true) (hk : 0 < k) (hl : ∀ x, (eV x).length = k) (hs : ∀ x, ∀ v ∈ eV x, scalO v = true)
    (hL : LessK P c eV k lt) (hS : SlicesK P f c T eV k lt) (h2 : 2 ≤ l.length) (h12 : l.length ≤ 12) (ho : nthO ob t = .cells (l.flatMap eV)) (hb0 : nthO ob o = .cells [.row t 0 l.length]) :
    ImpC P f [.ifr T t 0 l.length, .fn c [.ptr o 0]] ob (fun r ob' => r = .tup [] ∧ ∃ l' : List α, l'.Perm l ∧ l'.Pairwise (fun x y => lt y x = false) ∧ ob' = ob.set t (.cells (l'.flatMap eV))) := by
  refine ⟨hok, fun B w0 g w vals hcm H hsz hv => ?_⟩
  obtain ⟨hlt, b, arr, ty, htb, hB, hF, ⟨fr, hfr, hheap⟩, hle, hcells⟩ := H.get ho (by simp)
  obtain ⟨hlto, bo, arro, tyo, htbo, hBo, hFo, ⟨fro, hfro, hheapo⟩, hleo, hcellso⟩ := H.get hb0 (by simp)
  have hot : o ≠ t := by
    rintro rfl
    rw [hb0] at ho
    have : (l.flatMap eV).length = l.length * k := flr_len hl l
    injection ho with ho
    rw [← ho] at this
    simp at this
    have h3 : 2 * 1 ≤ l.length * k := Nat.mul_le_mul h2 hk
    omega
  have hne : bo ≠ b := fun e => hot (H.inj _ _ _ htbo (e ▸ htb))
  have hrow := (hv 0 (by simp) (by rw [hsz]; simp)).rep
  have hfn := (hv 1 (by simp) (by rw [hsz]; simp)).rep
  simp only [List.getElem_cons_zero, List.getElem_cons_succ] at hrow hfn
  have hvals : ∃ cap, l.length ≤ cap ∧ vals = #[.iface T (.slice (some ⟨b, 0, none⟩) l.length cap), .func (.func c) #[] #[.pointer (some ⟨bo, 0, none⟩)]] := by
    generalize hx : vals[0]'(by rw [hsz]; simp) = x at hrow
    generalize hy : vals[1]'(by rw [hsz]; simp) = y at hfn
    cases hrow with
    | @ifr _ _ _ _ cap b' hb' hle' =>
      rw [htb] at hb'
      cases hb'
      cases hfn with
      | @fn _ _ xs _ hl2 hr2 =>
        have h1 : xs.size = 1 := by simpa using hl2
        have h3 := hr2 0 (by simp)
        simp only [List.getElem_cons_zero] at h3
        have h4 : xs[0]'(by omega) = .pointer (some ⟨bo, 0, none⟩) := by
          generalize xs[0]'(by omega) = z at h3
          cases h3 with
          | @ptr _ _ b2 q => rw [htbo] at q; cases q; rfl
        have := arr1 h1 h4
        subst this
        exact ⟨cap, hle', arr2 (by simpa using hsz) hx hy⟩
  obtain ⟨cap, hcap, rfl⟩ := hvals
  have hbox : ∃ cap', w.cell? ⟨bo, 0, none⟩ = some (.slice (some ⟨b, 0, none⟩) l.length cap') := by
    have h0 := (hcellso 0 (by simp)).2.rep
    simp only [List.getElem_cons_zero] at h0
    have hz : 0 < arro.size := by simp at hleo; omega
    generalize hx : arro[0]'(Nat.lt_of_lt_of_le (by simp) hleo) = x at h0
    cases h0 with
    | @row _ _ _ cap' b' hb' hle' =>
      rw [htb] at hb'
      cases hb'
      exact ⟨cap', by simp [World.cell?, hheapo, hz, hx]⟩
  obtain ⟨cap', hbox⟩ := hbox
  have hfl : ∀ m : List α, (m.flatMap eV).length = m.length * k := flr_len hl
  have hsc : ∀ (m : List α) (j : Nat) (h : j < (m.flatMap eV).length), scalO (m.flatMap eV)[j] = true := fun m j h => by
    obtain ⟨x, _, hx⟩ := List.mem_flatMap.1 (List.getElem_mem h)
    exact hs x _ hx
  have hal : l.length * k ≤ arr.size := by rw [← hfl]; exact hle
  have harr : ∀ j (h : j < (l.flatMap eV).length), arr[j]'(Nat.lt_of_lt_of_le h hle) = toR (l.flatMap eV)[j] := fun j h => toR_one (hsc l j h) (hcells j h).2.rep
  have hbs : b < w.heap.size := lt_of_heap hheap
  have hbos : bo < w.heap.size := lt_of_heap hheapo
  have hH : HoldsK (eRv eV) k w b 0 l.toArray := by
    intro j hj
    have hj' : j < l.length * k := by simpa using hj
    have hjf : j < (l.flatMap eV).length := by rw [hfl]; exact hj'
    rw [flatK_get hl hk l j hj' hjf]
    refine ⟨?_, ?_⟩
    · have hja : j < arr.size := by omega
      simp only [World.cell?, hheap, Nat.zero_add, id]
      rw [← harr j hjf]
      simp [hja]
    · exact frozen_no hheap hfr (by omega)
  have hlr := less_reads (P := P) (d := l.toArray) hL hbs hbos hne (by simpa using hbox) hH
  have hcall := hS b bo cap l.toArray w (by simpa using h2) (by simpa using h12) hlr hH hbs
  rw [show l.toArray.size = l.length by simp] at hcall
  refine callsIn_wide.2 (calls_mono hcall ?_)
  rintro e w' ⟨rfl, d', n, os, hp, hso, rfl⟩
  obtain ⟨hp1, _, hp3⟩ := hp
  have hd' : d'.size = l.length := by simpa using hp1
  obtain ⟨H1, p1⟩ := inv_ahead H n
  have hheap1 : (Sort.ahead w n).heap[b]? = some (.cells arr ty fr) := hheap
  unfold putRowK
  rw [putRow_setRow hheap1]
  have hl2 : (d'.toList.flatMap eV).length ≤ (putCells id 0 (flatK (eRv eV) k d') arr).size := by rw [putCells_size, hfl]; simp [hd']; exact hal
  obtain ⟨H2, p2⟩ := H1.setObj (cs' := d'.toList.flatMap eV) (arr' := putCells id 0 (flatK (eRv eV) k d') arr) ho htb hheap1 (by rw [putCells_size]; exact hfr) hl2 (fun j hj => by
    have hj' : j < d'.toList.length * k := by rw [← hfl]; exact hj
    have hja : j < arr.size := by simp [hd'] at hj'; omega
    have e : (putCells id 0 (flatK (eRv eV) k d') arr)[j]'(Nat.lt_of_lt_of_le hj hl2) = toR (d'.toList.flatMap eV)[j] := by
      have h1 := flatK_get hl hk d'.toList j hj' hj
      simp only [Array.toArray_toList] at h1
      have h2 : j < d'.size * k := by simpa using hj'
      have h3 : j < (flatK (eRv eV) k d').size := by simpa using h2
      rw [getElem!_pos _ j h3] at h1
      simp [putCells, h2]
      exact h1
    rw [e]
    exact ⟨scal_cell (hsc _ j hj), toR_gv (hsc _ j hj)⟩)
  obtain ⟨H3, p3⟩ := inv_grow H2 os
  refine ⟨_, g, .tup [], _, rfl, ⟨rfl, d'.toList, ?_, ?_, rfl⟩, H3, ⟨.tup rfl rfl (fun j hj => absurd hj (by simp)), ?_, by simp [VV.ids, idsL]⟩, (p1.trans p2).trans p3⟩
  · have e1 : d'.extract 0 l.length = d' := by rw [← hd']; simp
    have e2 : l.toArray.extract 0 l.length = l.toArray := by simp
    rw [e1, e2] at hp3
    simpa using hp3
  · rw [List.pairwise_iff_getElem]
    intro i j hi hj hij
    have := hso i j (Nat.zero_le _) hij (by simpa [hd'] using hj)
    have hi' : i < d'.size := by simpa using hi
    have hj' : j < d'.size := by simpa using hj
    simpa [hi', hj'] using this
  · intro j v x hv' hx'
    simp at hv'
end
end Go.V
