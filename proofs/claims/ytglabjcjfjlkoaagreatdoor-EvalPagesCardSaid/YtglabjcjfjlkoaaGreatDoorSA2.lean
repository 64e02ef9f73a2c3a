/- V, bridges: slices.SortFunc on rows of scalars' groups, by the shelf's contract. Conditions: as the theorem says. -/
import Derived.Shelf.SlSortCmp.InsertionK
import Derived.Test.YtglabjcjfjlkoaaGreatDoorU1
set_option linter.unusedVariables false
set_option linter.unusedSimpArgs false
namespace Go.V
open Go.RowKit Go.Sort Go.Proofs

/-- numbers, truth values, strings -/
def scalO : VV → Bool
  | .int _ _ | .bool _ | .str _ => true
  | _ => false
def toR : VV → Value
  | .int k n => .int k n
  | .bool b => .bool b
  | .str s => .string ⟨s.toArray⟩
  | _ => Go.undef
theorem bytes_eq {b : ByteArray} {s : List UInt8} (h : b.data.toList = s) : b = ⟨s.toArray⟩ := by
  cases b with
  | mk a => congr 1; exact Array.toList_inj.1 (by simpa using h)
section
variable {P : Program} {B : Nat} {w0 : W0} {ob : List Obj} {g : Gh} {w : World}
theorem toR_rep {F : Nat → Nat} {tb : Nat → Option Nat} {v : VV} (h : scalO v = true) : Rep w F tb v (toR v) := by
  cases v <;> simp only [scalO, Bool.false_eq_true] at h
  · exact .int _ _
  · exact .bool _
  · exact .str (by simp)
theorem toR_one {F : Nat → Nat} {tb : Nat → Option Nat} {v : VV} {y : Value} (h : scalO v = true) (r : Rep w F tb v y) : y = toR v := by
  cases v <;> simp only [scalO, Bool.false_eq_true] at h
  · cases r; rfl
  · cases r; rfl
  · cases r with
    | str q => rw [bytes_eq q]; rfl
theorem toR_gv {v : VV} (h : scalO v = true) : GV B ob g w v (toR v) := by
  cases v <;> simp only [scalO, Bool.false_eq_true] at h
  · exact GV.int
  · exact GV.bool
  · exact GV.str (by simp)
theorem scal_cell {v : VV} (h : scalO v = true) : v.isCell = true := by
  cases v <;> simp only [scalO, Bool.false_eq_true] at h <;> rfl
theorem toR_cell {v : VV} (h : scalO v = true) : (toR v).oneCell' = true := by
  cases v <;> simp only [scalO, Bool.false_eq_true] at h <;> rfl
theorem scal_hnd {v : VV} (h : scalO v = true) : v.noHnd0 = true ∧ v.ids 0 = true := by
  cases v <;> simp only [scalO, Bool.false_eq_true] at h <;> exact ⟨rfl, rfl⟩

/-! ### rows of groups of k cells -/
theorem flr_len {α β : Type} {f : α → List β} {k : Nat} (h : ∀ x, (f x).length = k) : ∀ l : List α, (l.flatMap f).length = l.length * k
  | [] => by simp
  | x :: r => by
    rw [List.flatMap_cons, List.length_append, flr_len h r, h x, List.length_cons, Nat.add_mul, Nat.one_mul, Nat.add_comm]
theorem flr_get {α β : Type} {f : α → List β} {k : Nat} (h : ∀ x, (f x).length = k) (hk : 0 < k) : ∀ (l : List α) (t : Nat) (ht : t < l.length * k) (h1 : t / k < l.length) (h2 : t % k < (f l[t / k]).length),
    (l.flatMap f)[t]'(by rw [flr_len h]; exact ht) = (f l[t / k])[t % k]
  | [], t, ht, _, _ => by simp at ht
  | x :: r, t, ht, h1, h2 => by
    by_cases q : t < k
    · have e1 : t / k = 0 := Nat.div_eq_of_lt q
      have e2 : t % k = t := Nat.mod_eq_of_lt q
      have e3 : t < (f x).length := by rw [h x]; exact q
      simp only [List.flatMap_cons, e1, e2, List.getElem_cons_zero]
      rw [List.getElem_append_left e3]
    · have q' : k ≤ t := by omega
      obtain ⟨u, rfl⟩ : ∃ u, t = u + k := ⟨t - k, by omega⟩
      have e1 : (u + k) / k = u / k + 1 := Nat.add_div_right u hk
      have e2 : (u + k) % k = u % k := Nat.add_mod_right u k
      have e3 : (f x).length ≤ u + k := by rw [h x]; omega
      have h1' : u / k < r.length := by rw [e1] at h1; simpa using h1
      have hu : u < r.length * k := by
        rw [List.length_cons, Nat.add_mul, Nat.one_mul] at ht; omega
      have ih := flr_get h hk r u hu h1' (by rw [h]; exact Nat.mod_lt _ hk)
      simp only [List.flatMap_cons, e1, e2, List.getElem_cons_succ]
      rw [List.getElem_append_right e3]
      have e4 : u + k - (f x).length = u := by rw [h x]; omega
      simp only [e4]
      exact ih

variable {α : Type} [Inhabited α]
def eRv (eV : α → List VV) (x : α) : List Value := (eV x).map toR

theorem flatK_get {eV : α → List VV} {k : Nat} (h : ∀ x, (eV x).length = k) (hk : 0 < k) (l : List α) (t : Nat) (ht : t < l.length * k) (hv : t < (l.flatMap eV).length) :
    (flatK (eRv eV) k l.toArray)[t]! = toR (l.flatMap eV)[t] := by
  have h1 : t / k < l.length := Nat.div_lt_of_lt_mul (by rwa [Nat.mul_comm] at ht)
  have h2 : t % k < (eV l[t / k]).length := by rw [h]; exact Nat.mod_lt _ hk
  rw [get_flatK _ _ _ _ (by simpa using ht), flr_get h hk l t ht h1 h2]
  have e : l.toArray[t / k]! = l[t / k] := by simp [h1]
  rw [e, eRv]
  simp [h2]

/-- a world of the sort's, below the row's block, is the old one -/
theorem belowD_sort {eR : α → List Value} {k b m : Nat} {dk : Array α} {os : Array _root_.Go.Obj} (hb : b < w.heap.size) : BelowD b w (sortWorldK eR k w b 0 m dk os) ∧ w.heap.size ≤ (sortWorldK eR k w b 0 m dk os).heap.size := by
  have hs : (sortWorldK eR k w b 0 m dk os).heap.size = w.heap.size + os.size := by
    simp [sortWorldK, grow, putRowK, putRow, mapBlock, Sort.ahead]
  refine ⟨⟨⟨rfl, rfl, rfl, by omega, fun q hq => ?_⟩, ?_⟩, by omega⟩
  · show (w.heap.modify b (onCells (putCells id 0 (flatK eR k dk))) ++ os)[q]? = _
    rw [Array.getElem?_append_left (by simp; omega), Array.getElem?_modify, if_neg (by omega)]
  · show w.drawn ≤ w.drawn + m
    omega

/-- the sort's comparison is what V says of it -/
theorem cmp_lays {eV : α → List VV} {k c : Nat} {cf : α → α → Int} (hs : ∀ x, ∀ v ∈ eV x, scalO v = true) (hcf : ∀ x y, PureC P c [.agg (eV x), .agg (eV y)] (.int .i64 (cf x y)))
    (hG : GlobOk w) {b size : Nat} (hgb : glow ≤ b) (hb : b < w.heap.size) : CmpLays P c #[] (eRv eV) k cf b 0 size w := by
  intro m os dk hsz x y
  have hbel := belowD_sort (eR := eRv eV) (k := k) (m := m) (dk := dk) (os := os) (w := w) hb
  generalize sortWorldK (eRv eV) k w b 0 m dk os = W at hbel ⊢
  have hGW : GlobOk W := hG.mono hbel.1 hgb
  have hrep : ∀ z : α, Rep W (fun _ => 0) (fun _ => none) (.agg (eV z)) (.agg (eRv eV z).toArray) := fun z => by
    refine .agg (by simp [eRv]) (List.all_eq_true.2 fun v hv => scal_cell (hs z v hv)) fun j hj => ?_
    simp only [eRv, List.getElem_toArray, List.getElem_map]
    exact toR_rep (hs z _ (List.getElem_mem hj))
  have := callsIn_wide.1 ((hcf x y).2 W (fun _ => 0) (#[.agg (eRv eV x).toArray, .agg (eRv eV y).toArray] ++ #[]) hGW (fun _ _ => rfl) rfl (fun j h h' => by
    match j, h, h' with
    | 0, _, _ => exact hrep x
    | 1, _, _ => exact hrep y
    | j + 2, h, _ => exact absurd h (by simp)))
  refine calls_mono this ?_
  rintro e w' ⟨v, F', rfl, hbw, _, _, hres⟩
  have hv := hres.rep (fun _ => none)
  cases hv
  obtain ⟨q, os', hq⟩ := hbw.grow
  exact ⟨rfl, q, os', hq⟩

/-- the contract that the shelf gives -/
def SortsK (P : Program) (f c : Nat) (eV : α → List VV) (k : Nat) (cf : α → α → Int) : Prop :=
  ∀ (b cap : Nat) (d : Array α) (w : World), CmpLays P c #[] (eRv eV) k cf b 0 d.size w → HoldsK (eRv eV) k w b 0 d → b < w.heap.size → d.size < 4611686018427387904 →
    Calls P f #[.slice (some ⟨b, 0, none⟩) d.size cap, .func (.func c) #[] #[]] w fun e w' =>
      e = .returned (.tuple #[]) ∧ ∃ d' n os, PermIn 0 d.size d d' ∧ SortedIn (ltOf cf) 0 d.size d' ∧ w' = sortWorldK (eRv eV) k w b 0 n d' os

theorem imp_sort {eV : α → List VV} {k f c o : Nat} {cf : α → α → Int} {l : List α} (hok : callOk P f = true) (hk : 0 < k) (hl : ∀ x, (eV x).length = k) (hs : ∀ x, ∀ v ∈ eV x, scalO v = true)
    (hcf : ∀ x y, PureC P c [.agg (eV x), .agg (eV y)] (.int .i64 (cf x y))) (hS : SortsK P f c eV k cf) (hn : l.length < 4611686018427387904) (ho : nthO ob o = .cells (l.flatMap eV)) :
    ImpC P f [.row o 0 l.length, .fn c []] ob (fun r ob' => r = .tup [] ∧ ∃ l' : List α, l'.Perm l ∧ l'.Pairwise (fun x y => ltOf cf y x = false) ∧ ob' = ob.set o (.cells (l'.flatMap eV))) := by
  refine ⟨hok, fun B w0 g w vals hcm H hsz hv => ?_⟩
  obtain ⟨hlt, b, arr, ty, htb, hB, hF, ⟨fr, hfr, hheap⟩, hle, hcells⟩ := H.get ho (by simp)
  have hrow := (hv 0 (by simp) (by rw [hsz]; simp)).rep
  have hfn := (hv 1 (by simp) (by rw [hsz]; simp)).rep
  simp only [List.getElem_cons_zero, List.getElem_cons_succ] at hrow hfn
  have hvals : ∃ cap, l.length ≤ cap ∧ vals = #[.slice (some ⟨b, 0, none⟩) l.length cap, .func (.func c) #[] #[]] := by
    generalize hx : vals[0]'(by rw [hsz]; simp) = x at hrow
    generalize hy : vals[1]'(by rw [hsz]; simp) = y at hfn
    cases hrow with
    | @row _ _ _ cap b' hb' hle' =>
      rw [htb] at hb'
      cases hb'
      cases hfn with
      | @fn _ _ xs _ hl2 _ =>
        have : xs = #[] := Array.eq_empty_of_size_eq_zero (by simpa using hl2)
        subst this
        exact ⟨cap, hle', arr2 (by simpa using hsz) hx hy⟩
  obtain ⟨cap, hcap, rfl⟩ := hvals
  have hfl : ∀ m : List α, (m.flatMap eV).length = m.length * k := flr_len hl
  have hsc : ∀ (m : List α) (j : Nat) (h : j < (m.flatMap eV).length), scalO (m.flatMap eV)[j] = true := fun m j h => by
    obtain ⟨x, _, hx⟩ := List.mem_flatMap.1 (List.getElem_mem h)
    exact hs x _ hx
  have hal : l.length * k ≤ arr.size := by rw [← hfl]; exact hle
  have harr : ∀ j (h : j < (l.flatMap eV).length), arr[j]'(Nat.lt_of_lt_of_le h hle) = toR (l.flatMap eV)[j] := fun j h => toR_one (hsc l j h) (hcells j h).2.rep
  have hbs : b < w.heap.size := lt_of_heap hheap
  have hH : HoldsK (eRv eV) k w b 0 l.toArray := by
    intro j hj
    have hj' : j < l.length * k := by simpa using hj
    have hjf : j < (l.flatMap eV).length := by rw [hfl]; exact hj'
    rw [flatK_get hl hk l j hj' hjf]
    refine ⟨?_, ?_⟩
    · have hja : j < arr.size := by omega
      simp only [World.cell?, hheap, Nat.zero_add, id]
      rw [← harr j hjf]
      simp [hja]
    · exact frozen_no hheap hfr (by omega)
  have hG := H.glob
  have hlays := cmp_lays (P := P) (eV := eV) (k := k) (c := c) (cf := cf) (size := l.toArray.size) hs hcf hG (Nat.le_trans H.c0.2.1 hB) hbs
  have hcall := hS b cap l.toArray w hlays hH hbs (by simpa using hn)
  rw [show l.toArray.size = l.length by simp] at hcall
  refine callsIn_wide.2 (calls_mono hcall ?_)
  rintro e w' ⟨rfl, d', n, os, hp, hso, rfl⟩
  obtain ⟨hp1, _, hp3⟩ := hp
  have hd' : d'.size = l.length := by simpa using hp1
  obtain ⟨H1, p1⟩ := inv_ahead H n
  have hheap1 : (Sort.ahead w n).heap[b]? = some (.cells arr ty fr) := hheap
  unfold sortWorldK putRowK
  rw [putRow_setRow hheap1]
  have hl2 : (d'.toList.flatMap eV).length ≤ (putCells id 0 (flatK (eRv eV) k d') arr).size := by rw [putCells_size, hfl]; simp [hd']; exact hal
  obtain ⟨H2, p2⟩ := H1.setObj (cs' := d'.toList.flatMap eV) (arr' := putCells id 0 (flatK (eRv eV) k d') arr) ho htb hheap1 (by rw [putCells_size]; exact hfr) hl2 (fun j hj => by
    have hj' : j < d'.toList.length * k := by rw [← hfl]; exact hj
    have hja : j < arr.size := by simp [hd'] at hj'; omega
    have e : (putCells id 0 (flatK (eRv eV) k d') arr)[j]'(Nat.lt_of_lt_of_le hj hl2) = toR (d'.toList.flatMap eV)[j] := by
      have h1 := flatK_get hl hk d'.toList j hj' hj
      simp only [Array.toArray_toList] at h1
      have h2 : j < d'.size * k := by simpa using hj'
      have h3 : j < (flatK (eRv eV) k d').size := by simpa using h2
      rw [getElem!_pos _ j h3] at h1
      simp [putCells, h2]
      exact h1
    rw [e]
    exact ⟨scal_cell (hsc _ j hj), toR_gv (hsc _ j hj)⟩)
  obtain ⟨H3, p3⟩ := inv_grow H2 os
  refine ⟨_, g, .tup [], _, rfl, ⟨rfl, d'.toList, ?_, ?_, rfl⟩, H3, ⟨.tup rfl rfl (fun j hj => absurd hj (by simp)), ?_, by simp [VV.ids, idsL]⟩, (p1.trans p2).trans p3⟩
  · have e1 : d'.extract 0 l.length = d' := by rw [← hd']; simp
    have e2 : l.toArray.extract 0 l.length = l.toArray := by simp
    rw [e1, e2] at hp3
    simpa using hp3
  · rw [List.pairwise_iff_getElem]
    intro i j hi hj hij
    have := hso i j (Nat.zero_le _) hij (by simpa [hd'] using hj)
    have hi' : i < d'.size := by simpa using hi
    have hj' : j < d'.size := by simpa using hj
    simpa [hi', hj'] using this
  · intro j v x hv' hx'
    simp at hv'
end
end Go.V
