/- V, part 2: what it means that a value of V stands for a value of the machine, in a world. -/
import Derived.Test.YtfhkgkijljfcfaaV1
import Derived.Below
import Derived.Laws.Strings
import Derived.Laws.Cells
namespace Go.V
open Go.RowKit

/-- Beside a state: F: how many cells of a block are data that nobody turns; tb: the blocks of the objects; kb: the blocks at whose data's end a handle stands. -/
structure Gh where
  F : Nat → Nat
  tb : Nat → Option Nat
  kb : Nat → Option Nat
  cm : VC → Nat → Code → Prop

inductive Rep (w : World) (F : Nat → Nat) (tb : Nat → Option Nat) : VV → Value → Prop
  | int (k : IntKind) (n : Int) : Rep w F tb (.int k n) (.int k n)
  | bool (b : Bool) : Rep w F tb (.bool b) (.bool b)
  | str {s : List UInt8} {b : ByteArray} (h : b.data.toList = s) : Rep w F tb (.str s) (.string b)
  | nilp : Rep w F tb .nilp (.pointer none)
  | ptr {o off b : Nat} (h : tb o = some b) : Rep w F tb (.ptr o off) (.pointer (some ⟨b, off, none⟩))
  | pim {cs : List VV} {off b o : Nat} (vals : Nat → Value) (hc : cs.all VV.canon0 = true)
      (h : ∀ j, j < cs.length → w.cell? ⟨b, o + j, none⟩ = some (vals j))
      (hr : ∀ j (h : j < cs.length), Rep w F tb cs[j] (vals j)) (hF : o + cs.length ≤ F b) : Rep w F tb (.pim cs off) (.pointer (some ⟨b, o + off, none⟩))
  | nils {a : Option Addr} : Rep w F tb .nils (.slice a 0 0)
  | slE {t : Nat} {a : Option Addr} {cap : Nat} : Rep w F tb (.sl [] t) (.slice a 0 cap)
  | sl {es : List VV} {t b o cap sz : Nat} (vals : Nat → Nat → Value) (hne : es ≠ []) (hcap : es.length ≤ cap) (hsz : 0 < sz)
      (hc : ∀ i (h : i < es.length), es[i].canon = true ∧ es[i].cells.length = sz)
      (h : ∀ i (h : i < es.length) j, j < es[i].cells.length → w.cell? ⟨b, o + i * sz + j, none⟩ = some (vals i j))
      (hr : ∀ i (h : i < es.length) j (h' : j < es[i].cells.length), Rep w F tb es[i].cells[j] (vals i j))
      (hF : o + es.length * sz ≤ F b) : Rep w F tb (.sl es t) (.slice (some ⟨b, o, none⟩) es.length cap)
  | row {o off ln cap b : Nat} (h : tb o = some b) (hl : ln ≤ cap) : Rep w F tb (.row o off ln) (.slice (some ⟨b, off, none⟩) ln cap)
  | nilm : Rep w F tb .nilm (.map none)
  | mp {o b : Nat} (h : tb o = some b) : Rep w F tb (.mp o) (.map (some b))
  | nilf : Rep w F tb .nilf .nilFunc
  | fn {f : Nat} {cap : List VV} {xs : Array Value} (hcn : cap.all VV.noHnd = true) (hl : xs.size = cap.length) (hr : ∀ j (h : j < cap.length), Rep w F tb cap[j] (xs[j]'(hl ▸ h))) :
      Rep w F tb (.fn f cap) (.func (.func f) #[] xs)
  | yld {o b : Nat} (h : tb o = some b) : Rep w F tb (.yld o) (.func (.yield b) #[] #[])
  | it {o b : Nat} (h : tb o = some b) : Rep w F tb (.it o) (.pointer (some ⟨b, 0, none⟩))
  | agg {cs : List VV} {xs : Array Value} (hl : xs.size = cs.length) (hc : cs.all VV.isCell = true) (hr : ∀ j (h : j < cs.length), Rep w F tb cs[j] (xs[j]'(hl ▸ h))) :
      Rep w F tb (.agg cs) (.agg xs)
  | tup {cs : List VV} {xs : Array Value} (hl : xs.size = cs.length) (hc : cs.all VV.noTup = true) (hr : ∀ j (h : j < cs.length), Rep w F tb cs[j] (xs[j]'(hl ▸ h))) :
      Rep w F tb (.tup cs) (.tuple xs)
  | dead {x : Value} : Rep w F tb .dead x

theorem idsL_get {n : Nat} : ∀ {l : List VV}, idsL n l = true → ∀ j (h : j < l.length), l[j].ids n = true
  | [], _, j, h => absurd h (by simp)
  | v :: r, hl, 0, _ => by simp only [idsL, Bool.and_eq_true] at hl; exact hl.1
  | v :: r, hl, j + 1, h => by
    simp only [idsL, Bool.and_eq_true] at hl
    exact idsL_get hl.2 j (by simpa using h)

theorem idsL_of {n : Nat} : ∀ {l : List VV}, (∀ v ∈ l, v.ids n = true) → idsL n l = true
  | [], _ => rfl
  | v :: r, h => by simp only [idsL, Bool.and_eq_true]; exact ⟨h v (by simp), idsL_of fun u hu => h u (by simp [hu])⟩

theorem canon0_ids {v : VV} (n : Nat) (h : v.canon0 = true) : v.ids n = true := by
  cases v with
  | sl es t => simp only [VV.canon0, beq_iff_eq] at h; subst h; simp [VV.ids]
  | fn f cap => simp only [VV.canon0, List.isEmpty_iff] at h; subst h; simp [VV.ids, idsL]
  | _ => first | rfl | (simp [VV.canon0] at h)

theorem canon_cells {v : VV} (h : v.canon = true) : v.cells.all VV.canon0 = true := by
  cases v <;> simp_all [VV.canon, VV.cells]

theorem canon0_isCell {v : VV} (h : v.canon0 = true) : v.isCell = true := by
  cases v <;> simp_all [VV.canon0, VV.isCell]

/-- What a value stands for outlives what turns elsewhere in memory. -/
theorem Rep.mono {w w' : World} {F F' : Nat → Nat} {tb tb' : Nat → Option Nat} {n : Nat}
    (hw : ∀ b o, o < F b → w'.cell? ⟨b, o, none⟩ = w.cell? ⟨b, o, none⟩) (hF : ∀ b, F b ≤ F' b) (ht : ∀ i b, i < n → tb i = some b → tb' i = some b)
    {v : VV} {x : Value} (h : Rep w F tb v x) : v.ids n = true → Rep w' F' tb' v x := by
  induction h with
  | int k n => exact fun _ => .int k n
  | bool b => exact fun _ => .bool b
  | str h => exact fun _ => .str h
  | nilp => exact fun _ => .nilp
  | ptr h => intro hi; simp only [VV.ids, decide_eq_true_eq] at hi; exact .ptr (ht _ _ hi h)
  | pim vals hc h hr hFb ih =>
    intro _
    refine .pim vals hc (fun j hj => ?_) (fun j hj => ih j hj (canon0_ids n (List.all_eq_true.1 hc _ (List.getElem_mem hj)))) (Nat.le_trans hFb (hF _))
    rw [hw _ _ (by omega)]; exact h j hj
  | nils => exact fun _ => .nils
  | slE => exact fun _ => .slE
  | @sl es t b o cap sz vals hne hcap hsz hc h hr hFb ih =>
    intro _
    refine .sl vals hne hcap hsz hc (fun i hi j hj => ?_) (fun i hi j hj => ih i hi j hj (canon0_ids n (List.all_eq_true.1 (canon_cells (hc i hi).1) _ (List.getElem_mem hj)))) (Nat.le_trans hFb (hF _))
    rw [hw]
    · exact h i hi j hj
    · have h1 := (hc i hi).2
      have h2 : (i + 1) * sz ≤ es.length * sz := Nat.mul_le_mul_right _ hi
      rw [Nat.add_mul, Nat.one_mul] at h2
      omega
  | row h hl => intro hi; simp only [VV.ids, decide_eq_true_eq] at hi; exact .row (ht _ _ hi h) hl
  | nilm => exact fun _ => .nilm
  | mp h => intro hi; simp only [VV.ids, decide_eq_true_eq] at hi; exact .mp (ht _ _ hi h)
  | nilf => exact fun _ => .nilf
  | fn hcn hl hr ih => intro hi; exact .fn hcn hl fun j hj => ih j hj (idsL_get (by simpa [VV.ids] using hi) j hj)
  | yld h => intro hi; simp only [VV.ids, decide_eq_true_eq] at hi; exact .yld (ht _ _ hi h)
  | it h => intro hi; simp only [VV.ids, decide_eq_true_eq] at hi; exact .it (ht _ _ hi h)
  | agg hl hc hr ih => intro hi; exact .agg hl hc fun j hj => ih j hj (idsL_get (by simpa [VV.ids] using hi) j hj)
  | tup hl hc hr ih => intro hi; exact .tup hl hc fun j hj => ih j hj (idsL_get (by simpa [VV.ids] using hi) j hj)
  | dead => exact fun _ => .dead

/-- A handle that is up to date: the slice ends where its block's data end. -/
def CurSl (B : Nat) (g : Gh) (w : World) (t sz n : Nat) (x : Value) : Prop :=
  (∃ a, x = .slice a 0 0 ∧ n = 0) ∨
  ∃ b o cap arr ty, g.kb t = some b ∧ x = .slice (some ⟨b, o, none⟩) n cap ∧ n ≤ cap ∧ w.heap[b]? = some (.cells arr ty (0, 0)) ∧ o + cap * sz ≤ arr.size ∧ g.F b = o + n * sz ∧ B ≤ b ∧ 0 < n

def Hnd1 (B : Nat) (ob : List Obj) (g : Gh) (w : World) : VV → Value → Prop
  | .sl es (t + 2), x => ∃ n sz, nthO ob t = .tok n sz ∧ 0 < sz ∧ es.length ≤ n ∧ (es.length = n → CurSl B g w t sz n x) ∧ (∀ i (h : i < es.length), es[i].cells.length = sz)
  | _, _ => True

def Hnd (B : Nat) (ob : List Obj) (g : Gh) (w : World) : VV → Value → Prop
  | .agg cs, .agg xs => ∀ (j : Nat) v x, cs[j]? = some v → xs[j]? = some x → Hnd1 B ob g w v x
  | .tup cs, .tuple xs => ∀ (j : Nat) v x, cs[j]? = some v → xs[j]? = some x → Hnd1 B ob g w v x ∧
      ∀ ds ys, v = .agg ds → x = .agg ys → ∀ (k : Nat) u y, ds[k]? = some u → ys[k]? = some y → Hnd1 B ob g w u y
  | v, x => Hnd1 B ob g w v x

theorem Hnd.sl {B : Nat} {ob : List Obj} {g : Gh} {w : World} {es : List VV} {t : Nat} {x : Value} : Hnd B ob g w (.sl es t) x ↔ Hnd1 B ob g w (.sl es t) x := by
  cases x <;> exact Iff.rfl

/-- A good value: it stands for x; its handles are as told; it names objects that are there. -/
structure GV (B : Nat) (ob : List Obj) (g : Gh) (w : World) (v : VV) (x : Value) : Prop where
  rep : Rep w g.F g.tb v x
  hnd : Hnd B ob g w v x
  ids : v.ids ob.length = true

def stOf : Nat → Option LoopState
  | 0 => some .ready
  | 1 => some .busy
  | 2 => some .done
  | 3 => some .exhausted
  | _ => none
def pendOf : Ex → Option Code
  | .nrm => none
  | .ext id => some (.exit id)
  | .ret => some .ret

def ObR (B : Nat) (ob : List Obj) (g : Gh) (w : World) (i : Nat) : Obj → Prop
  | .cells cs => ∃ b arr ty, g.tb i = some b ∧ B ≤ b ∧ g.F b = 0 ∧ w.heap[b]? = some (.cells arr ty (0, 0)) ∧ ∃ hl : arr.size = cs.length,
      ∀ j (h : j < cs.length), cs[j].isCell = true ∧ GV B ob g w cs[j] (arr[j]'(hl ▸ h))
  | .map es => ∃ b arr clock, g.tb i = some b ∧ B ≤ b ∧ g.F b = 0 ∧ w.heap[b]? = some (.map arr clock) ∧ ∃ hl : arr.size = es.length,
      ∀ j (h : j < es.length), es[j].1.canon = true ∧ es[j].2.canon = true ∧ Rep w g.F g.tb es[j].1 (arr[j]'(hl ▸ h)).key ∧ Rep w g.F g.tb es[j].2 (arr[j]'(hl ▸ h)).val
  | .siter s pos => ∃ b bs, g.tb i = some b ∧ B ≤ b ∧ g.F b = 0 ∧ w.heap[b]? = some (.stringIter bs pos) ∧ bs.data.toList = s
  | .tok _ sz => 0 < sz ∧ g.tb i = none
  | .loop nt env ps a b st pend => ∃ blk r, g.tb i = some blk ∧ B ≤ blk ∧ g.F blk = 0 ∧ w.heap[blk]? = some (.loop r) ∧ r.tmps.size = nt ∧ (∀ s, GV B ob g w (get env s) (r.tmps.getD s Go.undef)) ∧
      r.params.toList = ps ∧ g.cm a nt r.assign ∧ g.cm b nt r.body ∧ stOf st = some r.state ∧ r.pending = pendOf pend
  | .dfr => ∃ b, g.tb i = some b ∧ B ≤ b ∧ g.F b = 0 ∧ w.heap[b]? = some (.deferred (some []))
  | .gone => True

/-- Where the call began: its world; what was data then. -/
structure W0 where
  w : World
  F : Nat → Nat
  keep : VV → Value → Prop := fun _ _ => False
  cm : VC → Nat → Code → Prop

structure HInv (B : Nat) (w0 : W0) (ob : List Obj) (g : Gh) (w : World) : Prop where
  below : Below B w0.w w
  hB : B ≤ w.heap.size
  fz : ∀ b, w.heap.size ≤ b → g.F b = 0
  f0 : ∀ b, b < B → g.F b = w0.F b
  c0 : g.cm = w0.cm
  tbl : ∀ i b, g.tb i = some b → i < ob.length ∧ b < w.heap.size
  kbl : ∀ i b, g.kb i = some b → i < ob.length ∧ b < w.heap.size
  inj : ∀ i j b, g.tb i = some b → g.tb j = some b → i = j
  injk : ∀ i j b, g.kb i = some b → g.kb j = some b → i = j
  apart : ∀ i j b, g.tb i = some b → g.kb j = some b → False
  obs : ∀ i (h : i < ob.length), ObR B ob g w i ob[i]

/-- What is known of every good value when memory turns from (ob, g, w) to (ob', g', w'). -/
def Pres (B : Nat) (ob : List Obj) (g : Gh) (w : World) (ob' : List Obj) (g' : Gh) (w' : World) : Prop :=
  ∀ v x, GV B ob g w v x → GV B ob' g' w' v x

theorem Pres.refl (B : Nat) (ob : List Obj) (g : Gh) (w : World) : Pres B ob g w ob g w := fun _ _ h => h
theorem Pres.trans {B : Nat} {o1 o2 o3 : List Obj} {g1 g2 g3 : Gh} {w1 w2 w3 : World} (h : Pres B o1 g1 w1 o2 g2 w2) (k : Pres B o2 g2 w2 o3 g3 w3) : Pres B o1 g1 w1 o3 g3 w3 :=
  fun v x hv => k v x (h v x hv)

theorem ids_mono {n m : Nat} (hn : n ≤ m) : (∀ v : VV, v.ids n = true → v.ids m = true) ∧ ∀ l : List VV, idsL n l = true → idsL m l = true := by
  constructor
  · intro v
    induction v using VV.rec (motive_2 := fun l => idsL n l = true → idsL m l = true) with
    | _ => simp_all [VV.ids, idsL] <;> omega
  · intro l
    induction l with
    | nil => simp [idsL]
    | cons v r ih =>
      simp only [idsL, Bool.and_eq_true]
      rintro ⟨h1, h2⟩
      refine ⟨?_, ih h2⟩
      clear ih h2
      induction v using VV.rec (motive_2 := fun l => idsL n l = true → idsL m l = true) with
      | _ => simp_all [VV.ids, idsL] <;> omega

/-- The one lemma for every change of memory. 'hh': each handle that is told after the change was told before it, and the block at whose end it stands has kept its size and its data's end, unless its count has grown. -/
theorem Pres.of {B : Nat} {ob ob' : List Obj} {g g' : Gh} {w w' : World} (hlen : ob.length ≤ ob'.length)
    (hw : ∀ b o, o < g.F b → w'.cell? ⟨b, o, none⟩ = w.cell? ⟨b, o, none⟩) (hF : ∀ b, g.F b ≤ g'.F b) (ht : ∀ i b, i < ob.length → g.tb i = some b → g'.tb i = some b)
    (hh : ∀ t n sz, nthO ob t = .tok n sz → ∃ n', nthO ob' t = .tok n' sz ∧ n ≤ n' ∧ (n' = n → ∀ x, CurSl B g w t sz n x → CurSl B g' w' t sz n x)) :
    Pres B ob g w ob' g' w' := by
  have h1 : ∀ v x, Hnd1 B ob g w v x → Hnd1 B ob' g' w' v x := by
    intro v x h
    unfold Hnd1 at h ⊢
    split at h
    · obtain ⟨n, sz, ho, hs, hle, hcur, hcl⟩ := h
      obtain ⟨n', ho', hn', hc'⟩ := hh _ _ _ ho
      refine ⟨n', sz, ho', hs, by omega, fun e => ?_, hcl⟩
      have e1 : n' = n := by omega
      subst e1
      exact hc' rfl x (hcur e)
    · trivial
  intro v x h
  refine ⟨h.rep.mono hw hF ht h.ids, ?_, (ids_mono hlen).1 v h.ids⟩
  have hd := h.hnd
  unfold Hnd at hd ⊢
  split at hd
  · exact fun j v x hv hx => h1 v x (hd j v x hv hx)
  · exact fun j v x hv hx => ⟨h1 v x (hd j v x hv hx).1, fun ds ys hv' hx' k u y hu hy => h1 u y ((hd j v x hv hx).2 ds ys hv' hx' k u y hu hy)⟩
  · exact h1 _ _ hd

end Go.V
