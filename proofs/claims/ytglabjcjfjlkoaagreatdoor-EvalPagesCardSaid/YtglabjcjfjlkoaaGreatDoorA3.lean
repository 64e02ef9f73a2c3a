/- V, part 19: what remains of the text's own words: slots given up, objects given up, handles for empty slices. -/
import Derived.RangeFuncRecord
import Derived.OrdersIn
import Derived.ControlIn
import Derived.Scope
import Derived.Test.YtglabjcjfjlkoaaGreatDoorA2
set_option linter.unusedVariables false
set_option linter.unusedSimpArgs false
namespace Go.V
open Go.RowKit

def Obj.idsB (n : Nat) : Obj → Bool
  | .cells cs => idsL n cs
  | .loop _ env _ _ _ _ _ => env.all fun p => p.2.ids n
  | .miter m _ _ => m < n
  | .map es => es.all fun p => p.2.ids n
  | _ => true

/-- these slots alone -/
def keepE (env : List (Nat × VV)) : List Nat → List (Nat × VV)
  | [] => []
  | s :: r => (s, get env s) :: keepE env r

def dropW (st : St) (slots : List Nat) (k : Option Nat) : Option St :=
  match k with
  | none => some { st with env := keepE st.env slots }
  | some k => if st.base + k ≤ st.ob.length ∧ st.marks.all (fun o => decide (o < st.base + k)) = true ∧ (keepE st.env slots).all (fun p => p.2.ids (st.base + k)) = true ∧ (st.ob.take (st.base + k)).all (Obj.idsB (st.base + k)) = true then
      some { st with env := keepE st.env slots, ob := st.ob.take (st.base + k) } else none

/-- scalars: nothing that leads to memory -/
def VV.scalC : VV → Bool
  | .int _ _ | .bool _ | .str _ => true
  | _ => false
def VV.scalV (v : VV) : VV := if v.scalC then v else .dead
def scalE : List (Nat × VV) → List (Nat × VV)
  | [] => []
  | (k, v) :: r => (k, v.scalV) :: scalE r

/-- the elements of a part of a row: n cells each; n = 0: one cell -/
def frzEs (n off ln : Nat) (cs : List VV) : List VV := if n = 0 then (cs.drop off).take ln else (List.range ln).map fun i => .agg ((cs.drop (off + i * n)).take n)

/-- two cells for which no value of the machine stands at once -/
def clash0 : VV → VV → Bool
  | .int k a, .int k' b => !(decide (k = k') && decide (a = b))
  | .str a, .str b => !(decide (a = b))
  | .bool a, .bool b => !(decide (a = b))
  | .int _ _, .sl _ _ => true
  | .int _ _, .str _ => true
  | .int _ _, .bool _ => true
  | .sl _ _, .int _ _ => true
  | .sl _ _, .str _ => true
  | .sl _ _, .bool _ => true
  | .str _, .int _ _ => true
  | .str _, .sl _ _ => true
  | .str _, .bool _ => true
  | .bool _, .int _ _ => true
  | .bool _, .sl _ _ => true
  | .bool _, .str _ => true
  | _, _ => false
def hdClash (out : List VV) : List VV → Bool
  | [] => true
  | e :: _ => match e.cells with
    | c :: _ => out.all (clash0 c)
    | [] => false
mutual
/-- data of which no slice lies in a row with these cells: the first cell of each clashes with all of them -/
def sepV (out : List VV) : VV → Bool
  | .int _ _ => true
  | .bool _ => true
  | .str _ => true
  | .sl es t => t == 0 && hdClash out es && sepL out es
  | .agg cs => sepL out cs
  | _ => false
def sepL (out : List VV) : List VV → Bool
  | [] => true
  | v :: r => sepV out v && sepL out r
end
def sepC (out : List VV) (c : VV) : Bool := c.canon0 && sepV out c
def thawOk (es : List VV) : Bool := es.all (fun v => v.cells.all VV.scalC) || es.all fun v => v.cells.all (sepC (es.flatMap VV.cells))
/-- the cell with a handle -/
def hndAt : List VV → Option (Nat × List VV × Nat)
  | [] => none
  | .sl es (t + 2) :: _ => some (0, es, t)
  | _ :: r => (hndAt r).map fun p => (p.1 + 1, p.2)
/-- the cell with a row -/
def rowAt : List VV → Option (Nat × Nat × Nat × Nat)
  | [] => none
  | .row o off ln :: _ => some (0, o, off, ln)
  | _ :: r => (rowAt r).map fun p => (p.1 + 1, p.2)
def thawB (es cs : List VV) (j : Nat) : Bool := es.all (fun v => v.cells.all (sepC (es.flatMap VV.cells))) && (cs.set j (.bool true)).all (sepC (es.flatMap VV.cells))
/-- what outlives that a row becomes one that may be written: rows of cells of data apart from it; their addresses; scalars -/
def safeC (out : List VV) (c : VV) : Bool := sepC out c || c.isNils
def safeO (out : List VV) : Obj → Obj
  | .cells cs => if cs.all (safeC out) then .cells cs else .gone
  | _ => .gone
def Obj.isC : Obj → Bool
  | .cells _ => true
  | _ => false
def VV.safeV (ob : List Obj) (v : VV) : VV := if v.scalC then v else match v with
  | .ptr p f => if (nthO ob p).isC then .ptr p f else .dead
  | _ => .dead
def safeE (ob : List Obj) : List (Nat × VV) → List (Nat × VV)
  | [] => []
  | (k, v) :: r => (k, v.safeV ob) :: safeE ob r
def thawObs (ob : List Obj) (es cs : List VV) (o t j n : Nat) : List Obj := ((ob.map (safeO (es.flatMap VV.cells))).set t (.cells (es.flatMap VV.cells))).set o (.cells (cs.set j (.row t 0 n)))

/-- A slice at whose end a handle stands becomes a row that may be written; all but scalars is given up. -/
def thawW (st : St) (s : Nat) : Option St := match get st.env s with
  | .nils => some st
  | .sl es t => if es.isEmpty then some st else match t with
    | t + 2 => match nthO st.ob t with
      | .tok n _ => if st.pure = true ∧ st.marks = [] ∧ es.length = n ∧ thawOk es = true then
          some { st with env := put (scalE st.env) s (.row t 0 n), ob := (st.ob.map fun _ => Obj.gone).set t (.cells (es.flatMap VV.cells)) } else none
      | _ => none
    | _ => none
  | .ptr o 0 => match nthO st.ob o with
    | .cells [.sl es (t + 2)] => match nthO st.ob t with
      | .tok n _ => if st.pure = true ∧ st.marks = [] ∧ es.length = n ∧ es.isEmpty = false ∧ es.all (fun v => v.cells.all VV.scalC) = true then
          some { st with env := put (scalE st.env) s (.ptr o 0), ob := ((st.ob.map fun _ => Obj.gone).set t (.cells (es.flatMap VV.cells))).set o (.cells [.row t 0 n]) } else none
      | _ => none
    | .cells [.nils] => some st
    | .cells cs => match hndAt cs with
      | some (j, es, t) => match nthO st.ob t with
        | .tok n _ => if st.pure = true ∧ st.marks = [] ∧ es.length = n ∧ es.isEmpty = false ∧ thawB es cs j = true then
            some { st with env := put (safeE (thawObs st.ob es cs o t j n) st.env) s (.ptr o 0), ob := thawObs st.ob es cs o t j n } else none
        | _ => none
      | none => none
    | _ => none
  | _ => none

/-- a row in a cell of an object becomes data -/
def frzBox (st : St) (o n : Nat) : Option St := match nthO st.ob o with
  | .cells cs => match rowAt cs with
    | some (j, o2, off, ln) => match nthO st.ob o2 with
      | .cells cs2 => if o ≠ o2 ∧ off + ln * max n 1 ≤ cs2.length ∧ (frzEs n off ln cs2).all VV.canon = true then
          some { st with ob := (st.ob.set o2 .gone).set o (.cells (cs.set j (.sl (frzEs n off ln cs2) 0))) } else none
      | _ => none
    | none => none
  | _ => none
/-- A row becomes data. -/
def frzW (st : St) (s n : Nat) : Option St := match get st.env s with
  | .nils => some st
  | .sl _ _ => some st
  | .row o off ln => match nthO st.ob o with
    | .cells cs => if off + ln * max n 1 ≤ cs.length ∧ (frzEs n off ln cs).all VV.canon = true then
        some { st with env := put st.env s (.sl (frzEs n off ln cs) 0), ob := st.ob.set o .gone } else none
    | _ => none
  | .ptr o _ => frzBox st o n
  | _ => none

def ownW (st : St) (s : Nat) (c : Option Nat) (sz : Nat) : Option St :=
  if sz = 0 then (match c with | none => thawW st s | some n => frzW st s n) else
  match c with
  | none => match get st.env s with
    | .nils => some { st with env := put st.env s (.sl [] (st.ob.length + 2)), ob := st.ob ++ [.tok 0 sz] }
    | _ => none
  | some j => match get st.env s with
    | .ptr o off => match nthO st.ob o with
      | .cells cs => match cs[off + j]? with
        | some .nils => some { st with ob := (st.ob ++ [Obj.tok 0 sz]).set o (.cells (cs.set (off + j) (.sl [] (st.ob.length + 2)))) }
        | _ => none
      | _ => none
    | .dead => some { st with ob := st.ob ++ List.replicate j .resv }
    | .sl es _ => some { st with env := put st.env s (.sl es 0) }
    | _ => none

section
variable {P : Program} {B : Nat} {w0 : W0} {ob : List Obj} {g : Gh} {nt : Nat} {D : List Deferred} {a : Act} {w : World} {st : St}

theorem get_keep (env : List (Nat × VV)) (l : List Nat) (s : Nat) : get (keepE env l) s = get env s ∨ get (keepE env l) s = .dead := by
  induction l with
  | nil => exact .inr rfl
  | cons k r ih =>
    simp only [keepE, get]
    by_cases h : k = s
    · rw [if_pos h]; exact .inl (by rw [h])
    · rw [if_neg h]; exact ih

theorem get_all {env : List (Nat × VV)} {n : Nat} (h : env.all (fun p => p.2.ids n) = true) (s : Nat) : (get env s).ids n = true := by
  induction env with
  | nil => rfl
  | cons p r ih =>
    obtain ⟨k, u⟩ := p
    simp only [List.all_cons, Bool.and_eq_true] at h
    simp only [get]
    split
    · exact h.1
    · exact ih h.2

theorem nthO_take {n i : Nat} (h : i < n) : nthO (ob.take n) i = nthO ob i := by
  simp [nthO, List.getD_eq_getElem?_getD, List.getElem?_take, h]

def ghCut (g : Gh) (n : Nat) : Gh := { g with tb := fun i => if i < n then g.tb i else none, kb := fun i => if i < n then g.kb i else none }

theorem cur_cut {t sz m n : Nat} {x : Value} (ht : t < n) (h : CurSl B g w t sz m x) : CurSl B (ghCut g n) w t sz m x := by
  rcases h with ⟨a, rfl, rfl⟩ | ⟨b1, o1, cap, arr1, ty1, q1, q2⟩
  · exact .inl ⟨a, rfl, rfl⟩
  · exact .inr ⟨b1, o1, cap, arr1, ty1, by show (if t < n then g.kb t else none) = _; rw [if_pos ht]; exact q1, q2⟩

theorem hnd1_cut {n : Nat} {v : VV} {x : Value} (hi : v.ids n = true) (h : Hnd1 B ob g w v x) : Hnd1 B (ob.take n) (ghCut g n) w v x := by
  unfold Hnd1 at h ⊢
  split at h
  · rename_i es t
    obtain ⟨m, sz, h1, h2, h3, h4, h5⟩ := h
    have ht : t < n := by simpa [VV.ids] using hi
    exact ⟨m, sz, by rw [nthO_take ht]; exact h1, h2, h3, fun e => cur_cut ht (h4 e), h5⟩
  · trivial

theorem GV.cut {n : Nat} (hn : n ≤ ob.length) {v : VV} {x : Value} (hi : v.ids n = true) (h : GV B ob g w v x) : GV B (ob.take n) (ghCut g n) w v x := by
  refine ⟨h.rep.mono (n := n) (fun _ _ _ => rfl) (fun _ => Nat.le_refl _) (fun i b hlt hb => by show (if i < n then g.tb i else none) = _; rw [if_pos hlt]; exact hb) hi, ?_, by simpa [Nat.min_eq_left hn] using hi⟩
  have hd := h.hnd
  unfold Hnd at hd ⊢
  split at hd
  · rename_i cs xs
    intro j v x hv hx
    simp only [VV.ids] at hi
    obtain ⟨hj, rfl⟩ := List.getElem?_eq_some_iff.1 hv
    exact hnd1_cut (idsL_get hi j hj) (hd j _ x hv hx)
  · rename_i cs xs
    intro j v x hv hx
    simp only [VV.ids] at hi
    obtain ⟨hj, rfl⟩ := List.getElem?_eq_some_iff.1 hv
    have hvi := idsL_get hi j hj
    refine ⟨hnd1_cut hvi (hd j _ x hv hx).1, fun ds ys e1 e2 k u y hu hy => ?_⟩
    rw [e1] at hvi
    simp only [VV.ids] at hvi
    obtain ⟨hk, rfl⟩ := List.getElem?_eq_some_iff.1 hu
    exact hnd1_cut (idsL_get hvi k hk) ((hd j _ x hv hx).2 ds ys e1 e2 k _ y hu hy)
  · exact hnd1_cut hi hd

theorem HInv.cut (H : HInv B w0 ob g w) {n : Nat} (hn : n ≤ ob.length) (ho : (ob.take n).all (Obj.idsB n) = true) : HInv B w0 (ob.take n) (ghCut g n) w := by
  have hl : (ob.take n).length = n := by simp; omega
  refine ⟨H.below, H.hB, H.fz, H.f0, H.c0, fun i b h => ?_, fun i b h => ?_, fun i j b h h' => ?_, fun i j b h h' => ?_, fun i j b h h' => ?_, fun i hi => ?_⟩
  · simp only [ghCut] at h; split at h
    · rw [hl]; exact ⟨by assumption, (H.tbl i b h).2⟩
    · cases h
  · simp only [ghCut] at h; split at h
    · rw [hl]; exact ⟨by assumption, (H.kbl i b h).2⟩
    · cases h
  · simp only [ghCut] at h h'; split at h <;> split at h' <;> first | cases h | cases h' | exact H.inj _ _ _ h h'
  · simp only [ghCut] at h h'; split at h <;> split at h' <;> first | cases h | cases h' | exact H.injk _ _ _ h h'
  · simp only [ghCut] at h h'; split at h <;> split at h' <;> first | cases h | cases h' | exact H.apart _ _ _ h h'
  · have hi' : i < ob.length := by rw [hl] at hi; omega
    have hin : i < n := by rw [hl] at hi; exact hi
    have hids := List.all_eq_true.1 ho _ (List.getElem_mem hi)
    rw [List.getElem_take] at hids ⊢
    have h := H.obs i hi'
    revert h hids
    generalize ob[i] = X
    intro hids h
    have htb : ∀ b, g.tb i = some b → (ghCut g n).tb i = some b := fun b hb => by show (if i < n then g.tb i else none) = _; rw [if_pos hin]; exact hb
    cases X with
    | cells cs =>
      obtain ⟨b, arr, ty, h1, h2, h3, h4, hl, h5⟩ := h
      exact ⟨b, arr, ty, htb b h1, h2, h3, h4, hl, fun j hj => ⟨(h5 j hj).1, (h5 j hj).2.cut hn (idsL_get hids j hj)⟩⟩
    | map es =>
      obtain ⟨b, arr, ty, h1, h2, h3, h4, hl, h5⟩ := h
      exact ⟨b, arr, ty, htb b h1, h2, h3, h4, hl, fun j hj => ⟨(h5 j hj).1, (h5 j hj).2.1, rep_keep (fun _ _ _ => rfl) (fun _ => Nat.le_refl _) _ _ (h5 j hj).1 (h5 j hj).2.2.1, (h5 j hj).2.2.2.cut hn (List.all_eq_true.1 hids _ (List.getElem_mem hj))⟩⟩
    | siter s pos =>
      obtain ⟨b, bs, h1, h2, h3, h4, h5⟩ := h
      exact ⟨b, bs, htb b h1, h2, h3, h4, h5⟩
    | tok m sz => exact ⟨h.1, by show (if i < n then g.tb i else none) = _; rw [if_pos hin]; exact h.2⟩
    | loop nt env ps a b' st pend =>
      obtain ⟨b, r, h1, h2, h3, h4, h5, h6, h7⟩ := h
      exact ⟨b, r, htb b h1, h2, h3, h4, h5, fun s => (h6 s).cut hn (get_all hids s), h7⟩
    | dfr =>
      obtain ⟨b, h1, h2, h3, h4⟩ := h
      exact ⟨b, htb b h1, h2, h3, h4⟩
    | miter m left cur =>
      obtain ⟨b, bm, arr, clock, since, seen, c0, h1, h2, h3, h4, h5, h6, h7, h8, h9, h10, h11, ⟨hl2, h12⟩, h13⟩ := h
      have hm : m < n := by simpa [Obj.idsB] using hids
      have he : ∀ e x, EntR w g.F g.tb e x → EntR w (ghCut g n).F (ghCut g n).tb e x := fun e x h => ⟨h.1, h.2.1, rep_keep (fun _ _ _ => rfl) (fun _ => Nat.le_refl _) _ _ h.1 h.2.2.1, rep_keep (fun _ _ _ => rfl) (fun _ => Nat.le_refl _) _ _ h.2.1 h.2.2.2⟩
      exact ⟨b, bm, arr, clock, since, seen, c0, htb b h1, h2, h3, h4, by rw [nthO_take hm]; exact h5, by show (if m < n then g.tb m else none) = _; rw [if_pos hm]; exact h6, h7, h8, h9, h10, h11, ⟨hl2, fun j hj => he _ _ (h12 j hj)⟩, fun e q => by obtain ⟨x, y1, y2, y3⟩ := h13 e q; exact ⟨x, y1, y2, he _ _ y3⟩⟩
    | gone => trivial
    | resv => exact (by show (if i < n then g.tb i else none) = _; rw [if_pos hin]; exact h)

theorem marks_cut {n : Nat} (hn : n ≤ ob.length) : ∀ {l : List Nat} {ds : List Deferred}, l.all (fun o => decide (o < n)) = true → Marks B ob g w l ds → Marks B (ob.take n) (ghCut g n) w l ds
  | [], _, _, h => h
  | o :: r, _, hl, ⟨b, es, h1, h2, h3⟩ => by
    simp only [List.all_cons, Bool.and_eq_true] at hl
    exact ⟨b, es, h1, h2.cut hn (by simpa [VV.ids] using hl.1), marks_cut hn hl.2 h3⟩

theorem drop_sound (S : SInv B w0 st g nt D a w) {slots : List Nat} {k : Option Nat} {st' : St} (h : dropW st slots k = some st') : ∃ g', SInv B w0 st' g' nt D a w := by
  unfold dropW at h
  split at h
  · cases h
    refine ⟨g, S.H, fun s => ?_, S.n, S.d, S.k⟩
    rcases get_keep st.env slots s with q | q <;> simp only [q]
    · exact S.e s
    · exact GV.dead
  · split at h
    · rename_i k hcond
      cases h
      obtain ⟨h1, hm, h2, h3⟩ := hcond
      refine ⟨ghCut g (st.base + k), S.H.cut h1 h3, fun s => ?_, S.n, marks_cut h1 hm S.d, ⟨fun v x h => ⟨(S.k.1 v x h).1.cut h1 ((ids_mono (Nat.le_add_right _ _)).1 v (S.k.1 v x h).2), (S.k.1 v x h).2⟩, S.k.2⟩⟩
      have hi := get_all h2 s
      have hg : GV B st.ob g w (get (keepE st.env slots) s) (a.tmps.getD s Go.undef) := by
        rcases get_keep st.env slots s with q | q <;> simp only [q]
        · exact S.e s
        · exact GV.dead
      exact hg.cut h1 hi
    · cases h

theorem get_scal (env : List (Nat × VV)) (s : Nat) : get (scalE env) s = (get env s).scalV := by
  induction env with
  | nil => rfl
  | cons p r ih =>
    obtain ⟨k, v⟩ := p
    simp only [scalE, get]
    by_cases e : k = s
    · rw [if_pos e, if_pos e]
    · rw [if_neg e, if_neg e]; exact ih

theorem scal_GV {B' : Nat} {ob' : List Obj} {g' : Gh} {w' : World} {v : VV} {x : Value} (h : GV B ob g w v x) : GV B' ob' g' w' v.scalV x := by
  unfold VV.scalV
  split
  · rename_i hs
    have hr := h.rep
    cases v <;> simp only [VV.scalC, Bool.false_eq_true] at hs
    · cases hr; exact ⟨.int _ _, trivial, rfl⟩
    · cases hr; exact ⟨.bool _, trivial, rfl⟩
    · cases hr with
      | str hq => exact ⟨.str hq, trivial, rfl⟩
  · exact GV.dead

theorem scal_rep {B' : Nat} {ob' : List Obj} {g' : Gh} {w' : World} {F : Nat → Nat} {tb : Nat → Option Nat} {v : VV} {x : Value} (hs : v.scalC = true) (hr : Rep w F tb v x) : GV B' ob' g' w' v x := by
  cases v <;> simp only [VV.scalC, Bool.false_eq_true] at hs
  · cases hr; exact ⟨.int _ _, trivial, rfl⟩
  · cases hr; exact ⟨.bool _, trivial, rfl⟩
  · cases hr with
    | str h => exact ⟨.str h, trivial, rfl⟩

theorem clash_no {F F' : Nat → Nat} {tb tb' : Nat → Option Nat} {u v : VV} {x : Value} (h : clash0 u v = true) (h1 : Rep w F tb u x) (h2 : Rep w F' tb' v x) : False := by
  cases u <;> cases v <;> simp only [clash0, Bool.false_eq_true, Bool.not_eq_true', Bool.and_eq_false_iff, decide_eq_false_iff_not] at h <;> cases h1 <;> cases h2
  · rcases h with h | h <;> exact h rfl
  · exact h rfl
  · rename_i q1 q2
    exact h (q1.symm.trans q2)
theorem sepL_get {out : List VV} : ∀ {l : List VV}, sepL out l = true → ∀ j (h : j < l.length), sepV out l[j] = true
  | [], _, j, h => absurd h (by simp)
  | v :: r, hl, 0, _ => by simp only [sepL, Bool.and_eq_true] at hl; exact hl.1
  | v :: r, hl, j + 1, h => by
    simp only [sepL, Bool.and_eq_true] at hl
    exact sepL_get hl.2 j (by simpa using h)
theorem sepV_cells {out : List VV} {v : VV} (h : sepV out v = true) (j : Nat) (hj : j < v.cells.length) : sepV out v.cells[j] = true := by
  cases v with
  | agg cs =>
    simp only [sepV] at h
    exact sepL_get h j hj
  | _ =>
    simp only [VV.cells, List.length_cons, List.length_nil] at hj
    obtain rfl : j = 0 := by omega
    exact h
theorem sep_rep {F : Nat → Nat} {tb tb' : Nat → Option Nat} {out : List VV} {b : Nat} {f : Nat → Value} (hF : F b = out.length)
    (hc : ∀ j (h : j < out.length), w.cell? ⟨b, j, none⟩ = some (f j) ∧ Rep w F tb out[j] (f j)) {v : VV} {x : Value} (h : Rep w F tb v x) : sepV out v = true → Rep w (updF F b 0) tb' v x := by
  induction h with
  | int k n => exact fun _ => .int k n
  | bool b => exact fun _ => .bool b
  | str h => exact fun _ => .str h
  | slE => exact fun _ => .slE
  | @sl es t b1 o cap sz vals hne hcap hsz hcc h hr hFb ih =>
    intro hs
    simp only [sepV, Bool.and_eq_true] at hs
    obtain ⟨⟨_, hcl⟩, hl⟩ := hs
    have hlen : 0 < es.length := List.length_pos_iff.2 hne
    have hbb : b1 ≠ b := by
      rintro rfl
      have h0 := (hcc 0 hlen).2
      have hmul : 1 * sz ≤ es.length * sz := Nat.mul_le_mul_right _ hlen
      have ho : o < out.length := by omega
      obtain ⟨q1, q2⟩ := hc o ho
      have q3 := h 0 hlen 0 (by omega)
      simp only [Nat.zero_mul, Nat.add_zero] at q3
      rw [q1] at q3
      have q4 := Option.some.inj q3
      have q5 := hr 0 hlen 0 (by omega)
      rw [← q4] at q5
      cases es with
      | nil => exact hne rfl
      | cons e r =>
        simp only [hdClash] at hcl
        simp only [List.getElem_cons_zero] at q5 h0
        cases hec : e.cells with
        | nil => rw [hec] at h0; simp at h0; omega
        | cons c cr =>
          rw [hec] at hcl
          simp only at hcl
          have := List.all_eq_true.1 hcl _ (List.getElem_mem ho)
          have q6 : e.cells[0]'(by rw [hec]; simp) = c := by simp [hec]
          rw [q6] at q5
          exact clash_no this q5 q2
    refine .sl vals hne hcap hsz hcc h (fun i hi j hj => ih i hi j hj (sepV_cells (sepL_get hl i hi) j hj)) ?_
    rw [updF_ne _ _ hbb]; exact hFb
  | agg hl hcc hr ih =>
    intro hs
    exact .agg hl hcc fun j hj => ih j hj (sepL_get (by simpa [sepV] using hs) j hj)
  | _ => intro hs; simp [sepV] at hs
theorem scal_sep {out : List VV} {c : VV} (h : c.scalC = true) : sepC out c = true := by
  cases c <;> simp_all [VV.scalC, sepC, VV.canon0, sepV]
theorem thawOk_sep {es : List VV} (h : thawOk es = true) : es.all (fun v => v.cells.all (sepC (es.flatMap VV.cells))) = true := by
  unfold thawOk at h
  rw [Bool.or_eq_true] at h
  rcases h with h | h
  · rw [List.all_eq_true] at h ⊢
    intro v hv
    have := h v hv
    rw [List.all_eq_true] at this ⊢
    exact fun c hc => scal_sep (this c hc)
  · exact h
theorem sep_GV {B' : Nat} {ob' : List Obj} {g' : Gh} {F : Nat → Nat} {tb : Nat → Option Nat} {out : List VV} {b : Nat} {f : Nat → Value} (hg : g'.F = updF F b 0) (hF : F b = out.length)
    (hc : ∀ j (h : j < out.length), w.cell? ⟨b, j, none⟩ = some (f j) ∧ Rep w F tb out[j] (f j)) {c : VV} {x : Value} (hs : sepC out c = true) (hr : Rep w F tb c x) : GV B' ob' g' w c x := by
  simp only [sepC, Bool.and_eq_true] at hs
  have q := sep_rep (tb' := g'.tb) hF hc hr hs.2
  rw [← hg] at q
  refine ⟨q, ?_, canon0_ids _ hs.1⟩
  have h1 := hs.1
  cases c with
  | sl es t => simp only [VV.canon0, beq_iff_eq] at h1; subst h1; exact Hnd.sl.2 trivial
  | agg cs => simp [VV.canon0] at h1
  | tup cs => simp [VV.canon0] at h1
  | _ => trivial

theorem hndAt_at : ∀ {cs : List VV} {j : Nat} {es : List VV} {t : Nat}, hndAt cs = some (j, es, t) → ∃ h : j < cs.length, cs[j] = .sl es (t + 2)
  | [], _, _, _, h => by simp [hndAt] at h
  | v :: r, j, es, t, h => by
    unfold hndAt at h
    split at h
    · cases h
    · rename_i heq
      cases heq
      cases h
      exact ⟨by simp, rfl⟩
    · rename_i heq
      cases heq
      simp only [Option.map_eq_some_iff] at h
      obtain ⟨⟨j', p⟩, h1, h2⟩ := h
      cases h2
      obtain ⟨q1, q2⟩ := hndAt_at h1
      exact ⟨by simpa using q1, by simpa using q2⟩
theorem rowAt_at : ∀ {cs : List VV} {j o off ln : Nat}, rowAt cs = some (j, o, off, ln) → ∃ h : j < cs.length, cs[j] = .row o off ln
  | [], _, _, _, _, h => by simp [rowAt] at h
  | v :: r, j, o, off, ln, h => by
    unfold rowAt at h
    split at h
    · cases h
    · rename_i heq
      cases heq
      cases h
      exact ⟨by simp, rfl⟩
    · rename_i heq
      cases heq
      simp only [Option.map_eq_some_iff] at h
      obtain ⟨⟨j', p⟩, h1, h2⟩ := h
      cases h2
      obtain ⟨q1, q2⟩ := rowAt_at h1
      exact ⟨by simpa using q1, by simpa using q2⟩

theorem get_safe (ob : List Obj) (env : List (Nat × VV)) (s : Nat) : get (safeE ob env) s = (get env s).safeV ob := by
  induction env with
  | nil => rfl
  | cons p r ih =>
    obtain ⟨k, v⟩ := p
    simp only [safeE, get]
    by_cases e : k = s
    · rw [if_pos e, if_pos e]
    · rw [if_neg e, if_neg e]; exact ih

theorem flat_cells {es : List VV} {t m cap sz b : Nat} {arr : Array Value} {ty : TypeId} {F : Nat → Nat} {tb : Nat → Option Nat} (hne' : es ≠ []) (hel : ∀ i (h : i < es.length), es[i].cells.length = sz)
    (k4 : w.heap[b]? = some (.cells arr ty (0, 0))) (hle : es.length * sz ≤ arr.size) (hr : Rep w F tb (.sl es t) (.slice (some ⟨b, 0, none⟩) m cap)) :
    ∀ j (hj : j < (es.flatMap VV.cells).length), ∃ h9 : j < arr.size, Rep w F tb (es.flatMap VV.cells)[j] arr[j] ∧ ∃ (i2 k : Nat) (h1 : i2 < es.length) (hk : k < es[i2].cells.length), (es.flatMap VV.cells)[j] = es[i2].cells[k] := by
  intro j hj
  have hel' : ∀ e ∈ es, e.cells.length = sz := fun e he => by
    obtain ⟨i, hi, rfl⟩ := List.getElem_of_mem he
    exact hel i hi
  have hlen0 : 0 < es.length := List.length_pos_iff.2 hne'
  have hfl := flat_len hel'
  cases hr with
  | slE => exact absurd rfl hne'
  | @sl _ _ _ _ _ sz1 vals hne2 hcap hsz hc hcl hrp hF =>
    have hszz : sz1 = sz := by
      have h1 := (hc 0 hlen0).2
      have h2 := hel 0 hlen0
      omega
    subst hszz
    obtain ⟨i2, k, h1, h2, h3, h4⟩ := flat_get hel' j hj
    have hk : k < es[i2].cells.length := by rw [hel i2 h1]; exact h2
    have h5 := h4 h1 hk
    rw [List.getElem?_eq_getElem hj] at h5
    have h6 := Option.some.inj h5
    have h8 := hcl i2 h1 k hk
    have h9 : j < arr.size := by omega
    have h10 : arr[j] = vals i2 k := by
      simp only [Nat.zero_add, ← h3] at h8
      simp [World.cell?, k4, h9] at h8
      exact h8
    refine ⟨h9, ?_, i2, k, h1, hk, h6⟩
    rw [h10, h6]
    exact hrp i2 h1 k hk

theorem thaw_sound (S : SInv B w0 st g nt D a w) {s : Nat} {st' : St} (h : thawW st s = some st') : ∃ g', SInv B w0 st' g' nt D a w := by
  unfold thawW at h
  split at h
  · cases h; exact ⟨g, S⟩
  · rename_i es t he
    split at h
    · cases h; exact ⟨g, S⟩
    · rename_i hne
      split at h
      · rename_i t
        split at h
        · rename_i n sz0 ho
          split at h
          · rename_i hcond
            obtain ⟨c1, c2, c3, c4⟩ := hcond
            cases h
            have hge := S.e s
            rw [he] at hge
            have hh := Hnd.sl.1 hge.hnd
            obtain ⟨n', sz, q1, q2, q3, q4, q5⟩ := hh
            rw [ho] at q1
            cases q1
            have hne' : es ≠ [] := by simpa using hne
            have hlen0 : 0 < es.length := List.length_pos_iff.2 hne'
            have htl := nthO_ne_gone (ob := st.ob) (i := t) (by rw [ho]; simp)
            rcases q4 c3 with ⟨a0, _, e0⟩ | ⟨b, o, cap, arr, ty, k1, k2, k3, k4, k5, k6, k7, k8, rfl⟩
            · omega
            · have hel : ∀ e ∈ es, e.cells.length = sz0 := fun e he => by
                obtain ⟨i, hi, rfl⟩ := List.getElem_of_mem he
                exact q5 i hi
              have hblt := lt_of_heap k4
              refine ⟨{ F := updF g.F b 0, tb := fun i => if i = t then some b else none, kb := fun _ => none, cm := g.cm }, ⟨S.H.below, S.H.hB, fun b' hb' => ?_, fun b' hb' => ?_, S.H.c0, fun i b' h => ?_, fun i b' h => ?_, fun i j b' h h' => ?_, fun i j b' h h' => ?_, fun i j b' h h' => ?_, fun i hi => ?_⟩, fun q => ?_, S.n, ?_, ⟨fun v x hk => absurd hk (S.k.2 c1 v x), S.k.2⟩⟩
              · show updF _ _ _ _ = _
                rw [updF_ne _ _ (by omega)]; exact S.H.fz b' hb'
              · show updF _ _ _ _ = _
                rw [updF_ne _ _ (by omega)]; exact S.H.f0 b' hb'
              · simp only at h
                split at h
                · rename_i e; subst e; cases h; simp; exact ⟨htl, hblt⟩
                · cases h
              · cases h
              · simp only at h h'
                split at h <;> split at h'
                · omega
                · cases h'
                · cases h
                · cases h
              · cases h
              · cases h'
              · have hi' : i < st.ob.length := by simpa using hi
                by_cases e : i = t
                · subst e
                  simp only [List.getElem_set_self]
                  have hfl := flat_len hel
                  have hr := hge.rep
                  rw [k2] at hr
                  have hle : es.length * sz0 ≤ arr.size := by
                    have := Nat.mul_le_mul_right sz0 k3
                    rw [← c3] at this
                    omega
                  have hfc := flat_cells hne' q5 k4 hle hr
                  refine ⟨b, arr, ty, by simp, k7, by show updF _ _ _ _ = _; simp, .new k4, by rw [hfl]; exact hle, fun j hj => ?_⟩
                  obtain ⟨h9, hrep, i2, k, h1, hk, h6⟩ := hfc j hj
                  have h7 := List.all_eq_true.1 (List.all_eq_true.1 (thawOk_sep c4) _ (List.getElem_mem h1)) _ (List.getElem_mem hk)
                  rw [← h6] at h7
                  have h7c : (es.flatMap VV.cells)[j].canon0 = true := by simp only [sepC, Bool.and_eq_true] at h7; exact h7.1
                  refine ⟨canon0_isCell h7c, sep_GV (b := b) (F := g.F) (tb := g.tb) (f := fun j => arr.getD j Go.undef) rfl (by rw [hfl, c3]; omega) (fun j2 hj2 => ?_) h7 hrep⟩
                  obtain ⟨h92, hrep2, _⟩ := hfc j2 hj2
                  exact ⟨by simp [World.cell?, k4, h92], by simpa [h92] using hrep2⟩
                · rw [List.getElem_set_ne (fun q => e q.symm)]
                  simp only [List.getElem_map]
                  trivial
              · show GV B _ _ w (get (put (scalE st.env) s _) q) _
                rw [get_put]
                split
                · rename_i e
                  subst e
                  rw [k2]
                  exact ⟨.row (by simp) k3, trivial, by simp [VV.ids]; exact htl⟩
                · rw [get_scal]
                  exact scal_GV (S.e q)
              · show Marks B _ _ w st.marks a.defers
                have := S.d
                rw [c2] at this ⊢
                exact this
          · cases h
        · cases h
      · cases h
  · rename_i o he
    split at h
    · rename_i es t hco
      split at h
      · rename_i n sz0 ho
        split at h
        · rename_i hcond
          obtain ⟨c1, c2, c3, c0, c4⟩ := hcond
          cases h
          have hgs := S.e s
          rw [he] at hgs
          obtain ⟨bo, hxs, htbo⟩ := hgs.ptr_inv
          obtain ⟨hlto, bo', arro, tyo, m1, m2, m3, ⟨fro, hfro, m4⟩, m5, m6⟩ := S.H.get hco (by simp)
          rw [htbo] at m1; cases m1
          have hsz1 : 0 < arro.size := by simp at m5; omega
          have hge : GV B st.ob g w (.sl es (t + 2)) (arro[0]'hsz1) := (m6 0 (by simp)).2
          obtain ⟨n', sz, q1, q2, q3, q4, q5⟩ := Hnd.sl.1 hge.hnd
          rw [ho] at q1
          cases q1
          have hne' : es ≠ [] := by intro e; subst e; simp at c0
          have hlen0 : 0 < es.length := List.length_pos_iff.2 hne'
          have htl := nthO_ne_gone (ob := st.ob) (i := t) (by rw [ho]; simp)
          have hot : o ≠ t := by rintro rfl; rw [hco] at ho; cases ho
          rcases q4 c3 with ⟨a0, _, e0⟩ | ⟨b, o1, cap, arr, ty, k1, k2, k3, k4, k5, k6, k7, k8, rfl⟩
          · omega
          · have hbb : bo ≠ b := fun e => S.H.apart _ _ _ htbo (e ▸ k1)
            have hel : ∀ e ∈ es, e.cells.length = sz0 := fun e he => by
              obtain ⟨i, hi, rfl⟩ := List.getElem_of_mem he
              exact q5 i hi
            have hblt := lt_of_heap k4
            have hbolt := lt_of_heap m4
            have htbt : ∀ i b', (if i = t then some b else if i = o then some bo else none) = some b' → (i = t ∧ b' = b) ∨ (i = o ∧ b' = bo) := fun i b' h => by
              split at h
              · rename_i e; cases h; exact .inl ⟨e, rfl⟩
              · split at h
                · rename_i e; cases h; exact .inr ⟨e, rfl⟩
                · cases h
            refine ⟨{ F := updF g.F b 0, tb := fun i => if i = t then some b else if i = o then some bo else none, kb := fun _ => none, cm := g.cm }, ⟨S.H.below, S.H.hB, fun b' hb' => ?_, fun b' hb' => ?_, S.H.c0, fun i b' h => ?_, fun i b' h => ?_, fun i j b' h h' => ?_, fun i j b' h h' => ?_, fun i j b' h h' => ?_, fun i hi => ?_⟩, fun q => ?_, S.n, ?_, ⟨fun v x hk => absurd hk (S.k.2 c1 v x), S.k.2⟩⟩
            · show updF _ _ _ _ = _
              rw [updF_ne _ _ (by omega)]; exact S.H.fz b' hb'
            · show updF _ _ _ _ = _
              rw [updF_ne _ _ (by omega)]; exact S.H.f0 b' hb'
            · rcases htbt i b' h with ⟨rfl, rfl⟩ | ⟨rfl, rfl⟩
              · simp; exact ⟨htl, hblt⟩
              · simp; exact ⟨hlto, hbolt⟩
            · cases h
            · rcases htbt i b' h with ⟨rfl, rfl⟩ | ⟨rfl, rfl⟩ <;> rcases htbt j _ h' with ⟨rfl, e⟩ | ⟨rfl, e⟩
              · rfl
              · exact absurd e.symm hbb
              · exact absurd e hbb
              · rfl
            · cases h
            · cases h'
            · have hi' : i < st.ob.length := by simpa using hi
              by_cases eo : i = o
              · subst eo
                simp only [List.getElem_set_self]
                refine ⟨bo, arro, tyo, by simp [hot], m2, by show updF _ _ _ _ = _; rw [updF_ne _ _ hbb]; exact m3, ⟨fro, hfro, m4⟩, by simp; omega, fun j hj => ?_⟩
                have hj0 : j = 0 := by simp at hj; omega
                subst hj0
                refine ⟨rfl, ?_⟩
                simp only [List.getElem_cons_zero]
                rw [k2]
                exact ⟨.row (by simp) k3, trivial, by simp [VV.ids]; exact htl⟩
              · rw [List.getElem_set_ne (fun q => eo q.symm)]
                by_cases e : i = t
                · subst e
                  simp only [List.getElem_set_self]
                  have hfl := flat_len hel
                  have hr := hge.rep
                  rw [k2] at hr
                  cases hr with
                  | slE => exact absurd rfl hne'
                  | @sl _ _ _ _ _ sz vals hne2 hcap hsz hc hcl hrp hF =>
                    have hszz : sz = sz0 := by
                      have h1 := (hc 0 hlen0).2
                      have h2 := q5 0 hlen0
                      omega
                    subst hszz
                    have hle : es.length * sz ≤ arr.size := by
                      have := Nat.mul_le_mul_right sz hcap
                      omega
                    refine ⟨b, arr, ty, by simp, k7, by show updF _ _ _ _ = _; simp, .new k4, by rw [hfl]; exact hle, fun j hj => ?_⟩
                    obtain ⟨i2, k, h1, h2, h3, h4⟩ := flat_get hel j hj
                    have hk : k < es[i2].cells.length := by rw [q5 i2 h1]; exact h2
                    have h5 := h4 h1 hk
                    rw [List.getElem?_eq_getElem hj] at h5
                    have h6 := Option.some.inj h5
                    have h7 := List.all_eq_true.1 (List.all_eq_true.1 c4 _ (List.getElem_mem h1)) _ (List.getElem_mem hk)
                    have h8 := hcl i2 h1 k hk
                    have h9 : j < arr.size := by omega
                    have h10 : arr[j] = vals i2 k := by
                      simp only [Nat.zero_add, ← h3] at h8
                      simp [World.cell?, k4, h9] at h8
                      exact h8
                    rw [h6]
                    refine ⟨?_, ?_⟩
                    · revert h7; generalize es[i2].cells[k] = u; intro h7; cases u <;> simp_all [VV.scalC, VV.isCell]
                    · refine scal_rep h7 (w := w) (F := g.F) (tb := g.tb) ?_
                      have := hrp i2 h1 k hk
                      rw [← h10] at this
                      exact this
                · rw [List.getElem_set_ne (fun q => e q.symm)]
                  simp only [List.getElem_map]
                  trivial
            · show GV B _ _ w (get (put (scalE st.env) s _) q) _
              rw [get_put]
              split
              · rename_i e
                subst e
                rw [hxs]
                exact ⟨.ptr (by simp [hot]), trivial, by simp [VV.ids]; exact hlto⟩
              · rw [get_scal]
                exact scal_GV (S.e q)
            · show Marks B _ _ w st.marks a.defers
              have := S.d
              rw [c2] at this ⊢
              exact this
        · cases h
      · cases h
    · cases h; exact ⟨g, S⟩
    · rename_i cs _ _ hco
      split at h
      · rename_i jj es t hat
        split at h
        · rename_i n sz0 ho
          split at h
          · rename_i hcond
            obtain ⟨c1, c2, c3, c0, c4⟩ := hcond
            cases h
            obtain ⟨hjl, hjc⟩ := hndAt_at hat
            unfold thawB at c4
            rw [Bool.and_eq_true] at c4
            obtain ⟨c4, c5⟩ := c4
            have hgs := S.e s
            rw [he] at hgs
            obtain ⟨bo, hxs, htbo⟩ := hgs.ptr_inv
            obtain ⟨hlto, bo', arro, tyo, m1, m2, m3, ⟨fro, hfro, m4⟩, m5, m6⟩ := S.H.get hco (by simp)
            rw [htbo] at m1; cases m1
            have hge : GV B st.ob g w (.sl es (t + 2)) (arro[jj]'(by omega)) := by
              have := (m6 jj hjl).2
              rw [hjc] at this
              exact this
            obtain ⟨n', sz, q1, q2, q3, q4, q5⟩ := Hnd.sl.1 hge.hnd
            rw [ho] at q1
            cases q1
            have hne' : es ≠ [] := by intro e; subst e; simp at c0
            have hlen0 : 0 < es.length := List.length_pos_iff.2 hne'
            have htl := nthO_ne_gone (ob := st.ob) (i := t) (by rw [ho]; simp)
            have hot : o ≠ t := by rintro rfl; rw [hco] at ho; cases ho
            rcases q4 c3 with ⟨a0, _, e0⟩ | ⟨b, o1, cap, arr, ty, k1, k2, k3, k4, k5, k6, k7, k8, rfl⟩
            · omega
            · have hbb : bo ≠ b := fun e => S.H.apart _ _ _ htbo (e ▸ k1)
              have hel : ∀ e ∈ es, e.cells.length = sz0 := fun e he => by
                obtain ⟨i, hi, rfl⟩ := List.getElem_of_mem he
                exact q5 i hi
              have hblt := lt_of_heap k4
              have hbolt := lt_of_heap m4
              have hfl := flat_len hel
              have hr := hge.rep
              rw [k2] at hr
              have hle : es.length * sz0 ≤ arr.size := by
                have := Nat.mul_le_mul_right sz0 k3
                rw [← c3] at this
                omega
              have hfc := flat_cells hne' q5 k4 hle hr
              have hFb : g.F b = (es.flatMap VV.cells).length := by rw [hfl, c3]; omega
              have hcc : ∀ j (h : j < (es.flatMap VV.cells).length), w.cell? ⟨b, j, none⟩ = some (arr.getD j Go.undef) ∧ Rep w g.F g.tb (es.flatMap VV.cells)[j] (arr.getD j Go.undef) := fun j2 hj2 => by
                obtain ⟨h92, hrep2, _⟩ := hfc j2 hj2
                exact ⟨by simp [World.cell?, k4, h92], by simpa [h92] using hrep2⟩
              obtain ⟨ob', hob'⟩ : ∃ ob', ob' = thawObs st.ob es cs o t jj n := ⟨_, rfl⟩
              have hlen' : ob'.length = st.ob.length := by rw [hob']; simp [thawObs]
              have ho_o : nthO ob' o = .cells (cs.set jj (.row t 0 n)) := by rw [hob', thawObs, nthO_set, if_pos ⟨rfl, by simpa using hlto⟩]
              have ho_t : nthO ob' t = .cells (es.flatMap VV.cells) := by rw [hob', thawObs, nthO_set, if_neg (fun q => hot q.1.symm), nthO_set, if_pos ⟨rfl, by simpa using htl⟩]
              have ho_i : ∀ i, i < st.ob.length → i ≠ o → i ≠ t → nthO ob' i = safeO (es.flatMap VV.cells) (nthO st.ob i) := fun i hi e1 e2 => by
                rw [hob', thawObs, nthO_set, if_neg (fun q => e1 q.1), nthO_set, if_neg (fun q => e2 q.1)]
                rw [nthO_lt (by simpa using hi), nthO_lt hi, List.getElem_map]
              rw [← hob'] at *
              have htt : g.tb t = none := by
                have := S.H.obs t htl
                rw [← nthO_lt htl, ho] at this
                exact this.2
              have htbt : ∀ i b', (if i = t then some b else if (nthO ob' i).isC = true then g.tb i else none) = some b' → (i = t ∧ b' = b) ∨ (i ≠ t ∧ g.tb i = some b') := fun i b' h => by
                split at h
                · rename_i e; cases h; exact .inl ⟨e, rfl⟩
                · rename_i e
                  split at h
                  · exact .inr ⟨e, h⟩
                  · cases h
              refine ⟨{ F := updF g.F b 0, tb := fun i => if i = t then some b else if (nthO ob' i).isC = true then g.tb i else none, kb := fun _ => none, cm := g.cm }, ⟨S.H.below, S.H.hB, fun b' hb' => ?_, fun b' hb' => ?_, S.H.c0, fun i b' h => ?_, fun i b' h => ?_, fun i j b' h h' => ?_, fun i j b' h h' => ?_, fun i j b' h h' => ?_, fun i hi => ?_⟩, fun q => ?_, S.n, ?_, ⟨fun v x hk => absurd hk (S.k.2 c1 v x), S.k.2⟩⟩
              · show updF _ _ _ _ = _
                rw [updF_ne _ _ (by omega)]; exact S.H.fz b' hb'
              · show updF _ _ _ _ = _
                rw [updF_ne _ _ (by omega)]; exact S.H.f0 b' hb'
              · rcases htbt i b' h with ⟨rfl, rfl⟩ | ⟨_, q⟩
                · exact ⟨by rw [hlen']; exact htl, hblt⟩
                · rw [hlen']; exact S.H.tbl _ _ q
              · cases h
              · rcases htbt i b' h with ⟨e1, rfl⟩ | ⟨_, q⟩ <;> rcases htbt j _ h' with ⟨e2, e⟩ | ⟨_, q'⟩
                · omega
                · exact absurd k1 (fun k1 => S.H.apart _ _ _ q' k1)
                · exact absurd k1 (fun k1 => S.H.apart _ _ _ q (e ▸ k1))
                · exact S.H.inj _ _ _ q q'
              · cases h
              · cases h'
              · have hi' : i < st.ob.length := by rw [hlen'] at hi; exact hi
                rw [← nthO_lt hi]
                by_cases eo : i = o
                · subst eo
                  rw [ho_o]
                  refine ⟨bo, arro, tyo, by simp [hot, ho_o, Obj.isC, htbo], m2, by show updF _ _ _ _ = _; rw [updF_ne _ _ hbb]; exact m3, ⟨fro, hfro, m4⟩, by simpa using m5, fun j hj => ?_⟩
                  have hj' : j < cs.length := by simpa using hj
                  by_cases ej : j = jj
                  · subst ej
                    simp only [List.getElem_set_self]
                    refine ⟨rfl, ?_⟩
                    rw [k2]
                    exact ⟨.row (by simp) k3, trivial, by simp [VV.ids, hlen']; exact htl⟩
                  · have h7 := List.all_eq_true.1 c5 _ (List.getElem_mem (l := cs.set jj (.bool true)) (n := j) (by simpa using hj'))
                    rw [List.getElem_set_ne (fun q => ej q.symm)] at h7 ⊢
                    exact ⟨(m6 j hj').1, sep_GV (b := b) (F := g.F) (tb := g.tb) (f := fun j => arr.getD j Go.undef) rfl hFb hcc h7 (m6 j hj').2.rep⟩
                · by_cases e : i = t
                  · subst e
                    rw [ho_t]
                    refine ⟨b, arr, ty, by simp, k7, by show updF _ _ _ _ = _; simp, .new k4, by rw [hfl]; exact hle, fun j hj => ?_⟩
                    obtain ⟨h9, hrep, i2, k, h1, hk, h6⟩ := hfc j hj
                    have h7 := List.all_eq_true.1 (List.all_eq_true.1 c4 _ (List.getElem_mem h1)) _ (List.getElem_mem hk)
                    rw [← h6] at h7
                    have h7c : (es.flatMap VV.cells)[j].canon0 = true := by simp only [sepC, Bool.and_eq_true] at h7; exact h7.1
                    exact ⟨canon0_isCell h7c, sep_GV (b := b) (F := g.F) (tb := g.tb) (f := fun j => arr.getD j Go.undef) rfl hFb hcc h7 hrep⟩
                  · have hoi := ho_i i hi' eo e
                    have hobs := S.H.obs i hi'
                    rw [← nthO_lt hi'] at hobs
                    cases hX : nthO st.ob i with
                    | cells ds =>
                      rw [hX] at hobs hoi
                      simp only [safeO] at hoi
                      by_cases hs : ds.all (safeC (es.flatMap VV.cells)) = true
                      · rw [if_pos hs] at hoi
                        rw [hoi]
                        obtain ⟨b1, arr1, ty1, p1, p2, p3, p4, p5, p6⟩ := hobs
                        have hb1 : b1 ≠ b := fun e => S.H.apart _ _ _ p1 (e ▸ k1)
                        refine ⟨b1, arr1, ty1, by simp [e, hoi, Obj.isC, p1], p2, by show updF _ _ _ _ = _; rw [updF_ne _ _ hb1]; exact p3, p4, p5, fun j hj => ⟨(p6 j hj).1, ?_⟩⟩
                        have hsj := List.all_eq_true.1 hs _ (List.getElem_mem hj)
                        unfold safeC at hsj
                        rw [Bool.or_eq_true] at hsj
                        rcases hsj with hsj | hsj
                        · exact sep_GV (b := b) (F := g.F) (tb := g.tb) (f := fun j => arr.getD j Go.undef) rfl hFb hcc hsj (p6 j hj).2.rep
                        · have hr6 := (p6 j hj).2.rep
                          generalize ds[j] = v at hsj hr6 ⊢
                          cases v <;> simp only [VV.isNils, Bool.false_eq_true] at hsj
                          generalize arr1[j]'(Nat.lt_of_lt_of_le hj p5) = x at hr6 ⊢
                          cases hr6
                          exact ⟨.nils, trivial, rfl⟩
                      · rw [if_neg hs] at hoi
                        rw [hoi]; trivial
                    | _ => rw [hX] at hoi; rw [hoi]; trivial
              · show GV B _ _ w (get (put (safeE ob' st.env) s _) q) _
                rw [get_put]
                split
                · rename_i e
                  subst e
                  rw [hxs]
                  exact ⟨.ptr (by simp [hot, ho_o, Obj.isC, htbo]), trivial, by simp [VV.ids, hlen']; exact hlto⟩
                · rw [get_safe]
                  have hq := S.e q
                  unfold VV.safeV
                  split
                  · rename_i hsc
                    have := scal_GV (B' := B) (ob' := ob') (g' := { F := updF g.F b 0, tb := fun i => if i = t then some b else if (nthO ob' i).isC = true then g.tb i else none, kb := fun _ => none, cm := g.cm }) (w' := w) hq
                    rw [VV.scalV, if_pos hsc] at this
                    exact this
                  · split
                    · rename_i p f hp
                      split
                      · rename_i hC
                        rw [hp] at hq
                        obtain ⟨bp, hxp, htbp⟩ := hq.ptr_inv
                        rw [hxp]
                        have hpt : p ≠ t := by rintro rfl; rw [htt] at htbp; cases htbp
                        exact ⟨.ptr (by simp [hpt, hC, htbp]), trivial, by simp [VV.ids, hlen']; exact (S.H.tbl _ _ htbp).1⟩
                      · exact GV.dead
                    · exact GV.dead
              · show Marks B _ _ w st.marks a.defers
                have := S.d
                rw [c2] at this ⊢
                exact this
          · cases h
        · cases h
      · cases h
    · cases h
  · cases h

theorem frz_core (H : HInv B w0 ob g w) {o off ln n : Nat} {cs : List VV} (ho : nthO ob o = .cells cs) (c1 : off + ln * max n 1 ≤ cs.length) (c2 : (frzEs n off ln cs).all VV.canon = true) :
    ∃ g', HInv B w0 (ob.set o .gone) g' w ∧ Pres B ob g w (ob.set o .gone) g' w ∧ (∀ i b, g.tb i = some b → g'.tb i = some b) ∧
      ∀ x, Rep w g.F g.tb (.row o off ln) x → GV B (ob.set o .gone) g' w (.sl (frzEs n off ln cs) 0) x := by
  obtain ⟨hlt, b, arr, ty, h1, h2, h3, ⟨fr, hfr, h4⟩, hl, h5⟩ := H.get ho (by simp)
  have hblt := lt_of_heap h4
  have hF : ∀ b', g.F b' ≤ updF g.F b (off + ln * max n 1) b' := fun b' => by
    by_cases e : b' = b
    · subst e; rw [h3]; exact Nat.zero_le _
    · rw [updF_ne _ _ e]; exact Nat.le_refl _
  have hp : Pres B ob g w (ob.set o .gone) { g with F := updF g.F b (off + ln * max n 1) } w := by
    refine Pres.of (by simp) (fun _ _ _ => rfl) hF (fun _ _ _ h => h) fun t m sz ht => ⟨m, ?_, Nat.le_refl _, fun _ x hc => ?_⟩
    · rw [nthO_set, if_neg]
      · exact ht
      · rintro ⟨rfl, _⟩; rw [ho] at ht; cases ht
    · rcases hc with ⟨a, rfl, rfl⟩ | ⟨b1, o1, cap, arr1, ty1, q1, rfl, q3, q4, q5, q6, q7⟩
      · exact .inl ⟨a, rfl, rfl⟩
      · have hne : b1 ≠ b := fun e => by subst e; exact H.apart _ _ _ h1 q1
        exact .inr ⟨b1, o1, cap, arr1, ty1, q1, rfl, q3, q4, q5, by show updF _ _ _ _ = _; rw [updF_ne _ _ hne]; exact q6, q7⟩
  have hH : HInv B w0 (ob.set o .gone) { g with F := updF g.F b (off + ln * max n 1) } w := by
    refine ⟨H.below, H.hB, fun b' hb' => ?_, fun b' hb' => ?_, H.c0, fun i b' h => by simpa using H.tbl i b' h, fun i b' h => by simpa using H.kbl i b' h, H.inj, H.injk, H.apart, fun i hi => ?_⟩
    · show updF _ _ _ _ = _
      rw [updF_ne _ _ (by omega)]; exact H.fz b' hb'
    · show updF _ _ _ _ = _
      rw [updF_ne _ _ (by omega)]; exact H.f0 b' hb'
    · have hi' : i < ob.length := by simpa using hi
      by_cases e : i = o
      · subst e
        simp only [List.getElem_set_self]
        trivial
      · rw [List.getElem_set_ne (fun q => e q.symm)]
        exact (H.obs i hi').keep hp (rep_keep (fun _ _ _ => rfl) hF) (fun b1 hb1 => ⟨hb1, by show updF _ _ _ _ = _; rw [updF_ne _ _ fun (q : b1 = b) => e (H.inj _ _ _ hb1 (q ▸ h1))], rfl⟩) (fun h => h) (fun m b1 q1 q2 => ⟨q2, by rw [nthO_set]; split; rfl; exact q1, rfl⟩)
  refine ⟨_, hH, hp, fun _ _ h => h, fun x hr => ?_⟩
  have hlen : (frzEs n off ln cs).length = ln := by
    unfold frzEs
    split
    · rename_i h0; subst h0; simp at c1 ⊢; omega
    · simp
  cases hr with
  | @row _ _ _ cap b1 htb hlc =>
    have e1 : b1 = b := by rw [h1] at htb; cases htb; rfl
    subst e1
    rcases Nat.eq_zero_or_pos ln with hl0 | hl0
    · have hnil : frzEs n off ln cs = [] := List.eq_nil_of_length_eq_zero (by omega)
      rw [hnil, hl0]
      exact ⟨.slE, trivial, by simp [VV.ids]⟩
    · have hcl : ∀ i (h : i < (frzEs n off ln cs).length), (frzEs n off ln cs)[i].cells.length = max n 1 ∧ ∀ j, j < max n 1 → (frzEs n off ln cs)[i].cells[j]? = cs[off + i * max n 1 + j]? := fun i hi => by
        have hi2 : i < ln := by omega
        have hm : (i + 1) * max n 1 ≤ ln * max n 1 := Nat.mul_le_mul_right _ hi2
        rw [Nat.add_mul] at hm
        by_cases hn : n = 0
        · subst hn
          have hoi : off + i < cs.length := by simp at c1; omega
          have e2 : (frzEs 0 off ln cs)[i] = cs[off + i] := by simp [frzEs]
          have hcell := (h5 (off + i) hoi).1
          have e3 : cs[off + i].cells = [cs[off + i]] := by
            revert hcell; generalize cs[off + i] = u; intro hcell; cases u <;> simp_all [VV.isCell, VV.cells]
          rw [e2, e3]
          refine ⟨by simp, fun j hj => ?_⟩
          obtain rfl : j = 0 := by simp at hj; omega
          simp [hoi]
        · have hmn : max n 1 = n := by omega
          rw [hmn] at hm c1 ⊢
          have e2 : (frzEs n off ln cs)[i] = .agg ((cs.drop (off + i * n)).take n) := by simp [frzEs, hn]
          rw [e2]
          simp only [VV.cells]
          refine ⟨by simp; omega, fun j hj => ?_⟩
          rw [List.getElem?_take_of_lt hj, List.getElem?_drop]
      have hmax : 0 < max n 1 := by omega
      have hin : ∀ i, i < ln → ∀ j, j < max n 1 → off + i * max n 1 + j < cs.length := fun i hi j hj => by
        have hm : (i + 1) * max n 1 ≤ ln * max n 1 := Nat.mul_le_mul_right _ hi
        rw [Nat.add_mul] at hm
        omega
      have hgood : GV B (ob.set o .gone) { g with F := updF g.F b1 (off + ln * max n 1) } w (.sl (frzEs n off ln cs) 0) (.slice (some ⟨b1, off, none⟩) (frzEs n off ln cs).length cap) := by
        refine ⟨.sl (fun i j => arr.getD (off + i * max n 1 + j) Go.undef) (fun h => by rw [h] at hlen; simp at hlen; omega) (by omega) hmax (fun i hi => ⟨List.all_eq_true.1 c2 _ (List.getElem_mem hi), (hcl i hi).1⟩) (fun i hi j hj => ?_) (fun i hi j hj => ?_) ?_, trivial, by simp [VV.ids]⟩
        · have hj' : j < max n 1 := by rw [← (hcl i hi).1]; exact hj
          have hb := hin i (by omega) j hj'
          have hb' : off + i * max n 1 + j < arr.size := by omega
          simp [World.cell?, h4, hb']
        · have hj' : j < max n 1 := by rw [← (hcl i hi).1]; exact hj
          have hb := hin i (by omega) j hj'
          have hb' : off + i * max n 1 + j < arr.size := by omega
          have e2 := (hcl i hi).2 j hj'
          rw [List.getElem?_eq_getElem hj, List.getElem?_eq_getElem hb] at e2
          rw [Option.some.inj e2]
          have := (hp _ _ (h5 _ hb).2).rep
          simpa [hb'] using this
        · rw [hlen]; show _ ≤ updF _ _ _ _; simp
      rw [hlen] at hgood
      exact hgood

theorem frz_sound (S : SInv B w0 st g nt D a w) {s n : Nat} {st' : St} (h : frzW st s n = some st') : ∃ g', SInv B w0 st' g' nt D a w := by
  unfold frzW at h
  split at h
  · cases h; exact ⟨g, S⟩
  · cases h; exact ⟨g, S⟩
  · rename_i o off ln he
    split at h
    · rename_i cs ho
      split at h
      · rename_i hcond
        obtain ⟨c1, c2⟩ := hcond
        cases h
        have hge := S.e s
        rw [he] at hge
        obtain ⟨g', hH, hp, _, hgood⟩ := frz_core S.H ho c1 c2
        refine ⟨_, hH, fun q => ?_, S.n, S.d.pres hp, ⟨fun v x hk => ⟨hp _ _ (S.k.1 v x hk).1, (S.k.1 v x hk).2⟩, S.k.2⟩⟩
        show GV B _ _ w (get (put st.env s _) q) _
        rw [get_put]
        split
        · rename_i e
          subst e
          exact hgood _ hge.rep
        · exact hp _ _ (S.e q)
      · cases h
    · cases h
  · rename_i o _ he
    unfold frzBox at h
    split at h
    · rename_i cs hco
      split at h
      · rename_i j o2 off ln hat
        split at h
        · rename_i cs2 ho
          split at h
          · rename_i hcond
            obtain ⟨hne, c1, c2⟩ := hcond
            cases h
            obtain ⟨hjl, hjc⟩ := rowAt_at hat
            obtain ⟨g', hH, hp, htb, hgood⟩ := frz_core S.H ho c1 c2
            obtain ⟨hlt, b, arr, ty, h1, h2, h3, ⟨fr, hfr, h4⟩, hl, h5⟩ := S.H.get hco (by simp)
            have ho2 : nthO (st.ob.set o2 .gone) o = .cells cs := by rw [nthO_set, if_neg (fun q => hne q.1)]; exact hco
            have hsz2 : (cs.set j (VV.sl (frzEs n off ln cs2) 0)).length ≤ arr.size := by simpa using hl
            obtain ⟨H3, p3⟩ := hH.setObj (arr' := arr) (cs' := cs.set j (.sl (frzEs n off ln cs2) 0)) ho2 (htb _ _ h1) h4 hfr hsz2 (fun i hi => by
              by_cases e : i = j
              · subst e
                simp only [List.getElem_set_self]
                refine ⟨rfl, hgood _ ?_⟩
                have := (h5 i hjl).2.rep
                rw [hjc] at this
                exact this
              · rw [List.getElem_set_ne (fun q => e q.symm)]
                have hi' : i < cs.length := by simpa using hi
                exact ⟨(h5 i hi').1, hp _ _ (h5 i hi').2⟩)
            have hself : w.setRow b arr = w := setRow_self w b arr ty fr h4
            rw [hself] at H3 p3
            exact ⟨_, H3, fun q => p3 _ _ (hp _ _ (S.e q)), S.n, (S.d.pres hp).pres p3, ⟨fun v x h => ⟨p3 _ _ (hp _ _ (S.k.1 v x h).1), (S.k.1 v x h).2⟩, S.k.2⟩⟩
          · cases h
        · cases h
      · cases h
    · cases h
  · cases h

theorem own_sound (S : SInv B w0 st g nt D a w) {s : Nat} {c : Option Nat} {sz : Nat} {st' : St} (h : ownW st s c sz = some st') : ∃ g', SInv B w0 st' g' nt D a w := by
  unfold ownW at h
  split at h
  · split at h
    · exact thaw_sound S h
    · exact frz_sound S h
  · rename_i h0
    have h0 : 0 < sz := Nat.pos_of_ne_zero h0
    obtain ⟨H2, p2⟩ := S.H.pushTok (n := 0) h0 none (by simp)
    have good : ∀ x, Rep w g.F g.tb .nils x → GV B (st.ob ++ [.tok 0 sz]) { g with kb := fun i => if i = st.ob.length then none else g.kb i } w (.sl [] (st.ob.length + 2)) x := fun x hx => by
      cases hx with
      | @nils a =>
        exact ⟨.slE, Hnd.sl.2 ⟨0, sz, nthO_new _ _, h0, Nat.le_refl _, fun _ => .inl ⟨a, rfl, rfl⟩, fun j hj => absurd hj (by simp)⟩, by simp [VV.ids]⟩
    split at h
    · split at h
      · rename_i he
        cases h
        refine ⟨_, H2, fun q => ?_, S.n, S.d.pres p2, ⟨fun v x h => ⟨p2 _ _ (S.k.1 v x h).1, (S.k.1 v x h).2⟩, S.k.2⟩⟩
        show GV B _ _ w (get (put st.env s _) q) _
        rw [get_put]
        split
        · rename_i e
          subst e
          have := S.e q
          rw [he] at this
          exact good _ this.rep
        · exact p2 _ _ (S.e q)
      · cases h
    · rename_i j
      split at h
      · rename_i o off he
        split at h
        · rename_i cs ho
          split at h
          · rename_i hnil
            cases h
            obtain ⟨hlt, b, arr, ty, h1, h2, h3, ⟨fr, hfr, h4⟩, hl, h5⟩ := S.H.get ho (by simp)
            obtain ⟨hj, hnil⟩ := List.getElem?_eq_some_iff.1 hnil
            have ho2 : nthO (st.ob ++ [.tok 0 sz]) o = .cells cs := by rw [nthO_app hlt]; exact ho
            have hsz2 : (cs.set (off + j) (VV.sl [] (st.ob.length + 2))).length ≤ arr.size := by simpa using hl
            obtain ⟨H3, p3⟩ := H2.setObj (arr' := arr) (cs' := cs.set (off + j) (.sl [] (st.ob.length + 2))) ho2 h1 h4 hfr hsz2 (fun i hi => by
              by_cases e : i = off + j
              · subst e
                simp only [List.getElem_set_self]
                refine ⟨rfl, ?_⟩
                have := (h5 (off + j) hj).2
                rw [hnil] at this
                exact good _ this.rep
              · rw [List.getElem_set_ne (fun q => e q.symm)]
                have hi' : i < cs.length := by simpa using hi
                exact ⟨(h5 i hi').1, p2 _ _ (h5 i hi').2⟩)
            have hself : w.setRow b arr = w := setRow_self w b arr ty fr h4
            rw [hself] at H3 p3
            exact ⟨_, H3, fun q => p3 _ _ (p2 _ _ (S.e q)), S.n, (S.d.pres p2).pres p3, ⟨fun v x h => ⟨p3 _ _ (p2 _ _ (S.k.1 v x h).1), (S.k.1 v x h).2⟩, S.k.2⟩⟩
          · cases h
        · cases h
      · cases h
        obtain ⟨H3, p3⟩ := S.H.pushResvs j
        exact ⟨_, H3, fun q => p3 _ _ (S.e q), S.n, S.d.pres p3, ⟨fun v x h => ⟨p3 _ _ (S.k.1 v x h).1, (S.k.1 v x h).2⟩, S.k.2⟩⟩
      · rename_i es t he
        cases h
        refine ⟨g, S.H, fun q => ?_, S.n, S.d, S.k⟩
        show GV B _ _ w (get (put st.env s _) q) _
        rw [get_put]
        split
        · rename_i e
          subst e
          have := S.e q
          rw [he] at this
          exact ⟨strip_rep this.rep, Hnd.sl.2 trivial, by simp [VV.ids]⟩
        · exact S.e q
      · cases h

end
end Go.V

/- V, part 19a: loops over functions: their records and blocks in memory. -/
set_option linter.unusedVariables false
set_option linter.unusedSimpArgs false
namespace Go.V
open Go.RowKit

section
variable {P : Program} {B : Nat} {w0 : W0} {ob : List Obj} {g : Gh} {nt : Nat} {D : List Deferred} {a : Act} {w : World} {st : St}

theorem putObj_eq (w : World) (b : Nat) (o : _root_.Go.Obj) : w.putObj b o = putAt w b o := rfl

/-- At a function's end its marks' blocks are shut. -/
def closeM : List Nat → List Obj → Option (List Obj)
  | [], ob => some ob
  | o :: r, ob => match nthO ob o with
    | .dfr => closeM r (ob.set o .gone)
    | _ => none

theorem marks_close {F : Fence} {fn : Func} {tmps : Array Value} {R : Ending → World → Prop} : ∀ {l : List Nat} {ds : List Deferred} {ob ob' : List Obj} {w : World}, HInv B w0 ob g w → Marks B ob g w l ds → closeM l ob = some ob' →
    ∃ w', HInv B w0 ob' g w' ∧ Pres B ob g w ob' g w' ∧ (LeavesInM F 0 P fn tmps R [] .returning w' → LeavesInM F 0 P fn tmps R ds .returning w)
  | [], ds, ob, ob', w, H, M, h => by
    cases h
    cases M
    exact ⟨w, H, Pres.refl _ _ _ _, id⟩
  | o :: r, ds, ob, ob', w, H, ⟨b, es, hds, hg, M⟩, h => by
    subst hds
    simp only [closeM] at h
    split at h
    · rename_i ho
      have hrep := hg.rep
      cases hrep with
      | yld htb =>
        obtain ⟨_, b', h1, h2, h3, h4⟩ := H.get ho (by simp)
        rw [htb] at h1; cases h1
        obtain ⟨H', p'⟩ := H.putO (X' := .gone) (mo' := .deferred none) ho (by simp) (by simp) htb h4 h2 h3 (fun _ => trivial)
        obtain ⟨w', H2, p2, hl⟩ := marks_close (F := F) (fn := fn) (tmps := tmps) (R := R) H' (M.pres p') h
        refine ⟨w', H2, p'.trans p2, fun q => ?_⟩
        exact ⟨by simp, .inl ⟨b, _, rfl, run_takeDeferred h4, hl q⟩⟩
    · cases h

/-- The frame enters the loop: two objects more. -/
theorem HInv.enter (H : HInv B w0 ob g w) {env : List (Nat × VV)} {tmps : Array Value} (hn : tmps.size = nt) (he : ∀ s, GV B ob g w (Go.V.get env s) (tmps.getD s Go.undef)) {fn : FuncId} {ps : Array Nat} {ca cb : Code} {va vb : VC} (hca : g.cm va nt ca) (hcb : g.cm vb nt cb) :
    ∃ g', HInv B w0 (ob ++ [.dfr] ++ [.loop nt env ps.toList va vb 0 .nrm]) g' ((w.alloc (.deferred (some []))).alloc (.loop { state := .ready, pending := none, fn := fn, tmps := tmps, params := ps, assign := ca, body := cb, defers := w.heap.size })) ∧
      Pres B ob g w (ob ++ [.dfr] ++ [.loop nt env ps.toList va vb 0 .nrm]) g' ((w.alloc (.deferred (some []))).alloc (.loop { state := .ready, pending := none, fn := fn, tmps := tmps, params := ps, assign := ca, body := cb, defers := w.heap.size })) ∧
      g'.tb ob.length = some w.heap.size ∧ g'.tb (ob.length + 1) = some (w.heap.size + 1) := by
  obtain ⟨H1, p1⟩ := H.push (.deferred (some [])) .dfr (by simp) ⟨w.heap.size, by simp, H.hB, H.fz _ (Nat.le_refl _), heap_alloc_at _ _⟩
  have he1 : ∀ s, GV B _ _ _ (Go.V.get env s) (tmps.getD s Go.undef) := fun s => p1 _ _ (he s)
  have hpush := Pres.push (H1.alloc0 (.loop { state := .ready, pending := none, fn := fn, tmps := tmps, params := ps, assign := ca, body := cb, defers := w.heap.size })) (.loop nt env ps.toList va vb 0 .nrm) (b := (w.alloc (.deferred (some []))).heap.size) (by simp)
  have palloc := Pres.alloc0 H1 (.loop { state := .ready, pending := none, fn := fn, tmps := tmps, params := ps, assign := ca, body := cb, defers := w.heap.size })
  obtain ⟨H2, p2⟩ := H1.push (.loop { state := .ready, pending := none, fn := fn, tmps := tmps, params := ps, assign := ca, body := cb, defers := w.heap.size }) (.loop nt env ps.toList va vb 0 .nrm) (by simp)
    ⟨_, _, by simp, H1.hB, H1.fz _ (Nat.le_refl _), heap_alloc_at _ _, hn, fun s => hpush _ _ (palloc _ _ (he1 s)), rfl, hca, hcb, rfl, rfl⟩
  refine ⟨_, H2, p1.trans p2, ?_, ?_⟩
  · show upd (upd g.tb ob.length w.heap.size) (ob ++ [Obj.dfr]).length _ ob.length = _
    rw [upd_ne _ _ (by simp)]; simp
  · show upd (upd g.tb ob.length w.heap.size) (ob ++ [Obj.dfr]).length _ (ob.length + 1) = _
    simp

end
end Go.V

/- V, part 20: regions that draw their order of evaluation: where operations that no edge orders do not meddle with one another, one order tells of all. -/
set_option linter.unusedVariables false
set_option linter.unusedSimpArgs false
namespace Go.V
open Go.RowKit

def VOp.isCall : VOp → Bool
  | .call .. | .callv .. => true
  | _ => false

def fnArgs (env : List (Nat × VV)) : VOp → Option (Nat × List VV × Option (Option Nat × Nat))
  | .call f args own => some (f, args.map (Opd.ev env), own)
  | .callv x args own => (fnOf (x.ev env)).map fun p => (p.1, args.map (Opd.ev env) ++ p.2, own)
  | _ => none

/-- what no load reads -/
def Obj.vol : Obj → Bool
  | .cells _ | .map _ => false
  | _ => true
def Keeps (ob ob2 : List Obj) : Prop := ob.length ≤ ob2.length ∧ ∀ o, (nthO ob o).vol = false → nthO ob2 o = nthO ob o
theorem Keeps.refl (ob : List Obj) : Keeps ob ob := ⟨Nat.le_refl _, fun _ _ => rfl⟩
theorem oldO_mono {a b k : Nat} {v : VV} (h : a ≤ b) (hv : oldO (a - k) v = true) : oldO (b - k) v = true := by
  cases v with
  | ptr o off => simp only [oldO, decide_eq_true_eq] at hv ⊢; omega
  | pim cs off => rfl
  | _ => cases hv

theorem ImpC.mono {P : Program} {f : Nat} {args : List VV} {ob : List Obj} {R R' : VV → List Obj → Prop} (h : ImpC P f args ob R) (hr : ∀ r o, R r o → R' r o) : ImpC P f args ob R' :=
  ⟨h.1, fun B w0 g w vals hcm H hs hv => CallsIn.mono (h.2 B w0 g w vals hcm H hs hv) (by rintro e w' ⟨x, g', r, ob', q1, q2, q3⟩; exact ⟨x, g', r, ob', q1, hr _ _ q2, q3⟩)⟩

def ValD (P : Program) (i : VI) (env : List (Nat × VV)) (ob : List Obj) (v : VV) (ob' : List Obj) : Prop :=
  match wantedV env i.g with
  | none => False
  | some false => v = .tup [] ∧ ob' = ob
  | some true => if i.op.isCall = true then (∃ f args own r, fnArgs env i.op = some (f, args, own) ∧ (args.map VV.strip).all (fun v => v.ids 0 && v.noTup) = true ∧ PureC P f (args.map VV.strip) r ∧ takeR own ob r = some (v, ob')) ∨
      (∃ f args own b, fnArgs env i.op = some (f, args, own) ∧ markOf own = some b ∧ args.all VV.noTup = true ∧ ImpC P f (args.map VV.strip) ob (fun r o => r = v ∧ o = ob') ∧ (b = true → Keeps ob ob'))
    else i.op.ev ⟨env, ob⟩ = some (v, ob')

def CallD (P : Program) (f : Nat) (args : List VV) (own : Option (Option Nat × Nat)) (d : Option Nat) (st : St) (K : St → Prop) : Prop :=
  ((args.map VV.strip).all (fun v => v.ids 0 && v.noTup) = true ∧ ∃ r, PureC P f (args.map VV.strip) r ∧ match takeR own st.ob r with
    | some (v, ob') => K { st with env := putD st.env d v, ob := ob' }
    | none => False) ∨
  (∃ b, markOf own = some b ∧ args.all VV.noTup = true ∧ ∃ v ob1, ImpC P f (args.map VV.strip) st.ob (fun r o => r = v ∧ o = ob1) ∧ (b = true → Keeps st.ob ob1) ∧ K { st with env := putD st.env d v, ob := ob1 })

def OpD (P : Program) (i : VI) (st : St) (K : St → Prop) : Prop :=
  match wantedV st.env i.g with
  | none => False
  | some false => K { st with env := putD st.env i.dst (.tup []) }
  | some true => match i.op with
    | .call f args own => CallD P f (args.map (Opd.ev st.env)) own i.dst st K
    | .callv x args own => match fnOf (x.ev st.env) with
      | some (f, cap) => CallD P f (args.map (Opd.ev st.env) ++ cap) own i.dst st K
      | none => False
    | op => match op.ev st.toS0 with
      | some (v, ob') => K { st with env := putD st.env i.dst v, ob := ob' }
      | none => False

def OpsD (P : Program) : List VI → St → (St → Prop) → Prop
  | [], st, K => K st
  | i :: r, st, K => OpD P i st fun st' => OpsD P r st' K

section
variable {P : Program} {env env' : List (Nat × VV)} {ob ob' : List Obj} {i j : VI} {v u : VV}

theorem fillV_congr : ∀ (ps : List (Nat × Nat × Opd)) (cs : List VV), (∀ p ∈ ps, p.2.2.ev env = p.2.2.ev env') → fillV env cs ps = fillV env' cs ps
  | [], _, _ => rfl
  | (off, sz, x) :: r, cs, h => by
    have hx := h _ (by simp : (off, sz, x) ∈ (off, sz, x) :: r)
    simp only at hx
    simp only [fillV, hx]
    split
    · exact fillV_congr r _ fun p hp => h p (by simp [hp])
    · rfl

theorem fillE_congr {sz : Nat} : ∀ (ps : List (Nat × Opd)) (cs : List VV), (∀ p ∈ ps, p.2.ev env = p.2.ev env') → fillE env sz cs ps = fillE env' sz cs ps
  | [], _, _ => rfl
  | (off, x) :: r, cs, h => by
    have hx := h _ (by simp : (off, x) ∈ (off, x) :: r)
    simp only at hx
    simp only [fillE, hx]
    split
    · exact fillE_congr r _ fun p hp => h p (by simp [hp])
    · rfl

theorem bo_congr {y d : Nat} {x : Option Opd} (h : ∀ p ∈ x.toList, p.ev env = p.ev env') : bo env y d x = bo env' y d x := by
  cases x with
  | none => rfl
  | some x => simp only [bo, bound, h x (by simp)]

theorem map_congr {l : List Opd} (h : ∀ x ∈ l, x.ev env = x.ev env') : l.map (Opd.ev env) = l.map (Opd.ev env') := List.map_congr_left h

theorem sepO_congr {a : VV} : ∀ (ss : List Nat), (∀ s ∈ ss, get env s = get env' s) → sepO env a ss = sepO env' a ss
  | [], _ => rfl
  | s :: r, h => by
    simp only [sepO, h s (by simp)]
    rw [sepO_congr r fun t ht => h t (by simp [ht])]

theorem ev_congr {op : VOp} (h : ∀ x ∈ op.opds, x.ev env = x.ev env') : op.ev ⟨env, ob⟩ = op.ev ⟨env', ob⟩ := by
  cases op with
  | build z ps =>
    have := fillV_congr (env := env) (env' := env') ps z (fun p hp => h _ (List.mem_map.2 ⟨p, hp, rfl⟩))
    simp only [VOp.ev, this]
  | bsl own sz z ln ps =>
    have := fillE_congr (env := env) (env' := env') (sz := sz) ps (List.replicate ln z) (fun p hp => h _ (List.mem_map.2 ⟨p, hp, rfl⟩))
    simp only [VOp.ev, this]
  | mkfn f cap =>
    have : (cap.map fun x => (x.ev env).strip) = cap.map fun x => (x.ev env').strip := List.map_congr_left fun x hx => by rw [h x hx]
    simp only [VOp.ev, this]
  | slc sz x lo hi mx =>
    simp only [VOp.opds, List.mem_cons, List.mem_append] at h
    have h1 := h x (.inl rfl)
    have h2 : ∀ y d, bo env y d lo = bo env' y d lo := fun _ _ => bo_congr fun p hp => h p (.inr (.inl (.inl hp)))
    have h3 : ∀ y d, bo env y d hi = bo env' y d hi := fun _ _ => bo_congr fun p hp => h p (.inr (.inl (.inr hp)))
    have h4 : ∀ y d, bo env y d mx = bo env' y d mx := fun _ _ => bo_congr fun p hp => h p (.inr (.inr hp))
    cases sz <;> simp only [VOp.ev, h1, h2, h3, h4]
  | len k x =>
    have h1 := h x (by simp [VOp.opds])
    match k with
    | 0 => simp only [VOp.ev, h1]
    | 1 => simp only [VOp.ev, h1]
    | k + 2 => simp only [VOp.ev, h1]
  | call f args own => rfl
  | callv f args own => rfl
  | calln f args own => rfl
  | load2 ss n a =>
    have h1 := h a (by simp [VOp.opds])
    have h2 : sepO env (a.ev env') ss = sepO env' (a.ev env') ss := sepO_congr ss fun s hs => h (.t s) (by simp [VOp.opds, hs])
    simp only [VOp.ev, h1, h2]
  | store2 ss n a x =>
    have h1 := h a (by simp [VOp.opds])
    have h3 := h x (by simp [VOp.opds])
    have h2 : sepO env (a.ev env') ss = sepO env' (a.ev env') ss := sepO_congr ss fun s hs => h (.t s) (by simp [VOp.opds, hs])
    simp only [VOp.ev, h1, h2, h3]
  | _ => simp only [VOp.opds, List.mem_cons, List.not_mem_nil, or_false, forall_eq_or_imp, forall_eq] at h; simp only [VOp.ev, h]

theorem opd_congr {x : Opd} (h : ∀ s ∈ x.rd, get env s = get env' s) : x.ev env = x.ev env' := by
  cases x with
  | t s => exact h s (by simp [Opd.rd])
  | _ => rfl

theorem val_congr (h : ∀ s ∈ i.rd, get env s = get env' s) : ValD P i env ob v ob' ↔ ValD P i env' ob v ob' := by
  have hg : wantedV env i.g = wantedV env' i.g := by
    unfold wantedV
    split
    · rfl
    · rename_i s b e
      rw [h s (by simp [VI.rd, e])]
  have ho : ∀ x ∈ i.op.opds, x.ev env = x.ev env' := fun x hx => opd_congr fun s hs => h s (by simp only [VI.rd, List.mem_append, List.mem_flatMap]; exact .inr ⟨x, hx, hs⟩)
  have hf : fnArgs env i.op = fnArgs env' i.op := by
    revert ho
    generalize i.op = op
    intro ho
    cases op with
    | call f args own =>
      have e := map_congr (env := env) (env' := env') (l := args) ho
      simp only [fnArgs, e]
    | callv x args own =>
      have e := map_congr (env := env) (env' := env') (l := args) fun y hy => ho y (by simp [VOp.opds, hy])
      simp only [fnArgs, e, ho x (by simp [VOp.opds])]
    | _ => rfl
  unfold ValD
  rw [hg, hf, ev_congr ho]

theorem deref_keeps {a : VV} {r : List VV × Nat} (hk : Keeps ob ob') (h : deref ob a = some r) : deref ob' a = some r := by
  cases a with
  | ptr o off =>
    simp only [deref] at h ⊢
    split at h
    · rename_i cs ho
      rw [hk.2 o (by rw [ho]; rfl), ho]; exact h
    · cases h
  | pim cs off => exact h
  | _ => exact h

theorem op01 {op : VOp} (hc : op.cls ≤ 1) (h : op.ev ⟨env, ob⟩ = some (v, ob')) : ob' = ob ∧ ∀ ob2, (op.cls = 0 ∨ Keeps ob ob2) → op.ev ⟨env, ob2⟩ = some (v, ob2) := by
  cases op with
  | load n a =>
    simp only [VOp.ev] at h
    split at h
    · rename_i cs off hd
      cases hl : loadV n cs off with
      | none => rw [hl] at h; simp at h
      | some z =>
        rw [hl] at h
        simp only [Option.map_some, Option.some.injEq, Prod.mk.injEq] at h
        obtain ⟨rfl, rfl⟩ := h
        refine ⟨rfl, fun ob2 hk => ?_⟩
        rcases hk with hk | hk
        · simp [VOp.cls] at hk
        · simp only [VOp.ev, deref_keeps hk hd, hl, Option.map_some]
    · cases h
  | load2 ss n a =>
    simp only [VOp.ev] at h
    split at h
    · rename_i hsep
      split at h
      · rename_i cs off hd
        cases hl : loadV n cs off with
        | none => rw [hl] at h; simp at h
        | some z =>
          rw [hl] at h
          simp only [Option.map_some, Option.some.injEq, Prod.mk.injEq] at h
          obtain ⟨rfl, rfl⟩ := h
          refine ⟨rfl, fun ob2 hk => ?_⟩
          rcases hk with hk | hk
          · simp [VOp.cls] at hk
          · simp only [VOp.ev, hsep, if_true, deref_keeps hk hd, hl, Option.map_some]
      · cases h
    · cases h
  | load3 k n a =>
    simp only [VOp.ev] at h
    split at h
    · rename_i hsep
      split at h
      · rename_i cs off hd
        cases hl : loadV n cs off with
        | none => rw [hl] at h; simp at h
        | some z =>
          rw [hl] at h
          simp only [Option.map_some, Option.some.injEq, Prod.mk.injEq] at h
          obtain ⟨rfl, rfl⟩ := h
          refine ⟨rfl, fun ob2 hk => ?_⟩
          rcases hk with hk | hk
          · simp [VOp.cls] at hk
          · simp only [VOp.ev, oldO_mono hk.1 hsep, if_true, deref_keeps hk hd, hl, Option.map_some]
      · cases h
    · cases h
  | fill k j z => simp [VOp.cls] at hc
  | clr z x => simp [VOp.cls] at hc
  | calln => simp [VOp.cls] at hc
  | dark => simp [VOp.cls] at hc
  | store3 k n a x => simp [VOp.cls] at hc
  | store2 ss n a x => simp [VOp.cls] at hc
  | lkp ty z ok m k =>
    simp only [VOp.ev] at h
    split at h
    · cases h
    · rename_i hty
      split at h
      · cases h
      · rename_i r hr
        simp only [Option.some.injEq, Prod.mk.injEq] at h
        obtain ⟨rfl, rfl⟩ := h
        refine ⟨rfl, fun ob2 hk => ?_⟩
        rcases hk with hk | hk
        · simp [VOp.cls] at hk
        · simp only [VOp.ev, hty, if_false]
          split at hr
          · rename_i hm
            cases hr; simp only [hm]; rfl
          · rename_i o hm
            split at hr
            · rename_i es ho
              simp only [hm, hk.2 o (by rw [ho]; rfl), ho, hr]
              rfl
            · cases hr
          · cases hr
  | len k x =>
    match k with
    | 0 =>
      simp only [VOp.ev] at h ⊢
      split at h
      · simp only [Option.some.injEq, Prod.mk.injEq] at h; obtain ⟨rfl, rfl⟩ := h; simp_all
      · cases h
    | 1 =>
      simp only [VOp.ev] at h ⊢
      split at h
      · simp only [Option.some.injEq, Prod.mk.injEq] at h; obtain ⟨rfl, rfl⟩ := h; simp_all
      · simp only [Option.some.injEq, Prod.mk.injEq] at h; obtain ⟨rfl, rfl⟩ := h; simp_all
      · simp only [Option.some.injEq, Prod.mk.injEq] at h; obtain ⟨rfl, rfl⟩ := h; simp_all
      · cases h
    | k + 2 =>
      simp only [VOp.ev] at h ⊢
      split at h
      · simp only [Option.some.injEq, Prod.mk.injEq] at h; obtain ⟨rfl, rfl⟩ := h; simp_all
      · rename_i o hm
        split at h
        · rename_i es ho
          simp only [Option.some.injEq, Prod.mk.injEq] at h; obtain ⟨rfl, rfl⟩ := h
          refine ⟨rfl, fun ob2 hk => ?_⟩
          rcases hk with hk | hk
          · simp [VOp.cls] at hk
          · simp only [hm, hk.2 o (by rw [ho]; rfl), ho]
        · cases h
      · cases h
  | alloc z => simp [VOp.cls] at hc
  | box z => simp [VOp.cls] at hc
  | mkmap => simp [VOp.cls] at hc
  | app => simp [VOp.cls] at hc
  | store => simp [VOp.cls] at hc
  | mset => simp [VOp.cls] at hc
  | mdel => simp [VOp.cls] at hc
  | call => simp [VOp.ev] at h
  | callv => simp [VOp.ev] at h
  | bsl own sz z ln ps =>
    cases own with
    | true => simp [VOp.cls] at hc
    | false =>
      simp only [VOp.ev] at h ⊢
      split at h
      · cases h
      · simp only [Bool.false_eq_true, if_false, Option.some.injEq, Prod.mk.injEq] at h
        obtain ⟨rfl, rfl⟩ := h
        refine ⟨rfl, fun ob2 _ => ?_⟩
        simp_all
  | slc sz x lo hi mx =>
    cases sz with
    | zero =>
      simp only [VOp.ev] at h
      split at h
      · rename_i s hs
        split at h
        · cases h
        · rename_i hmx
          cases h1 : bo env s.length s.length hi with
          | none => rw [h1] at h; cases h
          | some y =>
            rw [h1] at h; simp only [Option.bind_some] at h
            cases h2 : bo env y 0 lo with
            | none => rw [h2] at h; cases h
            | some z =>
              rw [h2] at h; simp only [Option.bind_some, Option.some.injEq, Prod.mk.injEq] at h
              obtain ⟨rfl, rfl⟩ := h
              exact ⟨rfl, fun _ _ => by simp only [VOp.ev, hs, hmx, h1, h2, Option.bind_some]; rfl⟩
      · cases h
    | succ sz =>
      simp only [VOp.ev] at h
      split at h
      · rename_i es t hs
        split at h
        · cases h
        · rename_i hmx
          cases h0 : bo env es.length es.length mx with
          | none => rw [h0] at h; cases h
          | some m =>
            rw [h0] at h; simp only [Option.bind_some] at h
            cases h1 : bo env m es.length hi with
            | none => rw [h1] at h; cases h
            | some y =>
              rw [h1] at h; simp only [Option.bind_some] at h
              cases h2 : bo env y 0 lo with
              | none => rw [h2] at h; cases h
              | some z =>
                rw [h2] at h; simp only [Option.bind_some, Option.some.injEq, Prod.mk.injEq] at h
                obtain ⟨rfl, rfl⟩ := h
                exact ⟨rfl, fun _ _ => by simp only [VOp.ev, hs, hmx, if_false, h0, h1, h2, Option.bind_some]⟩
      · rename_i o off ln hs
        split at h
        · cases h
        · rename_i hmx
          cases h0 : bo env ln ln hi with
          | none => rw [h0] at h; cases h
          | some y =>
            rw [h0] at h; simp only [Option.bind_some] at h
            cases h2 : bo env y 0 lo with
            | none => rw [h2] at h; cases h
            | some z =>
              rw [h2] at h; simp only [Option.bind_some, Option.some.injEq, Prod.mk.injEq] at h
              obtain ⟨rfl, rfl⟩ := h
              exact ⟨rfl, fun _ _ => by simp only [VOp.ev, hs, hmx, if_false, Bool.false_eq_true, h0, h2, Option.bind_some]⟩
      · rename_i hs
        split at h
        · cases h
        · rename_i hmx
          cases h0 : bo env 0 0 mx with
          | none => rw [h0] at h; cases h
          | some m =>
            rw [h0] at h; simp only [Option.bind_some] at h
            cases h1 : bo env m 0 hi with
            | none => rw [h1] at h; cases h
            | some y =>
              rw [h1] at h; simp only [Option.bind_some] at h
              cases h2 : bo env y 0 lo with
              | none => rw [h2] at h; cases h
              | some z =>
                rw [h2] at h; simp only [Option.bind_some, Option.some.injEq, Prod.mk.injEq] at h
                obtain ⟨rfl, rfl⟩ := h
                exact ⟨rfl, fun _ _ => by simp only [VOp.ev, hs, hmx, if_false, h0, h1, h2, Option.bind_some]⟩
      · cases h
  | build z ps =>
    simp only [VOp.ev] at h ⊢
    cases h0 : fillV env z ps with
    | none => rw [h0] at h; cases h
    | some y => rw [h0] at h; simp only [Option.map_some, Option.some.injEq, Prod.mk.injEq] at h ⊢; obtain ⟨rfl, rfl⟩ := h; simp
  | bin op ty x y =>
    simp only [VOp.ev] at h ⊢
    split at h
    · rename_i hf
      simp only [hf, if_true]
      cases h0 : binV op (x.ev env) (y.ev env) with
      | none => rw [h0] at h; cases h
      | some y => rw [h0] at h; simp only [Option.map_some, Option.some.injEq, Prod.mk.injEq] at h ⊢; obtain ⟨rfl, rfl⟩ := h; simp
    · cases h
  | fld off n x =>
    simp only [VOp.ev] at h
    split at h
    · rename_i cs hc
      cases h0 : loadV n cs off with
      | none => rw [h0] at h; cases h
      | some y => rw [h0] at h; simp only [Option.map_some, Option.some.injEq, Prod.mk.injEq] at h; obtain ⟨rfl, rfl⟩ := h; exact ⟨rfl, fun _ _ => by simp only [VOp.ev, hc, h0, Option.map_some]⟩
    · cases h
  | mks b z x => simp [VOp.cls] at hc
  | s2b x => simp [VOp.cls] at hc
  | appr => simp [VOp.cls] at hc
  | b2s x => simp [VOp.cls] at hc
  | mrng x => simp [VOp.cls] at hc
  | mnext x => simp [VOp.cls] at hc
  | mentry x => simp [VOp.cls] at hc
  | isnil neg x => simp [VOp.cls] at hc
  | mm isMax x y =>
    simp only [VOp.ev] at h
    split at h
    · rename_i h1 h2
      split at h
      · rename_i hk
        simp only [Option.some.injEq, Prod.mk.injEq] at h
        obtain ⟨rfl, rfl⟩ := h
        exact ⟨rfl, fun _ _ => by simp only [VOp.ev, h1, h2, hk, if_true]⟩
      · cases h
    · cases h
  | _ =>
    simp only [VOp.ev] at h ⊢
    (repeat' split at h) <;> first | (cases h; done) | (simp only [Option.some.injEq, Prod.mk.injEq] at h; obtain ⟨rfl, rfl⟩ := h; simp_all)

theorem keeps_push (X : Obj) : Keeps ob (ob ++ [X]) := ⟨by simp, fun o hg => nthO_app (nthO_ne_gone (fun q => by rw [q] at hg; cases hg))⟩
theorem keeps_tok {t n s : Nat} (X : Obj) (h : nthO ob t = .tok n s) : Keeps ob (ob.set t X) := ⟨by simp, fun o h1 => by
  rw [nthO_set, if_neg]
  rintro ⟨rfl, _⟩
  rw [h] at h1; cases h1⟩
theorem keeps_resv {t : Nat} (X : Obj) (h : nthO ob t = .resv) : Keeps ob (ob.set t X) := ⟨by simp, fun o h1 => by
  rw [nthO_set, if_neg]
  rintro ⟨rfl, _⟩
  rw [h] at h1; cases h1⟩

theorem op2 {op : VOp} (hc : op.cls ≤ 2) (h : op.ev ⟨env, ob⟩ = some (v, ob')) : Keeps ob ob' := by
  have low : op.cls ≤ 1 → Keeps ob ob' := fun hc => by obtain ⟨rfl, _⟩ := op01 hc h; exact Keeps.refl _
  cases op with
  | alloc z => simp only [VOp.ev, Option.some.injEq, Prod.mk.injEq] at h; obtain ⟨_, rfl⟩ := h; exact keeps_push _
  | fill k j z =>
    simp only [VOp.ev] at h
    split at h
    · rename_i hr
      simp only [Option.some.injEq, Prod.mk.injEq] at h; obtain ⟨_, rfl⟩ := h; exact keeps_resv _ hr
    · cases h
  | store3 => simp [VOp.cls] at hc
  | store2 => simp [VOp.cls] at hc
  | clr => simp [VOp.cls] at hc
  | calln => simp [VOp.cls] at hc
  | dark => simp [VOp.cls] at hc
  | s2b x => simp [VOp.cls] at hc
  | appr sz b x y =>
    simp only [VOp.ev] at h
    split at h
    · split at h
      · simp only [Option.some.injEq, Prod.mk.injEq] at h; obtain ⟨_, rfl⟩ := h; exact Keeps.refl _
      · split at h
        · simp only [Option.some.injEq, Prod.mk.injEq] at h; obtain ⟨_, rfl⟩ := h; exact keeps_push _
        · cases h
    · cases h
  | b2s x => simp [VOp.cls] at hc
  | box x =>
    simp only [VOp.ev] at h
    split at h <;> first | (cases h; done) | (simp only [Option.some.injEq, Prod.mk.injEq] at h; obtain ⟨_, rfl⟩ := h; exact keeps_push _)
  | mkmap => simp only [VOp.ev, Option.some.injEq, Prod.mk.injEq] at h; obtain ⟨_, rfl⟩ := h; exact keeps_push _
  | mks b z x =>
    simp only [VOp.ev] at h
    split at h
    · split at h
      · simp only [Option.some.injEq, Prod.mk.injEq] at h; obtain ⟨_, rfl⟩ := h; exact keeps_push _
      · cases h
    · cases h
  | bsl own sz z ln ps =>
    cases own with
    | false => exact low (by simp [VOp.cls])
    | true =>
      simp only [VOp.ev] at h
      split at h
      · cases h
      · simp only [if_true, Option.some.injEq, Prod.mk.injEq] at h; obtain ⟨_, rfl⟩ := h; exact keeps_push _
  | app sz b x y =>
    simp only [VOp.ev] at h
    split at h
    · cases h
    · split at h
      · cases h
      · split at h
        · split at h
          · rename_i ht
            split at h
            · simp only [Option.some.injEq, Prod.mk.injEq] at h; obtain ⟨_, rfl⟩ := h; exact keeps_tok _ ht
            · cases h
          · cases h
        · split at h
          · simp only [Option.some.injEq, Prod.mk.injEq] at h; obtain ⟨_, rfl⟩ := h; exact keeps_push _
          · cases h
        · cases h
  | store => simp [VOp.cls] at hc
  | mrng x => simp [VOp.cls] at hc
  | mnext x => simp [VOp.cls] at hc
  | mentry x => simp [VOp.cls] at hc
  | isnil neg x => simp [VOp.cls] at hc
  | mset => simp [VOp.cls] at hc
  | mdel => simp [VOp.cls] at hc
  | call => simp [VOp.ev] at h
  | callv => simp [VOp.ev] at h
  | len k x => exact low (by match k with | 0 => simp [VOp.cls] | 1 => simp [VOp.cls] | k + 2 => simp [VOp.cls])
  | _ => exact low (by simp [VOp.cls])

theorem isCall_own {op : VOp} {f : Nat} {args : List VV} {own : Option (Option Nat × Nat)} (h : fnArgs env op = some (f, args, own)) : op.cls = clsO own := by
  cases op with
  | call f args own => simp only [fnArgs, Option.some.injEq, Prod.mk.injEq] at h; obtain ⟨_, _, rfl⟩ := h; rfl
  | callv x args own =>
    simp only [fnArgs, Option.map_eq_some_iff] at h
    obtain ⟨p, _, h⟩ := h
    simp only [Prod.mk.injEq] at h
    obtain ⟨_, _, rfl⟩ := h; rfl
  | _ => simp [fnArgs] at h

theorem val01 (hc : i.op.cls ≤ 1) (h : ValD P i env ob v ob') : ob' = ob ∧ ∀ ob2, (i.op.cls = 0 ∨ Keeps ob ob2) → ValD P i env ob2 v ob2 := by
  unfold ValD at h ⊢
  split at h
  · exact h.elim
  · obtain ⟨rfl, rfl⟩ := h; exact ⟨rfl, fun _ _ => ⟨rfl, rfl⟩⟩
  · split at h
    · rename_i hcall
      rcases h with ⟨f, args, own, r, h1, h2, h3, h4⟩ | ⟨f, args, own, b, h1, hb, h2, h3, h4⟩
      · have := isCall_own h1
        cases own with
        | some q => rw [this] at hc; unfold clsO at hc; split at hc <;> simp_all
        | none =>
          simp only [takeR, Option.some.injEq, Prod.mk.injEq] at h4
          obtain ⟨rfl, rfl⟩ := h4
          refine ⟨rfl, fun ob2 _ => ?_⟩
          rw [if_pos hcall]
          exact .inl ⟨f, args, none, r, h1, h2, h3, rfl⟩
      · have := isCall_own h1
        rw [this] at hc; unfold clsO at hc; split at hc <;> simp_all [markOf]
    · rename_i hcall
      obtain ⟨rfl, hk⟩ := op01 hc h
      refine ⟨rfl, fun ob2 q => ?_⟩
      rw [if_neg hcall]
      exact hk ob2 q

theorem val2 (hc : i.op.cls ≤ 2) (h : ValD P i env ob v ob') : Keeps ob ob' := by
  unfold ValD at h
  split at h
  · exact h.elim
  · obtain ⟨rfl, rfl⟩ := h; exact Keeps.refl _
  · split at h
    · rcases h with ⟨f, args, own, r, h1, h2, h3, h4⟩ | ⟨f, args, own, b, h1, hb, h2, h3, h4⟩
      · unfold takeR at h4
        split at h4
        · simp only [Option.some.injEq, Prod.mk.injEq] at h4
          obtain ⟨_, rfl⟩ := h4; exact Keeps.refl _
        · split at h4
          · split at h4
            · simp only [Option.some.injEq, Prod.mk.injEq] at h4
              obtain ⟨_, rfl⟩ := h4; exact keeps_push _
            · cases h4
          · cases h4
      · refine h4 ?_
        have := isCall_own h1
        rw [this] at hc
        unfold markOf at hb
        split at hb
        · cases hb; rfl
        · simp [clsO] at hc
        · cases hb
    · exact op2 hc h

theorem put_comm (env : List (Nat × VV)) {d e : Nat} (h : d ≠ e) (v u : VV) : put (put env d v) e u = put (put env e u) d v := by
  induction env with
  | nil =>
    simp only [put]
    by_cases h1 : e < d
    · have : ¬ d < e := by omega
      simp [h, h.symm, h1, this]
    · have : d < e := by omega
      simp [h, h.symm, h1, this]
  | cons p r ih =>
    obtain ⟨k, w⟩ := p
    by_cases h1 : d = k
    · subst h1
      have h2 : ¬ e = d := fun q => h q.symm
      by_cases h3 : e < d
      · have : ¬ d < e := by omega
        simp [put, h, h2, h3, this]
      · simp [put, h, h2, h3]
    · by_cases h2 : e = k
      · subst h2
        by_cases h3 : d < e
        · have : ¬ e < d := by omega
          simp [put, h, h1, h3, this, h.symm]
        · simp [put, h, h1, h3]
      · by_cases h3 : d < k
        · by_cases h4 : e < k
          · by_cases h5 : e < d
            · have : ¬ d < e := by omega
              simp [put, h, h.symm, h1, h2, h3, h4, h5, this]
            · have : d < e := by omega
              simp [put, h, h.symm, h1, h2, h3, h4, h5, this]
          · have : ¬ e < d := by omega
            simp [put, h, h.symm, h1, h2, h3, h4, this]
        · by_cases h4 : e < k
          · have : ¬ d < e := by omega
            simp [put, h, h.symm, h1, h2, h3, h4, this]
          · simp [put, h, h.symm, h1, h2, h3, h4, ih]

theorem sepO_mem {a : VV} : ∀ {ss : List Nat} {s : Nat}, sepO env a ss = true → s ∈ ss → ∃ o off, get env s = .ptr o off ∧ ∀ o' off', a = .ptr o' off' → o ≠ o'
  | t :: r, s, h, hm => by
    simp only [sepO, Bool.and_eq_true] at h
    rcases List.mem_cons.1 hm with rfl | hm
    · have h1 := h.1
      split at h1
      · rename_i o off o' off' e
        exact ⟨o, off, e, fun o2 off2 q => by cases q; simpa using h1⟩
      · rename_i o off cs off' e
        exact ⟨o, off, e, fun o2 off2 q => by cases q⟩
      · cases h1
    · exact sepO_mem h.2 hm

/-- a load beside a store of another object -/
theorem val_sep (hs : sepLd i.op j.op = true) (h1 : ValD P i env ob v ob) (h2 : ValD P j env ob u ob') : ValD P i env ob' v ob' := by
  unfold sepLd at hs
  split at hs
  · rename_i ss n a m s x hi hj
    unfold ValD at h1 h2 ⊢
    split at h1
    · exact h1.elim
    · exact ⟨h1.1, rfl⟩
    · rw [hi] at h1 ⊢
      rw [if_neg (by simp [VOp.isCall])] at h1 ⊢
      simp only [VOp.ev] at h1 ⊢
      split at h1
      · rename_i hsep
        obtain ⟨o, off, hp, hne⟩ := sepO_mem hsep (by simpa using hs)
        have hd : ∀ r, deref ob (a.ev env) = some r → deref ob' (a.ev env) = some r := by
          intro r hr
          split at h2
          · exact h2.elim
          · rw [h2.2]; exact hr
          · rw [hj, if_neg (by simp [VOp.isCall])] at h2
            have hs' : (Opd.t s).ev env = .ptr o off := hp
            simp only [VOp.ev, hs'] at h2
            generalize x.ev env = xv at h2
            split at h2
            · split at h2
              · simp only [Option.some.injEq, Prod.mk.injEq] at h2
                obtain ⟨_, rfl⟩ := h2
                revert hr hne
                generalize a.ev env = q
                intro hne hr
                cases q with
                | ptr o' off' =>
                  simp only [deref] at hr ⊢
                  rw [nthO_set, if_neg (fun e => hne o' off' rfl e.1.symm)]
                  exact hr
                | pim cs off => exact hr
                | _ => exact hr
              · cases h2
            · cases h2
        split at h1
        · rename_i cs off' hd'
          simp only [Option.map_eq_some_iff, Prod.mk.injEq] at h1
          obtain ⟨z, hz, rfl, _⟩ := h1
          simp only [hsep, if_true, hd _ hd', hz, Option.map_some]
        · cases h1
      · cases h1
  · rename_i k n a k' m x y hi hj
    unfold ValD at h1 h2 ⊢
    split at h1
    · exact h1.elim
    · exact ⟨h1.1, rfl⟩
    · rw [hi] at h1 ⊢
      rw [if_neg (by simp [VOp.isCall])] at h1 ⊢
      simp only [VOp.ev] at h1 ⊢
      split at h1
      · rename_i hold
        have hkk : k = k' := by simpa using hs
        subst hkk
        have hd : (∀ r, deref ob (a.ev env) = some r → deref ob' (a.ev env) = some r) ∧ ob'.length = ob.length := by
          split at h2
          · exact h2.elim
          · rw [h2.2]; exact ⟨fun _ h => h, rfl⟩
          · rw [hj, if_neg (by simp [VOp.isCall])] at h2
            simp only [VOp.ev] at h2
            generalize x.ev env = xv at h2
            generalize y.ev env = yv at h2
            split at h2
            · rename_i hnew
              split at h2
              · rename_i o off
                split at h2
                · split at h2
                  · simp only [Option.some.injEq, Prod.mk.injEq] at h2
                    obtain ⟨_, rfl⟩ := h2
                    refine ⟨?_, by simp⟩
                    revert hold
                    generalize a.ev env = q
                    intro hold r hr
                    cases q with
                    | ptr o' off' =>
                      simp only [deref] at hr ⊢
                      simp only [oldO, newO, decide_eq_true_eq] at hold hnew
                      rw [nthO_set, if_neg (by rintro ⟨rfl, _⟩; omega)]
                      exact hr
                    | pim cs off => exact hr
                    | _ => exact hr
                  · cases h2
                · cases h2
              · cases h2
            · cases h2
        split at h1
        · rename_i cs off' hd'
          simp only [Option.map_eq_some_iff, Prod.mk.injEq] at h1
          obtain ⟨z, hz, rfl, _⟩ := h1
          rw [hd.2]
          simp only [hold, if_true, hd.1 _ hd', hz, Option.map_some]
        · cases h1
      · cases h1
  · cases hs

/-- two variables made, each in the object kept for it -/
theorem val_fill (hs : sepFill i.op j.op = true) {ob1 ob2 : List Obj} (h1 : ValD P i env ob v ob1) (h2 : ValD P j env ob1 u ob2) : ∃ ob1', ValD P j env ob u ob1' ∧ ValD P i env ob1' v ob2 := by
  unfold sepFill at hs
  split at hs
  · rename_i k a z k' b z' hi hj
    simp only [Bool.and_eq_true, beq_iff_eq, Bool.not_eq_true', beq_eq_false_iff_ne, ne_eq] at hs
    obtain ⟨rfl, hab⟩ := hs
    unfold ValD at h1 h2 ⊢
    split at h1
    · exact h1.elim
    · obtain ⟨rfl, rfl⟩ := h1
      exact ⟨ob2, h2, rfl, rfl⟩
    · split at h2
      · exact h2.elim
      · obtain ⟨rfl, rfl⟩ := h2
        exact ⟨ob, ⟨rfl, rfl⟩, h1⟩
      · rw [hi, if_neg (by simp [VOp.isCall])] at h1
        rw [hj, if_neg (by simp [VOp.isCall])] at h2
        simp only [VOp.ev] at h1 h2
        split at h1
        · rename_i hr1
          simp only [Option.some.injEq, Prod.mk.injEq] at h1
          obtain ⟨rfl, rfl⟩ := h1
          split at h2
          · rename_i hr2
            simp only [Option.some.injEq, Prod.mk.injEq] at h2
            obtain ⟨rfl, rfl⟩ := h2
            simp only [List.length_set] at hr2 ⊢
            rw [nthO_set, if_neg (by omega)] at hr2
            refine ⟨ob.set (ob.length - k + b) (.cells z'), ?_, ?_⟩
            · rw [hj, if_neg (by simp [VOp.isCall])]
              simp only [VOp.ev, hr2]
            · rw [hi, if_neg (by simp [VOp.isCall])]
              have hr1' : nthO (ob.set (ob.length - k + b) (.cells z')) (ob.length - k + a) = .resv := by
                rw [nthO_set, if_neg (by omega)]; exact hr1
              simp only [VOp.ev, List.length_set, hr1', Option.some.injEq, Prod.mk.injEq, true_and]
              exact List.set_comm _ _ (by omega)
          · cases h2
        · cases h1
  · cases hs

/-- two stores into different objects -/
theorem val_st (hs : sepSt i.op j.op = true) {ob1 ob2 : List Obj} (h1 : ValD P i env ob v ob1) (h2 : ValD P j env ob1 u ob2) : ∃ ob1', ValD P j env ob u ob1' ∧ ValD P i env ob1' v ob2 := by
  unfold sepSt at hs
  split at hs
  · rename_i ss n a x m s y hi hj
    unfold ValD at h1 h2 ⊢
    split at h1
    · exact h1.elim
    · obtain ⟨rfl, rfl⟩ := h1
      exact ⟨ob2, h2, rfl, rfl⟩
    · split at h2
      · exact h2.elim
      · obtain ⟨rfl, rfl⟩ := h2
        exact ⟨ob, ⟨rfl, rfl⟩, h1⟩
      · rw [hi, if_neg (by simp [VOp.isCall])] at h1
        rw [hj, if_neg (by simp [VOp.isCall])] at h2
        simp only [VOp.ev] at h1 h2
        split at h1
        · rename_i hsep
          obtain ⟨o, off, hp, hne⟩ := sepO_mem hsep (by simpa using hs)
          have hs' : (Opd.t s).ev env = .ptr o off := hp
          simp only [hs'] at h2
          generalize hyv : y.ev env = yv at h2
          generalize hxv : x.ev env = xv at h1
          split at h1
          · rename_i o' off' ha
            have hoo : o ≠ o' := hne o' off' ha
            rw [ha] at hsep
            split at h1
            · rename_i cs ho1
              split at h1
              · rename_i c1
                simp only [Option.some.injEq, Prod.mk.injEq] at h1
                obtain ⟨rfl, rfl⟩ := h1
                rw [nthO_set, if_neg (fun e => hoo e.1)] at h2
                split at h2
                · rename_i cs2 ho2
                  split at h2
                  · rename_i c2
                    simp only [Option.some.injEq, Prod.mk.injEq] at h2
                    obtain ⟨rfl, rfl⟩ := h2
                    refine ⟨ob.set o (.cells (setCells cs2 off yv.cells)), ?_, ?_⟩
                    · rw [hj, if_neg (by simp [VOp.isCall])]
                      simp only [VOp.ev, hs', ho2, hyv, c2, and_self, if_true]
                    · rw [hi, if_neg (by simp [VOp.isCall])]
                      have ho1' : nthO (ob.set o (.cells (setCells cs2 off yv.cells))) o' = .cells cs := by
                        rw [nthO_set, if_neg (fun e => hoo e.1.symm)]; exact ho1
                      simp only [VOp.ev, hsep, if_true, ha, ho1', hxv, c1, and_self, Option.some.injEq, Prod.mk.injEq, true_and]
                      exact List.set_comm _ _ hoo
                  · cases h2
                · cases h2
              · cases h1
            · cases h1
          · cases h1
        · cases h1
  · cases hs

theorem sepLd_cls {a b : VOp} (h : sepLd a b = true) : a.cls = 1 := by
  unfold sepLd at h
  split at h
  · rfl
  · rfl
  · cases h

theorem swap (hc : comm i j = true) {ob1 ob2 : List Obj} (h1 : ValD P i env ob v ob1) (h2 : ValD P j (putD env i.dst v) ob1 u ob2) :
    ∃ ob1', ValD P j env ob u ob1' ∧ ValD P i (putD env j.dst u) ob1' v ob2 ∧ putD (putD env i.dst v) j.dst u = putD (putD env j.dst u) i.dst v := by
  simp only [comm, Bool.and_eq_true, Bool.or_eq_true, beq_iff_eq, decide_eq_true_eq] at hc
  obtain ⟨⟨ha, hb⟩, hcl⟩ := hc
  have e1 : ∀ s ∈ j.rd, get (putD env i.dst v) s = get env s := fun s hs => by
    cases hd : i.dst with
    | none => rfl
    | some d =>
      rw [hd] at ha
      simp only [Bool.and_eq_true, Bool.not_eq_true'] at ha
      show get (put env d v) s = _
      rw [get_put, if_neg]
      rintro rfl
      have := ha.1
      simp [hs] at this
  have e2 : ∀ s ∈ i.rd, get (putD env j.dst u) s = get env s := fun s hs => by
    cases hd : j.dst with
    | none => rfl
    | some d =>
      rw [hd] at hb
      simp only [Bool.not_eq_true'] at hb
      show get (put env d u) s = _
      rw [get_put, if_neg]
      rintro rfl
      simp [hs] at hb
  have e3 : putD (putD env i.dst v) j.dst u = putD (putD env j.dst u) i.dst v := by
    cases hd : i.dst with
    | none => rfl
    | some d =>
      cases he : j.dst with
      | none => rfl
      | some e =>
        rw [hd, he] at ha
        simp only [Bool.and_eq_true, Bool.not_eq_true', beq_eq_false_iff_ne, ne_eq, Option.some.injEq] at ha
        exact put_comm env (fun q => ha.2 q.symm) v u
  rw [val_congr e1] at h2
  rcases hcl with ((((q | q) | ⟨q, q'⟩) | q) | q) | q
  · obtain ⟨rfl, hk⟩ := val01 (by omega) h1
    exact ⟨ob2, h2, (val_congr e2).2 (hk ob2 (.inl q)), e3⟩
  · obtain ⟨rfl, hk⟩ := val01 (by omega) h2
    exact ⟨ob, hk ob (.inl q), (val_congr e2).2 h1, e3⟩
  · obtain ⟨rfl, hk⟩ := val01 (by omega) h1
    exact ⟨ob2, h2, (val_congr e2).2 (hk ob2 (.inr (val2 q' h2))), e3⟩
  · obtain ⟨rfl, hk⟩ := val01 (Nat.le_of_eq (sepLd_cls q)) h1
    exact ⟨ob2, h2, (val_congr e2).2 (val_sep q h1 h2), e3⟩
  · obtain ⟨ob1', k1, k2⟩ := val_fill q h1 h2
    exact ⟨ob1', k1, (val_congr e2).2 k2, e3⟩
  · obtain ⟨ob1', k1, k2⟩ := val_st q h1 h2
    exact ⟨ob1', k1, (val_congr e2).2 k2, e3⟩

/-! ### Chains -/
def Chain (P : Program) : List (Nat × VI) → St → St → Prop
  | [], st, st' => st = st'
  | x :: r, st, st' => ∃ v ob1, ValD P x.2 st.env st.ob v ob1 ∧ Chain P r { st with env := putD st.env x.2.dst v, ob := ob1 } st'

theorem chain_front {x : Nat × VI} : ∀ {A C : List (Nat × VI)} {st st' : St}, (∀ y ∈ A, comm y.2 x.2 = true) → Chain P (A ++ x :: C) st st' → Chain P (x :: (A ++ C)) st st'
  | [], _, _, _, _, h => h
  | y :: A, C, st, st', hc, h => by
    obtain ⟨v, ob1, hv, h⟩ := h
    obtain ⟨u, ob2, hu, h⟩ := chain_front (A := A) (C := C) (fun z hz => hc z (by simp [hz])) h
    obtain ⟨ob1', k1, k2, k3⟩ := swap (hc y (by simp)) hv hu
    refine ⟨u, ob1', k1, v, ob2, k2, ?_⟩
    simp only [k3] at h
    exact h

theorem opD_val {st : St} {K : St → Prop} (h : OpD P i st K) : ∃ v ob1, ValD P i st.env st.ob v ob1 ∧ K { st with env := putD st.env i.dst v, ob := ob1 } := by
  unfold OpD at h
  split at h
  · exact h.elim
  · rename_i hw
    exact ⟨.tup [], st.ob, by unfold ValD; rw [hw]; exact ⟨rfl, rfl⟩, h⟩
  · rename_i hw
    have call : ∀ f args own, i.op.isCall = true → fnArgs st.env i.op = some (f, args, own) → CallD P f args own i.dst st K → ∃ v ob1, ValD P i st.env st.ob v ob1 ∧ K { st with env := putD st.env i.dst v, ob := ob1 } := by
      intro f args own hc hf h
      rcases h with ⟨h1, r, h2, h3⟩ | ⟨b, hb, h1, v, ob1, h2, h3, h4⟩
      · split at h3
        · rename_i v ob' ht
          exact ⟨v, ob', by unfold ValD; rw [hw]; simp only [hc, if_true]; exact .inl ⟨f, args, own, r, hf, h1, h2, ht⟩, h3⟩
        · exact h3.elim
      · exact ⟨v, ob1, by unfold ValD; rw [hw]; simp only [hc, if_true]; exact .inr ⟨f, args, own, b, hf, hb, h1, h2, h3⟩, h4⟩
    split at h
    · rename_i f args own ho
      exact call _ _ _ (by rw [ho]; rfl) (by rw [ho]; rfl) h
    · rename_i x args own ho
      split at h
      · rename_i f cap hf
        exact call _ _ _ (by rw [ho]; rfl) (by rw [ho]; simp only [fnArgs, hf, Option.map_some]) h
      · exact h.elim
    · rename_i op hn1 hn2
      split at h
      · rename_i v ob' hev
        refine ⟨v, ob', ?_, h⟩
        unfold ValD; rw [hw]
        have hc : ¬ i.op.isCall = true := by
          intro q
          unfold VOp.isCall at q
          split at q
          · exact hn1 _ _ _ (by assumption)
          · exact hn2 _ _ _ (by assumption)
          · cases q
        simp only [hc, if_false]
        exact hev
      · exact h.elim

theorem val_opW {st : St} {K : St → Prop} {ob1 : List Obj} (h : ValD P i st.env st.ob v ob1) (hk : K { st with env := putD st.env i.dst v, ob := ob1 }) : OpW P i st K := by
  unfold ValD at h
  unfold OpW
  split at h
  · exact h.elim
  · rename_i hw
    rw [hw]; obtain ⟨rfl, rfl⟩ := h; exact hk
  · rename_i hw
    rw [hw]
    simp only
    split at h
    · rename_i hc
      have key : ∃ f args own, fnArgs st.env i.op = some (f, args, own) ∧ CallW P f args own i.dst st K := by
        rcases h with ⟨f, args, own, r, h1, h2, h3, h4⟩ | ⟨f, args, own, b, h1, hb, h2, h3, h4⟩
        · exact ⟨f, args, own, h1, .inl ⟨h2, r, h3, by rw [h4]; exact hk⟩⟩
        · exact ⟨f, args, _, h1, .inr ⟨.inr (by rw [hb]; rfl), h2, h3.mono (by rintro r o ⟨rfl, rfl⟩; exact hk)⟩⟩
      obtain ⟨f, args, own, h1, hcall⟩ := key
      split
      · rename_i ho
        rw [ho] at hc; cases hc
      · rename_i f' args' own' ho
        rw [ho] at h1
        simp only [fnArgs, Option.some.injEq, Prod.mk.injEq] at h1
        obtain ⟨rfl, rfl, rfl⟩ := h1
        exact hcall
      · rename_i x args' own' ho
        rw [ho] at h1
        simp only [fnArgs, Option.map_eq_some_iff] at h1
        obtain ⟨p, hp, h1⟩ := h1
        simp only [Prod.mk.injEq] at h1
        obtain ⟨rfl, rfl, rfl⟩ := h1
        obtain ⟨f, cap⟩ := p
        rw [hp]
        exact hcall
      · rename_i ho
        rw [ho] at hc; cases hc
      · rename_i ho
        rw [ho] at hc; cases hc
      · rename_i hn1 hn2 hn4 hn3
        exfalso
        unfold VOp.isCall at hc
        split at hc
        · exact hn1 _ _ _ (by assumption)
        · exact hn2 _ _ _ (by assumption)
        · cases hc
    · rename_i hc
      split
      · rename_i ho; rw [ho] at h; simp [VOp.ev] at h
      · rename_i ho; rw [ho] at hc; exact absurd rfl hc
      · rename_i ho; rw [ho] at hc; exact absurd rfl hc
      · rename_i ho; rw [ho] at h; simp [VOp.ev] at h
      · rename_i ho; rw [ho] at h; simp [VOp.ev] at h
      · simp only [h]; exact hk

theorem opsD_chain : ∀ {ps : List (Nat × VI)} {st : St} {K : St → Prop}, OpsD P (ps.map (·.2)) st K → ∃ st', Chain P ps st st' ∧ K st'
  | [], st, K, h => ⟨st, rfl, h⟩
  | x :: r, st, K, h => by
    obtain ⟨v, ob1, hv, h⟩ := opD_val h
    obtain ⟨st', hc, hk⟩ := opsD_chain h
    exact ⟨st', ⟨v, ob1, hv, hc⟩, hk⟩

end
end Go.V

/- V, part 21: a region that draws its order, in the machine. -/
set_option linter.unusedVariables false
set_option linter.unusedSimpArgs false
namespace Go.V
open Go.RowKit

/-- operation i comes after a, whatever is drawn -/
inductive Anc (ops : Array Oper) : Nat → Nat → Prop
  | one {i : Nat} {o : Oper} {e : Edge} (ho : ops[i]? = some o) (he : e ∈ o.after) (hb : Region.binds .any e = true) : Anc ops i e.on
  | more {i a : Nat} {o : Oper} {e : Edge} (ho : ops[i]? = some o) (he : e ∈ o.after) (hb : Region.binds .any e = true) (h : Anc ops e.on a) : Anc ops i a

section
variable {ops : Array Oper}

theorem mem_addAll {x : Nat} : ∀ (l m : List Nat), x ∈ addAll l m → x ∈ l ∨ x ∈ m
  | [], m, h => .inr h
  | y :: r, m, h => by
    simp only [addAll] at h
    rcases mem_addAll r _ h with h | h
    · exact .inl (by simp [h])
    · split at h
      · exact .inr h
      · rcases List.mem_cons.1 h with rfl | h
        · exact .inl (by simp)
        · exact .inr h

theorem mem_ancOf {T : List (List Nat)} {x : Nat} : ∀ {l : List Nat}, x ∈ ancOf T l → ∃ e ∈ l, x = e ∨ x ∈ T.getD e []
  | [], h => by cases h
  | e :: r, h => by
    rcases mem_addAll _ _ h with h | h
    · exact ⟨e, by simp, List.mem_cons.1 h⟩
    · obtain ⟨e', he, h⟩ := mem_ancOf h
      exact ⟨e', by simp [he], h⟩

theorem ancT_ok : ∀ (l : List Oper) (T : List (List Nat)), (∀ k, l[k]? = ops[T.length + k]?) → (∀ j, ∀ a ∈ T.getD j [], Anc ops j a) → ∀ j, ∀ a ∈ (ancT l T).getD j [], Anc ops j a
  | [], T, _, h => h
  | o :: r, T, hl, h => by
    refine ancT_ok r _ (fun k => ?_) ?_
    · have := hl (k + 1)
      simp only [List.getElem?_cons_succ] at this
      rw [this]; simp only [List.length_append, List.length_singleton]; congr 1; omega
    · intro j a ha
      have ho : ops[T.length]? = some o := by have := hl 0; simpa using this.symm
      rcases Nat.lt_trichotomy j T.length with hj | rfl | hj
      · rw [List.getD_eq_getElem?_getD, List.getElem?_append_left hj, ← List.getD_eq_getElem?_getD] at ha
        exact h j a ha
      · simp only [List.getD_eq_getElem?_getD, List.getElem?_append_right (Nat.le_refl _), Nat.sub_self, List.getElem?_cons_zero, Option.getD_some] at ha
        obtain ⟨e, he, hx⟩ := mem_ancOf ha
        simp only [edgesOf, List.mem_map, List.mem_filter, Array.mem_toList_iff] at he
        obtain ⟨E, ⟨h1, h2⟩, rfl⟩ := he
        rcases hx with rfl | hx
        · exact .one ho h1 h2
        · exact .more ho h1 h2 (h _ _ hx)
      · rw [List.getD_eq_getElem?_getD, List.getElem?_eq_none (by simp; omega)] at ha
        simp at ha

theorem dirT_ok : ∀ j, ∀ a ∈ (ops.toList.map edgesOf).getD j [], Anc ops j a := fun j a ha => by
  rw [List.getD_eq_getElem?_getD, List.getElem?_map] at ha
  cases ho : ops.toList[j]? with
  | none => rw [ho] at ha; simp at ha
  | some o =>
    rw [ho] at ha
    simp only [Option.map_some, Option.getD_some, edgesOf, List.mem_map, List.mem_filter, Array.mem_toList_iff] at ha
    obtain ⟨E, ⟨h1, h2⟩, rfl⟩ := ha
    exact .one (by simpa using ho) h1 h2

/-- what is listed has all ahead of it listed -/
def Shut (ops : Array Oper) (listed : Array Bool) : Prop := ∀ i, listed.getD i false = true → ∀ o, ops[i]? = some o → ∀ e ∈ o.after, Region.binds .any e = true → listed.getD e.on false = true

theorem anc_listed {listed : Array Bool} (hs : Shut ops listed) {i a : Nat} (h : Anc ops i a) : (∀ o, ops[i]? = some o → ∀ e ∈ o.after, Region.binds .any e = true → listed.getD e.on false = true) → listed.getD a false = true := by
  induction h with
  | one ho he hb => exact fun hi => hi _ ho _ he hb
  | more ho he hb _ ih => exact fun hi => ih fun o ho' => hs _ (hi _ ho _ he hb) o ho'

theorem pairsOk_pw {T : List (List Nat)} : ∀ {l : List (Nat × VI)}, pairsOk T l = true → l.Pairwise (fun x y => freeP T x y = true)
  | [], _ => .nil
  | x :: r, h => by
    simp only [pairsOk, Bool.and_eq_true, List.all_eq_true] at h
    exact .cons h.1 (pairsOk_pw h.2)

def unl (listed : Array Bool) (ps : List (Nat × VI)) : List (Nat × VI) := ps.filter fun x => !(listed.getD x.1 false)

variable {P : Program} {B : Nat} {w0 : W0} {g : Gh} {nt : Nat} {D : List Deferred} {a : Act} {w : World} {st : St}

theorem topo_ready {listed : Array Bool} : ∀ (r seen : List Nat), topo ops seen r = true → (∀ k ∈ seen, listed.getD k false = true) → (∃ i ∈ r, listed.getD i false = false) → listed.size = ops.size → Region.ready .any ops listed ≠ []
  | [], _, _, _, h, _ => by obtain ⟨_, h, _⟩ := h; cases h
  | i :: r, seen, ht, hs, h, hsz => by
    simp only [topo, Bool.and_eq_true] at ht
    cases ho : ops[i]? with
    | none => rw [ho] at ht; exact absurd ht.1 (by simp)
    | some o =>
      rw [ho] at ht
      cases hl : listed.getD i false with
      | false =>
        have hi : i ∈ Region.ready .any ops listed := by
          refine mem_ready.2 ⟨?_, o, ho, fun e he hb => ?_⟩
          · have hlt := (Array.getElem?_eq_some_iff.1 ho).1
            have h2 : i < listed.size := by omega
            simp [h2] at hl ⊢; exact hl
          · have := List.all_eq_true.1 ht.1 e.on (List.mem_map.2 ⟨e, List.mem_filter.2 ⟨by simpa using he, hb⟩, rfl⟩)
            exact hs _ (by simpa using this)
        intro q
        rw [q] at hi; cases hi
      | true =>
        refine topo_ready r _ ht.2 (fun k hk => ?_) ?_ hsz
        · rcases List.mem_cons.1 hk with rfl | hk
          · exact hl
          · exact hs k hk
        · obtain ⟨j, hj, hjl⟩ := h
          rcases List.mem_cons.1 hj with rfl | hj
          · rw [hl] at hjl; cases hjl
          · exact ⟨j, hj, hjl⟩

theorem opd_step (hcm : w0.cm = cmP P) (S : SInv B w0 st g nt D a w) {ro : Option Nat} {i : Nat} {vi : VI} {o : Oper} (ho : ops[i]? = some o) (hm : mVI P nt ops vi o = true) (hg : gOk nt vi = true) {v : VV} {ob1 : List Obj} (h : ValD P vi st.env st.ob v ob1)
    {Q : Exit → Act → World → Prop} {next : Act → World → Prop} (hn : ∀ g' a' w', SInv B w0 { st with env := putD st.env vi.dst v, ob := ob1 } g' nt D a' w' → next a' w') : wpOpIn (Wd ro) 0 P ops Q i next a w := by
  unfold wpOpIn
  simp only [ho]
  have hgn : ∀ s b, vi.g = some (s, b) → s < nt := fun s b e => by simp only [gOk, e, decide_eq_true_eq] at hg; exact hg
  exact opW_sound (K := fun st' => st' = { st with env := putD st.env vi.dst v, ob := ob1 }) hcm S hm hgn (val_opW h rfl) (fun st' g' a' w' e hS => by subst e; exact hn g' a' w' hS)

theorem draw_steps (hcm : w0.cm = cmP P) {ro : Option Nat} {T : List (List Nat)} (hT : ∀ j, ∀ x ∈ T.getD j [], Anc ops j x) {ps : List (Nat × VI)} (hall : ∀ k, k < ops.size → ∃ x ∈ ps, x.1 = k)
    (hm : ∀ x ∈ ps, gOk nt x.2 = true ∧ ∃ o, ops[x.1]? = some o ∧ mVI P nt ops x.2 o = true) (hp : ps.Pairwise (fun x y => freeP T x y = true)) (ht : topo ops [] (ps.map (·.1)) = true) {Q : Exit → Act → World → Prop} {st' : St} (hQ : ∀ g' a' w', SInv B w0 st' g' nt D a' w' → Q .normal a' w') :
    ∀ (n : Nat) (listed : Array Bool) (st : St) (g : Gh) (a : Act) (w : World), listed.size = ops.size → (unl listed ps).length = n → Shut ops listed → SInv B w0 st g nt D a w → Chain P (unl listed ps) st st' → wpAnyIn (Wd ro) 0 P .any ops Q n listed a w := by
  intro n
  -- who is ready stands in the chain, and may be taken first
  have take : ∀ (listed : Array Bool) (st : St), listed.size = ops.size → Shut ops listed → Chain P (unl listed ps) st st' → ∀ i ∈ Region.ready .any ops listed,
      ∃ x A C, x ∈ ps ∧ x.1 = i ∧ unl listed ps = A ++ x :: C ∧ unl (listed.setIfInBounds i true) ps = A ++ C ∧ Chain P (x :: (A ++ C)) st st' ∧ Shut ops (listed.setIfInBounds i true) := by
    intro listed st hsz hs hc i hi
    obtain ⟨hun, o, ho, hedge⟩ := mem_ready.1 hi
    have hlt : i < ops.size := (Array.getElem?_eq_some_iff.1 ho).1
    have hun' : listed.getD i false = false := by
      have h2 : i < listed.size := by omega
      simp [h2] at hun ⊢; exact hun
    obtain ⟨x, hx, rfl⟩ := hall i hlt
    have hxm : x ∈ unl listed ps := List.mem_filter.2 ⟨hx, by simp [hun']⟩
    obtain ⟨A, C, hAC⟩ := List.append_of_mem hxm
    have hpw : (A ++ x :: C).Pairwise (fun x y => freeP T x y = true) := by rw [← hAC]; exact hp.filter _
    rw [List.pairwise_append, List.pairwise_cons] at hpw
    obtain ⟨hA, ⟨hC, _⟩, hAx⟩ := hpw
    have neA : ∀ y ∈ A, y.1 ≠ x.1 := fun y hy e => by have := hAx y hy x (by simp); simp [freeP, e] at this
    have neC : ∀ y ∈ C, y.1 ≠ x.1 := fun y hy e => by have := hC y hy; simp [freeP, e] at this
    refine ⟨x, A, C, hx, rfl, hAC, ?_, ?_, ?_⟩
    · have : unl (listed.setIfInBounds x.1 true) ps = (unl listed ps).filter (fun y => !(y.1 == x.1)) := by
        unfold unl
        rw [List.filter_filter]
        refine List.filter_congr fun y hy => ?_
        by_cases e : y.1 = x.1
        · have h2 : x.1 < listed.size := by omega
          simp [e, h2]
        · have e' : x.1 ≠ y.1 := fun q => e q.symm
          rw [getD_set_ne false e']
          simp [e]
      rw [this, hAC, List.filter_append, List.filter_cons]
      have h1 : A.filter (fun y => !(y.1 == x.1)) = A := List.filter_eq_self.2 fun y hy => by simp [neA y hy]
      have h2 : C.filter (fun y => !(y.1 == x.1)) = C := List.filter_eq_self.2 fun y hy => by simp [neC y hy]
      simp [h1, h2]
    · refine chain_front (fun y hy => ?_) (by rw [← hAC]; exact hc)
      have h1 := hAx y hy x (by simp)
      simp only [freeP, Bool.and_eq_true, Bool.or_eq_true] at h1
      rcases h1.2 with h2 | h2
      · exfalso
        have h3 := anc_listed hs (hT x.1 y.1 (by simpa using h2)) (fun o' ho' e he hb => by rw [ho] at ho'; cases ho'; exact hedge e he hb)
        have hy' : y ∈ unl listed ps := by rw [hAC]; simp [hy]
        have := (List.mem_filter.1 hy').2
        rw [h3] at this; cases this
      · exact h2
    · intro j hj o' ho' e he hb
      by_cases q : x.1 = j
      · subst q
        rw [ho] at ho'; cases ho'
        exact getD_set_true (hedge e he hb)
      · rw [getD_set_ne false q] at hj
        exact getD_set_true (hs j hj o' ho' e he hb)
  induction n with
  | zero =>
    intro listed st g a w hsz hn hs S hc
    have hnil : unl listed ps = [] := List.eq_nil_of_length_eq_zero hn
    refine ⟨?_, ?_⟩
    · refine List.eq_nil_iff_forall_not_mem.2 fun i hi => ?_
      obtain ⟨x, A, C, _, _, h, _⟩ := take listed st hsz hs hc i hi
      rw [hnil] at h
      cases A <;> simp at h
    · rw [hnil] at hc
      cases hc
      exact hQ _ _ _ S
  | succ n ih =>
    intro listed st g a w hsz hn hs S hc
    refine ⟨fun hr => ?_, fun i hi => ?_⟩
    · -- nobody ready: then nobody is left
      exfalso
      refine topo_ready _ _ ht (by simp) ?_ hsz hr
      cases hu : unl listed ps with
      | nil => rw [hu] at hn; cases hn
      | cons x r =>
        have hx : x ∈ unl listed ps := by rw [hu]; simp
        obtain ⟨h1, h2⟩ := List.mem_filter.1 hx
        exact ⟨x.1, List.mem_map.2 ⟨x, h1, rfl⟩, by simpa using h2⟩
    · obtain ⟨x, A, C, hx, rfl, hAC, hAC', ⟨v, ob1, hv, hc'⟩, hs'⟩ := take listed st hsz hs hc i hi
      obtain ⟨hg, o, ho, hmo⟩ := hm x hx
      refine opd_step hcm S ho hmo hg hv fun g' a' w' S' => ?_
      refine ih _ _ _ _ _ (by simpa using hsz) ?_ hs' S' (by rw [hAC']; exact hc')
      rw [hAC']
      rw [hAC] at hn
      simp at hn ⊢; omega

theorem draw_sound (hcm : w0.cm = cmP P) (S : SInv B w0 st g nt D a w) {ro : Option Nat} {vis : List VI} {ord : List Nat} (hm : mDraw P nt ops vis ord = true) {K : St → Prop} (h : OpsD P vis st K) {id : Nat} {Q : Exit → Act → World → Prop}
    (hQ : ∀ st' g' a' w', K st' → SInv B w0 st' g' nt D a' w' → Q .normal a' w') : (Code.region id ops true).wpIn (Wd ro) 0 P Q a w := by
  simp only [mDraw, Bool.and_eq_true, beq_iff_eq] at hm
  obtain ⟨⟨⟨⟨⟨⟨h1, h2⟩, h3⟩, h4⟩, h5⟩, h6⟩, h7⟩ := hm
  refine wpIn_region_any h1 ?_
  have e1 : (ord.zip vis).map (·.2) = vis := by
    have := List.map_snd_zip (l₁ := ord) (l₂ := vis) (by omega); simpa using this
  have e2 : (ord.zip vis).map (·.1) = ord := by
    have := List.map_fst_zip (l₁ := ord) (l₂ := vis) (by omega); simpa using this
  rw [← e1] at h
  obtain ⟨st', hc, hk⟩ := opsD_chain h
  have hu : unl (Array.replicate ops.size false) (ord.zip vis) = ord.zip vis := by
    refine List.filter_eq_self.2 fun x _ => ?_
    by_cases e : x.1 < ops.size <;> simp [e]
  obtain ⟨T, hT, h6⟩ : ∃ T, (∀ j, ∀ a ∈ T.getD j [], Anc ops j a) ∧ pairsOk T (ord.zip vis) = true := by
    rw [Bool.or_eq_true] at h6
    rcases h6 with q | q
    · exact ⟨_, dirT_ok, q⟩
    · exact ⟨_, ancT_ok _ [] (by simp) (by simp), q⟩
  refine draw_steps hcm (T := T) hT (ps := ord.zip vis) (fun k hk => ?_) (fun x hx => ?_) (pairsOk_pw h6) (by rw [e2]; exact h7) (st' := st') (fun g' a' w' S' => hQ _ _ _ _ hk S') ops.size _ st g a _ (by simp) (by rw [hu]; simp; omega) ?_ ⟨S.H.drew, fun s => Pres.drew S.H _ _ (S.e s), S.n, S.d.pres (Pres.drew S.H), ⟨fun v x h => ⟨Pres.drew S.H _ _ (S.k.1 v x h).1, (S.k.1 v x h).2⟩, S.k.2⟩⟩ (by rw [hu]; exact hc)
  · have := List.all_eq_true.1 h4 k (by simpa using hk)
    have hko : k ∈ ord := by simpa using this
    rw [← e2] at hko
    obtain ⟨x, hx, rfl⟩ := List.mem_map.1 hko
    exact ⟨x, hx, rfl⟩
  · have := List.all_eq_true.1 h5 x hx
    simp only [Bool.and_eq_true] at this
    refine ⟨this.1, ?_⟩
    have h := this.2
    split at h
    · rename_i o ho; exact ⟨o, ho, h⟩
    · cases h
  · intro i hi
    by_cases e : i < ops.size <;> simp [e] at hi

end
end Go.V

/- V, part 21s: a scope through which no jump goes. -/
set_option linter.unusedVariables false
namespace Go.V

section
variable {P : Program} {F : Fence} {n : Nat} {b : Frame} {a : Act} {k : List Item} {cs : List Frame} {w : World} {Q : Exit → Act → World → Prop}
theorem runs_scope {c : Code} : step P (lone (b.atR a (.code (.scope c) :: k)) cs w) = .next (lone (b.atR a (.code c :: .inScope c :: k)) cs w) :=
  step_lone_go (by simp [stepG, stepG.exec, Frame.atR])
theorem runs_inScope {c : Code} : step P (lone (b.atR a (.inScope c :: k)) cs w) = .next (lone (b.atR a k) cs w) :=
  step_lone_go (by simp [stepG, stepG.exec, Frame.atR])

theorem wpIn_scope {c : Code} (h : c.wpIn F n P (Exit.noGoto Q) a w) : (Code.scope c).wpIn F n P Q a w := by
  intro b k cs hro hb hr
  have h0 : (lone (b.atR a (.code (.scope c) :: k)) cs w).fenced P F := fenced_calm hb hr rfl
  obtain ⟨e, a1, w1, hq, harr⟩ := h b (.inScope c :: k) cs hro hb hr
  cases e with
  | normal => exact ⟨.normal, a1, w1, hq, .head h0 runs_scope (StepsIn.trans harr (.one (fenced_calm hb hr rfl) runs_inScope))⟩
  | exit id =>
    have hx : exitTo id (.inScope c :: k) = exitTo id k := by simp [exitTo]
    exact ⟨.exit id, a1, w1, hq, fun k' hk => .head h0 runs_scope (harr.1 k' (by rw [hx]; exact hk)),
      fun hr' hk => let ⟨k1, h1, h2⟩ := harr.2 hr' (by rw [hx]; exact hk); ⟨k1, h1, .head h0 runs_scope h2⟩⟩
  | goto l => exact hq.elim
  | ret => exact ⟨_, a1, w1, hq, .of_steps (.one h0 runs_scope) harr⟩
  | panic ch => exact ⟨_, a1, w1, hq, .of_steps (.one h0 runs_scope) harr⟩
  | outgrown => exact ⟨_, a1, w1, hq, .of_steps (.one h0 runs_scope) harr⟩
end
end Go.V

/- V, part 22: code: what V says of it, and that the machine does it. -/
set_option linter.unusedVariables false
set_option linter.unusedSimpArgs false
namespace Go.V
open Go.RowKit

def iterW (body : St → (Ex → St → Prop) → Prop) (K : Ex → St → Prop) : Nat → St → Prop
  | 0, _ => False
  | n + 1, st => body st fun e st' => match e with
    | .nrm => iterW body K n st'
    | .ext id => K (.ext id) st'
    | .ret => K .ret st'

/-- behind a loop over a function -/
def EndL (st : St) (K : Ex → St → Prop) (ob2 : List Obj) : Prop :=
  match nthO ob2 (st.ob.length + 1) with
  | .loop _ _ _ _ _ s pend => (s = 0 ∨ s = 2) ∧ K pend { st with ob := ob2.set (st.ob.length + 1) .gone, marks := st.ob.length :: st.marks }
  | _ => False

def Wp (P : Program) : VC → St → (Ex → St → Prop) → Prop
  | .skip, st, K => K .nrm st
  | .reg ops none, st, K => Ops P ops st fun st' => K .nrm st'
  | .reg ops (some _), st, K => OpsD P ops st fun st' => K .nrm st'
  | .seq a b, st, K => Wp P a st fun e st' => match e with
    | .nrm => Wp P b st' K
    | .ext id => K (.ext id) st'
    | .ret => K .ret st'
  | .cond c a b, st, K => match c.ev st.env with
    | .bool t => (t = true → Wp P a st K) ∧ (t = false → Wp P b st K)
    | _ => False
  | .block id c, st, K => Wp P c st fun e st' => match e with
    | .nrm => K .nrm st'
    | .ext j => if j = id then K .nrm st' else K (.ext j) st'
    | .ret => K .ret st'
  | .loop c, st, K => ∃ n, iterW (Wp P c) K n st
  | .exit id, st, K => K (.ext id) st
  | .ret, st, K => K .ret st
  | .scope c, st, K => Wp P c st K
  | .rfn _ nt f ps a b, st, K => match fnOf (f.ev st.env) with
    | some (g, cap) => ImpC P g ((VV.yld (st.ob.length + 1) :: cap).map VV.strip) (st.ob ++ [.dfr] ++ [.loop nt st.env ps a b 0 .nrm]) fun r ob2 => EndL st K ob2
    | none => False
  | .drop s k c, st, K => match dropW st s k with
    | some st' => Wp P c st' K
    | none => False
  | .own s f sz c, st, K => match ownW st s f sz with
    | some st' => Wp P c st' K
    | none => False

def exOf : Ex → Exit
  | .nrm => .normal
  | .ext id => .exit id
  | .ret => .ret

section
variable {P : Program} {B : Nat} {w0 : W0} {g : Gh} {nt : Nat} {D : List Deferred} {a : Act} {w : World} {st : St}

theorem least {p : Nat → Prop} (h : ∃ n, p n) : ∃ n, p n ∧ ∀ m, p m → n ≤ m := by
  obtain ⟨n, hn⟩ := h
  induction n using Nat.strongRecOn with
  | _ n ih =>
    by_cases q : ∃ m, m < n ∧ p m
    · obtain ⟨m, hm, hp⟩ := q
      exact ih m hm hp
    · exact ⟨n, hn, fun m hm => Nat.le_of_not_lt fun hlt => q ⟨m, hlt, hm⟩⟩

theorem iterW_mono {body : St → (Ex → St → Prop) → Prop} (hb : ∀ st (K K' : Ex → St → Prop), (∀ e s, K e s → K' e s) → body st K → body st K') {K K' : Ex → St → Prop} (hk : ∀ e s, K e s → K' e s) : ∀ n st, iterW body K n st → iterW body K' n st
  | 0, _, h => h
  | n + 1, st, h => hb st _ _ (fun e s h => by
      cases e with
      | nrm => exact iterW_mono hb hk n s h
      | ext id => exact hk _ _ h
      | ret => exact hk _ _ h) h

theorem callW_mono {f : Nat} {args : List VV} {own : Option (Option Nat × Nat)} {d : Option Nat} {K K' : St → Prop} (hk : ∀ s, K s → K' s) (h : CallW P f args own d st K) : CallW P f args own d st K' := by
  rcases h with ⟨h1, r, h2, h3⟩ | ⟨h1, h2, h3, h4⟩
  · refine .inl ⟨h1, r, h2, ?_⟩
    split at h3
    · exact hk _ h3
    · exact h3.elim
  · refine .inr ⟨h1, h2, h3, fun B w0 g w vals hcm H hs hv => CallsIn.mono (h4 B w0 g w vals hcm H hs hv) ?_⟩
    rintro e w' ⟨x, g', r, ob', q1, q2, q3⟩
    exact ⟨x, g', r, ob', q1, hk _ q2, q3⟩

theorem callD_mono {f : Nat} {args : List VV} {own : Option (Option Nat × Nat)} {d : Option Nat} {K K' : St → Prop} (hk : ∀ s, K s → K' s) (h : CallD P f args own d st K) : CallD P f args own d st K' := by
  rcases h with ⟨h1, r, h2, h3⟩ | ⟨b, h1, h2, v, ob1, h3, h4, h5⟩
  · refine .inl ⟨h1, r, h2, ?_⟩
    split at h3
    · exact hk _ h3
    · exact h3.elim
  · exact .inr ⟨b, h1, h2, v, ob1, h3, h4, hk _ h5⟩

theorem YldC.mono {o : Nat} {args : List VV} {ob : List Obj} {R R' : VV → List Obj → Prop} (h : YldC P o args ob R) (hr : ∀ r o, R r o → R' r o) : YldC P o args ob R' := by
  intro B w0 g w l vals h1 h2 h3 h4 h5
  obtain ⟨f, tmps, assign, body, q1, q2⟩ := h B w0 g w l vals h1 h2 h3 h4 h5
  refine ⟨f, tmps, assign, body, q1, RoundIn.mono q2 ?_⟩
  rintro e w' ⟨x, g', r, ob', q1, q2, q3⟩
  exact ⟨x, g', r, ob', q1, hr _ _ q2, q3⟩

theorem callN_mono {f : Nat} {args : List VV} {own : Option (Option Nat × Nat)} {d : Option Nat} {K K' : St → Prop} (hk : ∀ s, K s → K' s) (h : CallN P f args own d st K) : CallN P f args own d st K' := by
  obtain ⟨h1, r, h2, h3⟩ := h
  refine ⟨h1, r, h2, ?_⟩
  split at h3
  · exact hk _ h3
  · exact h3.elim
theorem opW_mono {i : VI} {K K' : St → Prop} (hk : ∀ s, K s → K' s) (h : OpW P i st K) : OpW P i st K' := by
  unfold OpW at h ⊢
  split at h
  · exact h.elim
  · exact hk _ h
  · split at h
    · exact callN_mono hk h
    · exact callW_mono hk h
    · split at h
      · exact callW_mono hk h
      · split at h
        · exact ⟨h.1, h.2.mono fun r o h => hk _ h⟩
        · exact h.elim
    · split at h
      · exact hk _ h
      · exact fun b => hk _ (h b)
      · exact fun b => hk _ (h b)
      · exact h.elim
    · split at h
      · split at h
        · exact ⟨fun q => hk _ (h.1 q), fun p hp => hk _ (h.2 p hp)⟩
        · exact h.elim
      · exact h.elim
    · split at h
      · exact hk _ h
      · exact h.elim

theorem opD_mono {i : VI} {K K' : St → Prop} (hk : ∀ s, K s → K' s) (h : OpD P i st K) : OpD P i st K' := by
  unfold OpD at h ⊢
  split at h
  · exact h.elim
  · exact hk _ h
  · split at h
    · exact callD_mono hk h
    · split at h
      · exact callD_mono hk h
      · exact h.elim
    · split at h
      · exact hk _ h
      · exact h.elim

theorem ops_mono {K K' : St → Prop} (hk : ∀ s, K s → K' s) : ∀ (l : List VI) (st : St), Ops P l st K → Ops P l st K'
  | [], _, h => hk _ h
  | _ :: r, _, h => opW_mono (fun s h => ops_mono hk r s h) h

theorem opsD_mono {K K' : St → Prop} (hk : ∀ s, K s → K' s) : ∀ (l : List VI) (st : St), OpsD P l st K → OpsD P l st K'
  | [], _, h => hk _ h
  | _ :: r, _, h => opD_mono (fun s h => opsD_mono hk r s h) h

theorem wp_mono {c : VC} : ∀ (st : St) (K K' : Ex → St → Prop), (∀ e s, K e s → K' e s) → Wp P c st K → Wp P c st K' := by
  induction c with
  | skip => exact fun st K K' hk h => hk _ _ h
  | reg ops d =>
    intro st K K' hk h
    cases d with
    | none => exact ops_mono (fun s h => hk _ _ h) ops st h
    | some o => exact opsD_mono (fun s h => hk _ _ h) ops st h
  | seq a b iha ihb =>
    intro st K K' hk h
    refine iha _ _ _ (fun e s h => ?_) h
    cases e with
    | nrm => exact ihb _ _ _ hk h
    | ext id => exact hk _ _ h
    | ret => exact hk _ _ h
  | cond c a b iha ihb =>
    intro st K K' hk h
    simp only [Wp] at h ⊢
    split at h
    · exact ⟨fun t => iha _ _ _ hk (h.1 t), fun t => ihb _ _ _ hk (h.2 t)⟩
    · exact h.elim
  | block id c ih =>
    intro st K K' hk h
    refine ih _ _ _ (fun e s h => ?_) h
    cases e with
    | nrm => exact hk _ _ h
    | ext j =>
      simp only at h ⊢
      split at h
      · rename_i e; rw [if_pos e]; exact hk _ _ h
      · rename_i e; rw [if_neg e]; exact hk _ _ h
    | ret => exact hk _ _ h
  | loop c ih => exact fun st K K' hk ⟨n, h⟩ => ⟨n, iterW_mono ih hk n st h⟩
  | exit id => exact fun st K K' hk h => hk _ _ h
  | ret => exact fun st K K' hk h => hk _ _ h
  | scope c ih => exact fun st K K' hk h => ih _ _ _ hk h
  | rfn nest nt f ps a b =>
    intro st K K' hk h
    simp only [Wp] at h ⊢
    split at h
    · refine h.mono fun r ob2 h => ?_
      unfold EndL at h ⊢
      split at h
      · exact ⟨h.1, hk _ _ h.2⟩
      · exact h.elim
    · exact h.elim
  | drop s k c ih =>
    intro st K K' hk h
    simp only [Wp] at h ⊢
    split at h
    · exact ih _ _ _ hk h
    · exact h.elim
  | own s f sz c ih =>
    intro st K K' hk h
    simp only [Wp] at h ⊢
    split at h
    · exact ih _ _ _ hk h
    · exact h.elim

theorem ops_sound (hcm : w0.cm = cmP P) {ro : Option Nat} {ops : Array Oper} {K : St → Prop} {Q : Exit → Act → World → Prop} (hQ : ∀ st' g' a' w', K st' → SInv B w0 st' g' nt D a' w' → Q .normal a' w') :
    ∀ (vis : List VI) (l : List Oper) (k : Nat) (st : St) (g : Gh) (a : Act) (w : World), vis.all (gOk nt) = true → mVIs P nt ops vis l = true → (∀ j, l[j]? = ops[k + j]?) → SInv B w0 st g nt D a w → Ops P vis st K →
      wpOpsIn (Wd ro) 0 P ops Q (List.range' k l.length) a w
  | [], [], _, st, g, a, w, _, _, _, S, h => by simpa [wpOpsIn] using hQ _ _ _ _ h S
  | [], _ :: _, _, _, _, _, _, _, h, _, _, _ => by simp [mVIs] at h
  | _ :: _, [], _, _, _, _, _, _, h, _, _, _ => by simp [mVIs] at h
  | i :: r, o :: s, k, st, g, a, w, hg, hm, hl, S, h => by
    simp only [mVIs, Bool.and_eq_true] at hm
    simp only [List.all_cons, Bool.and_eq_true] at hg
    have ho : ops[k]? = some o := by have := hl 0; simpa using this.symm
    have hgn : ∀ s b, i.g = some (s, b) → s < nt := fun s b e => by have := hg.1; simp only [gOk, e, decide_eq_true_eq] at this; exact this
    have := opW_sound hcm (ro := ro) (ops := ops) S hm.1 hgn h (Q := Q) (next := wpOpsIn (Wd ro) 0 P ops Q (List.range' (k + 1) s.length)) fun st' g' a' w' hk hS =>
      ops_sound hcm hQ r s (k + 1) st' g' a' w' hg.2 hm.2 (fun j => by have := hl (j + 1); simp only [List.getElem?_cons_succ] at this; rw [this]; congr 1; omega) hS hk
    simp only [List.length_cons, List.range'_succ, wpOpsIn, ho]
    exact this

theorem wp_sound (hcm : w0.cm = cmP P) {ro : Option Nat} {r : Bool} (hr : r = ro.isSome) : ∀ (c : VC) (code : Code) (st : St) (g : Gh) (a : Act) (w : World) (K : Ex → St → Prop) (Q : Exit → Act → World → Prop), mVC P nt r c code = true → SInv B w0 st g nt D a w → Wp P c st K →
    (∀ e st' g' a' w', K e st' → SInv B w0 st' g' nt D a' w' → Q (exOf e) a' w') → code.wpIn (Wd ro) 0 P Q a w := by
  intro c
  induction c with
  | skip =>
    intro code st g a w K Q hm S h hQ
    cases code <;> simp only [mVC, Bool.false_eq_true] at hm
    · exact wpIn_skip (hQ _ _ _ _ _ h S)
    · exact wpIn_label (hQ _ _ _ _ _ h S)
  | reg vis d =>
    intro code st g a w K Q hm S h hQ
    cases d with
    | none =>
      cases code <;> try simp only [mVC, Bool.false_eq_true] at hm
      rename_i id ops dr
      cases dr <;> simp only [mVC, Bool.false_eq_true, Bool.and_eq_true] at hm
      refine wpIn_region ?_
      have := ops_sound hcm (ro := ro) (ops := ops) (K := fun s => K .nrm s) (Q := Q) (fun st' g' a' w' hk hS => hQ _ _ _ _ _ hk hS) vis ops.toList 0 st g a w hm.1 hm.2 (by simp) S h
      rw [List.range_eq_range']
      simpa using this
    | some ord =>
      cases code <;> try simp only [mVC, Bool.false_eq_true] at hm
      rename_i id ops dr
      cases dr <;> simp only [mVC, Bool.false_eq_true] at hm
      exact draw_sound hcm S hm h fun st' g' a' w' hk hS => hQ _ _ _ _ _ hk hS
  | seq a b iha ihb =>
    intro code st g ac w K Q hm S h hQ
    cases code <;> simp only [mVC, Bool.false_eq_true, Bool.and_eq_true] at hm
    refine wpIn_seq (iha _ _ _ _ _ _ _ hm.1 S h fun e st' g' a' w' hk hS => ?_)
    cases e with
    | nrm => exact ihb _ _ _ _ _ _ _ hm.2 hS hk hQ
    | ext id => exact hQ _ _ _ _ _ hk hS
    | ret => exact hQ _ _ _ _ _ hk hS
  | cond x a b iha ihb =>
    intro code st g ac w K Q hm S h hQ
    cases code <;> simp only [mVC, Bool.false_eq_true, Bool.and_eq_true] at hm
    rename_i y c d
    simp only [Wp] at h
    split at h
    · rename_i t ht
      have hx := S.reads.opd hm.1.1
      rw [ht] at hx
      refine wpIn_cond (t := t) hx.bool_inv ?_
      cases t with
      | true => exact iha _ _ _ _ _ _ _ hm.1.2 S (h.1 rfl) hQ
      | false => exact ihb _ _ _ _ _ _ _ hm.2 S (h.2 rfl) hQ
    · exact h.elim
  | block id c ih =>
    intro code st g ac w K Q hm S h hQ
    cases code <;> simp only [mVC, Bool.false_eq_true, Bool.and_eq_true, beq_iff_eq] at hm
    obtain ⟨rfl, hm⟩ := hm
    refine wpIn_block (ih _ _ _ _ _ _ _ hm S h fun e st' g' a' w' hk hS => ?_)
    cases e with
    | nrm => exact hQ _ _ _ _ _ hk hS
    | ext j =>
      simp only [exOf, Exit.inBlock]
      simp only at hk
      split at hk
      · rename_i e; rw [if_pos e]; exact hQ _ _ _ _ _ hk hS
      · rename_i e; rw [if_neg e]; exact hQ _ _ _ _ _ hk hS
    | ret => exact hQ _ _ _ _ _ hk hS
  | loop c ih =>
    intro code st g ac w K Q hm S h hQ
    cases code <;> simp only [mVC, Bool.false_eq_true] at hm
    rename_i code
    obtain ⟨n, h⟩ := h
    classical
    let Z : Act → World → Nat → Prop := fun a w n => ∃ st g, SInv B w0 st g nt D a w ∧ iterW (Wp P c) K n st
    refine wpIn_loop (fun a w => ∃ n, Z a w n) (fun a w => if h : ∃ n, Z a w n then Classical.choose (least h) else 0) ⟨n, st, g, S, h⟩ ?_
    intro a w hI
    simp only [dif_pos hI]
    obtain ⟨st1, g1, S1, h1⟩ := (Classical.choose_spec (least hI)).1
    revert h1
    generalize Classical.choose (least hI) = m
    intro h1
    cases m with
    | zero => exact h1.elim
    | succ m =>
      refine ih _ _ _ _ _ _ _ hm S1 h1 fun e st' g' a' w' hk hS => ?_
      cases e with
      | nrm =>
        have hz : ∃ n, Z a' w' n := ⟨m, st', g', hS, hk⟩
        refine ⟨hz, ?_⟩
        simp only [dif_pos hz]
        exact Nat.lt_succ_of_le ((Classical.choose_spec (least hz)).2 _ ⟨st', g', hS, hk⟩)
      | ext id => exact hQ _ _ _ _ _ hk hS
      | ret => exact hQ _ _ _ _ _ hk hS
  | exit id =>
    intro code st g a w K Q hm S h hQ
    cases code <;> simp only [mVC, Bool.false_eq_true, beq_iff_eq] at hm
    subst hm
    exact wpIn_exit (hQ _ _ _ _ _ h S)
  | ret =>
    intro code st g a w K Q hm S h hQ
    cases code <;> simp only [mVC, Bool.false_eq_true] at hm
    exact wpIn_ret (hQ _ _ _ _ _ h S)
  | scope c ih =>
    intro code st g a w K Q hm S h hQ
    cases code <;> simp only [mVC, Bool.false_eq_true] at hm
    refine wpIn_scope (ih _ _ _ _ _ _ _ hm S h fun e st' g' a' w' hk hS => ?_)
    cases e with
    | nrm => exact hQ _ _ _ _ _ hk hS
    | ext id => exact hQ _ _ _ _ _ hk hS
    | ret => exact hQ _ _ _ _ _ hk hS
  | rfn nest n f ps ca cb _ _ =>
    intro code st g ac w K Q hm S h hQ
    cases code <;> simp only [mVC, Bool.false_eq_true, Bool.and_eq_true, beq_iff_eq, Bool.not_eq_true'] at hm
    rename_i x qs cc cd
    obtain ⟨⟨⟨⟨⟨⟨hr0, rfl⟩, hx⟩, rfl⟩, _⟩, hma⟩, hmb⟩ := hm
    obtain rfl : ro = none := by
      rw [hr0] at hr
      cases ro with
      | none => rfl
      | some l => simp at hr
    simp only [Wp] at h
    split at h
    · rename_i fi cap hf
      have hgx := S.reads.opd hx
      have hxe : f.ev st.env = .fn fi cap := by
        revert hf
        cases f.ev st.env <;> simp [fnOf]
      rw [hxe] at hgx
      have hrep := hgx.rep
      have hids := hgx.ids
      revert hrep
      generalize hy : ac.eval x = z
      intro hrep
      cases hrep with
      | @fn _ _ xs hcn hl hrs =>
        refine wpIn_rangeFunc fun fn hfn => ?_
        obtain ⟨g1, H1, p1, t0, t1⟩ := S.H.enter (fn := fn) (ps := qs) (ca := cc) (cb := cd) (va := ca) (vb := cb) S.n S.e (by rw [S.H.c0.1, hcm]; exact hma) (by rw [S.H.c0.1, hcm]; exact hmb)
        obtain ⟨hok, hcall⟩ := h
        let W1 : World := (w.alloc (.deferred (some []))).alloc (.loop { state := .ready, pending := none, fn := fn, tmps := ac.tmps, params := qs, assign := cc, body := cd, defers := w.heap.size })
        refine ⟨w.heap.size + 1, [{ target := .collected w.heap.size, args := #[] }], W1, { target := .fn (.func fi) xs, args := #[.func (.yield (w.heap.size + 1)) #[] #[]] }, W1, fi, #[.func (.yield (w.heap.size + 1)) #[] #[]] ++ xs, W1, run_enterLoop_outer _ _ _ _ _, ?_, fun _ _ => trivial, ?_, fun h => by simp [Wd, Fence.wide] at h, ?_⟩
        · simp only [resolve, hy]
          simp [go_sem]
        · simp [invoke, go_sem, callFunc_ok hok]
        · have hargs : ∀ j (h : j < ((VV.yld (st.ob.length + 1) :: cap).map VV.strip).length) (h' : j < (#[Value.func (.yield (w.heap.size + 1)) #[] #[]] ++ xs).size), GV B (st.ob ++ [.dfr] ++ [.loop n st.env qs.toList ca cb 0 .nrm]) g1 W1 ((VV.yld (st.ob.length + 1) :: cap).map VV.strip)[j] (#[Value.func (.yield (w.heap.size + 1)) #[] #[]] ++ xs)[j] := by
            intro j hj hj'
            simp only [List.getElem_map]
            cases j with
            | zero =>
              simp only [List.getElem_cons_zero]
              rw [Array.getElem_append_left (by simp)]
              exact ⟨.yld t1, trivial, by simp [VV.strip, VV.strip0, VV.ids]⟩
            | succ j =>
              have hjc : j < cap.length := by simpa using hj
              simp only [List.getElem_cons_succ]
              rw [Array.getElem_append_right (by simp)]
              simp only [List.size_toArray, List.length_cons, List.length_nil, Nat.zero_add, Nat.add_sub_cancel]
              have hnh := List.all_eq_true.1 hcn _ (List.getElem_mem hjc)
              have hgv : GV B st.ob g w cap[j] (xs[j]'(by omega)) := ⟨hrs j hjc, noHnd_hnd hnh _, idsL_get (by simpa [VV.ids] using hids) _ hjc⟩
              refine (p1 _ _ hgv).strip ?_
              revert hnh
              generalize cap[j] = q
              cases q <;> simp [VV.noHnd, VV.noHnd0, VV.noTup]
          refine CallsIn.mono (calls_wd (hcall B w0 g1 W1 _ hcm H1 (by simp [hl]; omega) hargs)) ?_
          rintro e w3 ⟨y, g2, r', ob2, rfl, hend, H2, _, p2⟩
          unfold EndL at hend
          split at hend
          · rename_i nt' env' ps' va' vb' s' pend ho
            obtain ⟨hs, hk⟩ := hend
            obtain ⟨_, blk, rec, k1, k2, k3, k4, k5, k6, k7, k8, k9, k10, k11⟩ := H2.get ho (by simp)
            have hyl : GV B ob2 g2 w3 (.yld (st.ob.length + 1)) (.func (.yield (w.heap.size + 1)) #[] #[]) := p2 _ _ ⟨.yld t1, trivial, by simp [VV.ids]⟩
            have hbk : blk = w.heap.size + 1 := by
              have := hyl.rep
              cases this with
              | yld q => rw [k1] at q; cases q; rfl
            subst hbk
            have hnb : rec.state ≠ .busy := by
              intro q
              rw [q] at k10
              rcases hs with rfl | rfl <;> simp [stOf] at k10
            obtain ⟨H3, p3⟩ := H2.putO (X' := .gone) (mo' := .loop { rec with state := .exhausted }) ho (by simp) (by simp) k1 k4 k2 k3 (fun _ => trivial)
            have pall : Pres B st.ob g w (ob2.set (st.ob.length + 1) .gone) g2 (putAt w3 (w.heap.size + 1) (.loop { rec with state := .exhausted })) := (p1.trans p2).trans p3
            have S3 : SInv B w0 { st with ob := ob2.set (st.ob.length + 1) .gone, marks := st.ob.length :: st.marks } g2 n D { ac with defers := [{ target := .collected w.heap.size, args := #[] }] ++ ac.defers } (putAt w3 (w.heap.size + 1) (.loop { rec with state := .exhausted })) := by
              refine ⟨H3, fun s => pall _ _ (S.e s), S.n, ⟨w.heap.size, ac.defers, rfl, ?_, S.d.pres pall⟩, ⟨fun v x h => ⟨pall _ _ (S.k.1 v x h).1, (S.k.1 v x h).2⟩, S.k.2⟩⟩
              exact p3 _ _ (p2 _ _ ⟨.yld t0, trivial, by simp [VV.ids]⟩)
            have hQ3 := hQ _ _ _ _ _ hk S3
            refine ⟨pendOf pend, _, by have := run_endLoop (P := P) k4 hnb; rw [k11] at this; exact this, ?_⟩
            rw [k11] at hQ3
            cases pend with
            | nrm => exact hQ3
            | ext id => exact wpIn_exit hQ3
            | ret => exact wpIn_ret hQ3
          · exact hend.elim
    · exact h.elim
  | drop s k c ih =>
    intro code st g a w K Q hm S h hQ
    simp only [Wp] at h
    split at h
    · rename_i st' hd
      obtain ⟨g', S'⟩ := drop_sound S hd
      exact ih _ _ _ _ _ _ _ (by cases code <;> simpa only [mVC] using hm) S' h hQ
    · exact h.elim
  | own s f sz c ih =>
    intro code st g a w K Q hm S h hQ
    simp only [Wp] at h
    split at h
    · rename_i st' hd
      obtain ⟨g', S'⟩ := own_sound S hd
      exact ih _ _ _ _ _ _ _ (by cases code <;> simpa only [mVC] using hm) S' h hQ
    · exact h.elim

end
end Go.V

/- V, part 23: functions: a contract from what V says of the body. -/
set_option linter.unusedVariables false
set_option linter.unusedSimpArgs false
namespace Go.V
open Go.RowKit

def mRes (P : Program) : List (Nat × Option Nat) → List ResultVar → Bool
  | [], [] => true
  | (t, none) :: r, .tmp u :: s => t == u && mRes P r s
  | (t, some n) :: r, .cell u ty :: s => t == u && varIs P ty n && mRes P r s
  | _, _ => false

def resOf (st : S0) : Nat × Option Nat → Option VV
  | (s, none) => some (get st.env s)
  | (s, some n) => match get st.env s with
    | .ptr o off => match nthO st.ob o with
      | .cells cs => loadV n cs off
      | _ => none
    | _ => none

def resOfL (st : S0) : List (Nat × Option Nat) → Option (List VV)
  | [] => some []
  | x :: r => match resOf st x, resOfL st r with
    | some v, some l => some (v :: l)
    | _, _ => none

def mFn (P : Program) (f : Nat) (vf : VF) : Bool :=
  callOk P f && match P.funcs[f]? with
  | some fn => fn.ntmps == vf.ntmps && vf.params ≤ vf.ntmps && mRes P vf.results fn.results.toList && match fn.body with
    | some c => mVC P vf.ntmps false vf.body c
    | none => false
  | none => false

def envA : Nat → List VV → List (Nat × VV)
  | _, [] => []
  | k, v :: r => (k, v) :: envA (k + 1) r

/-- the slice of a handle, told as fresh -/
def freshen (ob : List Obj) : VV → Option VV
  | .sl es (t + 2) => match nthO ob t with
    | .tok n _ => if es.length = n then some (.sl es 1) else none
    | _ => none
  | .nils => some (.sl [] 1)
  | _ => none

def outR (fresh : Option Nat) (ob : List Obj) (vs : List VV) : Option VV :=
  if vs.all VV.noTup then match vs, fresh with
    | [v], none => some v.strip
    | [v], some _ => freshen ob v
    | vs, none => some (.tup (vs.map VV.strip))
    | vs, some i => match vs[i]? with
      | some v => (freshen ob v).map fun u => .tup ((vs.map VV.strip).set i u)
      | none => none
  else none

def argOk (v : VV) : Bool := v.noHnd && v.ids 0

def FnW (P : Program) (vf : VF) (args : List VV) (r : VV) : Prop :=
  Wp P vf.body { env := envA 0 args, ob := [], base := 0, pure := true } fun e st => True ∧ (match e with | .ext _ => False | _ => True) ∧ ((closeM st.marks st.ob).bind fun ob' => (resOfL ⟨st.env, ob'⟩ vf.results).bind (outR vf.fresh ob')) = some r ∧ r.ids 0 = true

def resVal (xs : List Value) : Value := if h : xs.length = 1 then xs[0] else .tuple xs.toArray

section
variable {P : Program} {B : Nat} {w0 : W0} {g : Gh} {nt : Nat} {D : List Deferred} {a : Act} {w : World} {st : St} {ob : List Obj}

/-- values side by side -/
def GVL (B : Nat) (ob : List Obj) (g : Gh) (w : World) (vs : List VV) (xs : List Value) : Prop := xs.length = vs.length ∧ ∀ j (h : j < vs.length) (h' : j < xs.length), GV B ob g w vs[j] xs[j]

theorem cell_run (H : HInv B w0 ob g w) {s : VV} {x : Value} (hg : GV B ob g w s x) {n : Nat} {t : TypeId} (ht : varIs P t n = true) {o off : Nat} (he : s = .ptr o off) {cs : List VV} (ho : nthO ob o = .cells cs) {v : VV} (hl : loadV n cs off = some v) :
    ∃ y, (do loadVar t (← asAddr x) : Sem Value).run P w = .ok y w ∧ GV B ob g w v y := by
  subst he
  obtain ⟨hoff, _⟩ := loadV_inv hl
  obtain ⟨b, hx, htb⟩ := hg.ptr_inv
  obtain ⟨_, b', arr, ty, h1, h2, h3, ⟨fr, hfr, h4⟩, hsz, h5⟩ := H.get ho (by simp)
  rw [htb] at h1; cases h1
  have hcell : ∀ j (hj : j < cs.length), w.cell? ⟨b, j, none⟩ = some (arr[j]'(Nat.lt_of_lt_of_le hj hsz)) := fun j hj => by simp [World.cell?, h4, Nat.lt_of_lt_of_le hj hsz]
  have hr := run_loadVar_vals (w := w) ht b off (fun j => arr.getD (off + j) Go.undef) fun j hj => by
    rw [hcell (off + j) (by omega)]; simp [show off + j < arr.size by omega]
  refine ⟨if n = 0 then arr.getD (off + 0) Go.undef else .agg ((List.range n).map fun j => arr.getD (off + j) Go.undef).toArray, ?_, ?_⟩
  · subst hx
    simp only [asAddr, Sem.run_bind, Sem.run_pure, Result.andThen_ok, hr]
  · have := GV.loadV (B := B) (ob := ob) (g := g) (w := w) hl (List.all_eq_true.2 fun u hu => by obtain ⟨j, hj, rfl⟩ := List.getElem_of_mem hu; exact (h5 j hj).1) (fun j => arr.getD j Go.undef)
      fun j hj => by have := (h5 j hj).2; simpa [Nat.lt_of_lt_of_le hj hsz] using this
    simpa using this

theorem results_run (S : SInv B w0 st g nt D a w) : ∀ {rs : List (Nat × Option Nat)} {l : List ResultVar} {vs : List VV}, mRes P rs l = true → resOfL st.toS0 rs = some vs →
    ∃ xs, (l.mapM (m := Sem) fun | .tmp t => pure (a.tmps.getD t Go.undef) | .cell q t => do loadVar t (← asAddr (a.tmps.getD q Go.undef))).run P w = .ok xs w ∧ GVL B st.ob g w vs xs
  | [], [], vs, _, h => by
    simp only [resOfL, Option.some.injEq] at h
    subst h
    exact ⟨[], by simp, rfl, fun j h => absurd h (by simp)⟩
  | x :: r, y :: s, vs, hm, h => by
    simp only [resOfL] at h
    split at h
    · rename_i v l hv hl
      cases h
      have one : mRes P r s = true ∧ ∃ z, ((match y with | .tmp t => pure (a.tmps.getD t Go.undef) | .cell q t => do loadVar t (← asAddr (a.tmps.getD q Go.undef))) : Sem Value).run P w = .ok z w ∧ GV B st.ob g w v z := by
        obtain ⟨q, o⟩ := x
        cases o with
        | none =>
          cases y with
          | tmp u =>
            simp only [mRes, Bool.and_eq_true, beq_iff_eq] at hm
            obtain ⟨rfl, hm⟩ := hm
            simp only [resOf, Option.some.injEq] at hv
            subst hv
            exact ⟨hm, _, by simp only [Sem.run_pure], S.e q⟩
          | cell u t => simp [mRes] at hm
        | some n =>
          cases y with
          | tmp u => simp [mRes] at hm
          | cell u t =>
            simp only [mRes, Bool.and_eq_true, beq_iff_eq] at hm
            obtain ⟨⟨rfl, ht⟩, hm⟩ := hm
            simp only [resOf] at hv
            split at hv
            · rename_i o off he
              split at hv
              · rename_i cs ho
                have := cell_run (P := P) S.H (S.e q) ht he ho hv
                exact ⟨hm, this⟩
              · cases hv
            · cases hv
      obtain ⟨hm', z, hz, hgz⟩ := one
      obtain ⟨xs, hxs, hlen, hg⟩ := results_run S hm' hl
      refine ⟨z :: xs, ?_, by simp [hlen], fun j h h' => ?_⟩
      · simp only [List.mapM_cons, Sem.run_bind, hz, Result.andThen_ok, hxs, Sem.run_pure]
      · cases j with
        | zero => exact hgz
        | succ j => exact hg j (by simpa using h) (by simpa using h')
    · cases h
  | [], _ :: _, _, h, _ => by simp [mRes] at h
  | (_, none) :: _, [], _, h, _ => by simp [mRes] at h
  | (_, some _) :: _, [], _, h, _ => by simp [mRes] at h

theorem results_val {fn : Func} {xs : List Value} {tmps : Array Value} (h : (fn.results.toList.mapM (m := Sem) fun | .tmp t => pure (tmps.getD t Go.undef) | .cell q t => do loadVar t (← asAddr (tmps.getD q Go.undef))).run P w = .ok xs w) :
    (results fn tmps).run P w = .ok (resVal xs) w := by
  unfold results
  have h2 : fn.results = fn.results.toList.toArray := by simp
  rw [h2]
  simp only [List.mapM_toArray, map_eq_pure_bind, bind_assoc, pure_bind, Sem.run_bind]
  refine (congrArg (fun r => Result.andThen r _) h).trans ?_
  simp only [Result.andThen_ok, Sem.run_pure]
  unfold resVal
  simp

theorem get_envA : ∀ (args : List VV) (k s : Nat), get (envA k args) s = if k ≤ s then (args[s - k]?).getD .dead else .dead
  | [], k, s => by simp [envA, get]
  | v :: r, k, s => by
    simp only [envA, get]
    by_cases e : k = s
    · subst e; simp
    · rw [if_neg e, get_envA r (k + 1) s]
      by_cases h : k ≤ s
      · rw [if_pos h, if_pos (by omega), show s - k = (s - (k + 1)) + 1 by omega, List.getElem?_cons_succ]
      · rw [if_neg h, if_neg (by omega)]

theorem rep_tok {F : Nat → Nat} {tb : Nat → Option Nat} {es : List VV} {t t' : Nat} {x : Value} (h : Rep w F tb (.sl es t) x) : Rep w F tb (.sl es t') x := by
  cases h with
  | slE => exact .slE
  | sl vals hne hcap hsz hc h hr hF => exact .sl vals hne hcap hsz hc h hr hF

theorem fresh_strip (v : VV) (n0 : Nat) (F : Nat → Nat) (x : Value) (h : v.noTup = true) : Fresh n0 w F v.strip x ∧ ∀ es, v.strip ≠ .sl es 1 := by
  cases v <;> first | exact ⟨trivial, fun es h => by simp [VV.strip, VV.strip0] at h⟩ | (simp [VV.noTup] at h)

theorem freshen_ok {v : VV} {x : Value} (H : GV B ob g w v x) {u : VV} (h : freshen ob v = some u) : Rep w g.F g.tb u x ∧ Fresh B w g.F u x ∧ ∃ es, u = .sl es 1 := by
  unfold freshen at h
  split at h
  · rename_i es t
    split at h
    · rename_i n sz ht
      split at h
      · rename_i hn
        cases h
        refine ⟨rep_tok H.rep, ?_, es, rfl⟩
        obtain ⟨m, sz', h1, h2, h3, h4, h5⟩ := Hnd.sl.1 H.hnd
        rw [ht] at h1; cases h1
        rcases h4 hn with ⟨a, rfl, rfl⟩ | ⟨b, o, cap, arr, ty, q1, rfl, q3, q4, q5, q6, q7, q8⟩
        · exact .inl ⟨a, rfl, List.eq_nil_of_length_eq_zero hn⟩
        · subst hn
          exact .inr ⟨b, o, cap, arr, ty, sz, rfl, q3, List.length_pos_iff.1 q8.1, q4, fun e he => by obtain ⟨j, hj, rfl⟩ := List.getElem_of_mem he; exact h5 j hj, q5, q6, q7, q8.2⟩
      · cases h
    · cases h
  · cases h
    have hr := H.rep
    cases hr with
    | nils => exact ⟨.slE, .inl ⟨_, rfl, rfl⟩, [], rfl⟩
  · cases h

theorem rep_any {F : Nat → Nat} {tb tb' : Nat → Option Nat} {v : VV} {x : Value} (h : Rep w F tb v x) (hi : v.ids 0 = true) : Rep w F tb' v x :=
  h.mono (n := 0) (fun _ _ _ => rfl) (fun _ => Nat.le_refl _) (fun i b hi => absurd hi (by omega)) hi

theorem res_tup {xs : List Value} {us : List VV} {n0 : Nat} (hne : us.length ≠ 1) (hl : xs.length = us.length) (hr : ∀ j (h : j < us.length) (h' : j < xs.length), Rep w g.F g.tb us[j] xs[j] ∧ us[j].noTup = true ∧ Fresh n0 w g.F us[j] xs[j])
    (hu : ∀ (i j : Nat) (es es' : List VV), us[i]? = some (VV.sl es 1) → us[j]? = some (VV.sl es' 1) → i = j) (hi : VV.ids 0 (.tup us) = true) : ResR n0 w g.F (.tup us) (resVal xs) := by
  have e : resVal xs = .tuple xs.toArray := by unfold resVal; rw [dif_neg (by omega)]
  rw [e]
  refine ⟨fun tb => rep_any (tb := g.tb) (.tup (by simp [hl]) ?_ fun j hj => ?_) hi, hi, trivial, fun vs ys e1 e2 => ?_⟩
  · rw [List.all_eq_true]
    intro u hu
    obtain ⟨j, hj, rfl⟩ := List.getElem_of_mem hu
    exact (hr j hj (by omega)).2.1
  · simpa using (hr j hj (by omega)).1
  · cases e1; cases e2
    refine ⟨fun j v y hv hy => ?_, hu⟩
    obtain ⟨hj, rfl⟩ := List.getElem?_eq_some_iff.1 hv
    have hj' : j < xs.length := by omega
    simp [hj'] at hy
    subst hy
    exact (hr j hj hj').2.2

/-- The results, as data. -/
theorem out_ok {vs : List VV} {xs : List Value} (S : GVL B ob g w vs xs) {fresh : Option Nat} {r : VV} (h : outR fresh ob vs = some r) (hi : r.ids 0 = true) : ResR B w g.F r (resVal xs) := by
  obtain ⟨hlen, hgv⟩ := S
  unfold outR at h
  split at h
  · rename_i hnt
    rw [List.all_eq_true] at hnt
    have strip_ok : ∀ j (h : j < vs.length) (h' : j < xs.length), Rep w g.F g.tb vs[j].strip xs[j] ∧ vs[j].strip.noTup = true ∧ Fresh B w g.F vs[j].strip xs[j] := fun j h h' => by
      refine ⟨strip_rep (hgv j h h').rep, ?_, (fresh_strip _ _ _ _ (hnt _ (List.getElem_mem h))).1⟩
      have := hnt _ (List.getElem_mem h)
      revert this
      generalize vs[j] = v
      cases v <;> simp [VV.strip, VV.strip0, VV.noTup]
    split at h
    · rename_i v
      cases h
      obtain ⟨x, rfl⟩ := List.length_eq_one_iff.1 (hlen.trans rfl)
      have hx := strip_ok 0 (by simp) (by simp)
      simp only [List.getElem_cons_zero] at hx
      show ResR B w g.F v.strip x
      refine ⟨fun tb => rep_any hx.1 hi, hi, hx.2.2, fun vs xs e1 e2 => ?_⟩
      rw [e1] at hx
      simp [VV.noTup] at hx
    · rename_i v i
      obtain ⟨x, rfl⟩ := List.length_eq_one_iff.1 (hlen.trans rfl)
      obtain ⟨h1, h2, es, rfl⟩ := freshen_ok (hgv 0 (by simp) (by simp)) h
      exact ⟨fun tb => rep_any h1 hi, hi, h2, fun vs xs e => by cases e⟩
    · rename_i hno
      cases h
      refine res_tup (fun e => ?_) (by simpa using hlen) (fun j hj hj' => by simpa using strip_ok j (by simpa using hj) hj') (fun i j es es' h1 _ => ?_) hi
      · obtain ⟨t, rfl⟩ := List.length_eq_one_iff.1 (by simpa using e)
        exact hno _ rfl
      · simp only [List.getElem?_map, Option.map_eq_some_iff] at h1
        obtain ⟨v, hv, h1⟩ := h1
        exact absurd h1 ((fresh_strip (w := w) _ B g.F (.bool true) (hnt _ (List.mem_of_getElem? hv))).2 es)
    · rename_i i hno
      split at h
      · rename_i v hv
        simp only [Option.map_eq_some_iff] at h
        obtain ⟨u, hf, rfl⟩ := h
        obtain ⟨hit, rfl⟩ := List.getElem?_eq_some_iff.1 hv
        obtain ⟨h1, h2, es, rfl⟩ := freshen_ok (hgv i hit (by omega)) hf
        have hcomp : ∀ j (hj : j < ((vs.map VV.strip).set i (.sl es 1)).length) (hj' : j < vs.length), ((vs.map VV.strip).set i (VV.sl es 1))[j] = if j = i then .sl es 1 else vs[j].strip := fun j hj hj' => by
          by_cases e : j = i
          · subst e; simp
          · rw [if_neg e, List.getElem_set_ne (fun q => e q.symm)]; simp
        refine res_tup (fun e => ?_) (by simpa using hlen) (fun j hj hj' => ?_) (fun p q es1 es2 k1 k2 => ?_) hi
        · obtain ⟨t, rfl⟩ := List.length_eq_one_iff.1 (by simpa using e)
          exact hno _ rfl
        · have hjv : j < vs.length := by simpa using hj
          rw [hcomp j hj hjv]
          by_cases e : j = i
          · subst e
            rw [if_pos rfl]
            exact ⟨h1, rfl, h2⟩
          · rw [if_neg e]; exact strip_ok j hjv hj'
        · have only : ∀ j es1, ((vs.map VV.strip).set i (VV.sl es 1))[j]? = some (.sl es1 1) → j = i := fun j es1 k => by
            obtain ⟨hj, hk⟩ := List.getElem?_eq_some_iff.1 k
            have hj' : j < vs.length := by simpa using hj
            rw [hcomp j hj hj'] at hk
            by_cases e : j = i
            · exact e
            · rw [if_neg e] at hk
              exact absurd hk ((fresh_strip (w := w) _ B g.F (.bool true) (hnt _ (List.getElem_mem hj'))).2 es1)
          exact (only p es1 k1).trans (only q es2 k2).symm
      · cases h
  · cases h

/-- the state at a function's end, its marks' blocks shut -/
theorem SInv.closed (S : SInv B w0 st g nt D a w) {F : Fence} {fn : Func} {R : Ending → World → Prop} {ob' : List Obj} (h : closeM st.marks st.ob = some ob') :
    ∃ w', SInv B w0 { env := st.env, ob := ob', base := st.base } g nt D { tmps := a.tmps, defers := [] } w' ∧ Pres B st.ob g w ob' g w' ∧ (LeavesInM F 0 P fn a.tmps R [] .returning w' → LeavesInM F 0 P fn a.tmps R a.defers .returning w) := by
  obtain ⟨w', H', p', hl⟩ := marks_close (F := F) (fn := fn) (tmps := a.tmps) (R := R) (P := P) S.H S.d h
  exact ⟨w', ⟨H', fun s => p' _ _ (S.e s), S.n, rfl, ⟨fun v x hk => ⟨p' _ _ (S.k.1 v x hk).1, (S.k.1 v x hk).2⟩, nofun⟩⟩, p', hl⟩

theorem noHnd_GV {v : VV} {x : Value} (hr : Rep w g.F g.tb v x) (hh : v.noHnd = true) (hi : v.ids ob.length = true) : GV B ob g w v x := ⟨hr, noHnd_hnd hh x, hi⟩

/-- A FUNCTION'S CONTRACT, of data. -/
theorem pure_of_wp {f : Nat} {vf : VF} (hm : mFn P f vf = true) {args : List VV} (hl : args.length = vf.params) (ha : args.all argOk = true) {r : VV} (h : FnW P vf args r) : PureC P f args r := by
  simp only [mFn, Bool.and_eq_true] at hm
  obtain ⟨hok, hm⟩ := hm
  refine ⟨hok, fun w F vals hG hF0 hsz hrep => ?_⟩
  split at hm
  · rename_i fn hf
    simp only [Bool.and_eq_true, beq_iff_eq, decide_eq_true_eq] at hm
    obtain ⟨⟨⟨hnt, hpar⟩, hres⟩, hbody⟩ := hm
    split at hbody
    · rename_i c hb
      refine callsIn_of_wp_marks hf hb trivial ?_
      let w0 : W0 := { w := w, F := F, cm := cmP P }
      let g : Gh := { F := F, tb := fun _ => none, kb := fun _ => none, cm := cmP P }
      have H : HInv w.heap.size w0 [] g w := ⟨BelowD.refl _ _, Nat.le_refl _, hF0, fun _ _ => rfl, ⟨rfl, hG.1, hG⟩, nofun, nofun, nofun, nofun, nofun, fun i hi => absurd hi (by simp)⟩
      rw [List.all_eq_true] at ha
      have S : SInv w.heap.size w0 { env := envA 0 args, ob := [], base := 0, pure := true } g vf.ntmps [] { tmps := vals ++ Array.replicate (fn.ntmps - vals.size) Go.undef, defers := [] } w := by
        refine ⟨H, fun s => ?_, by simp; omega, rfl, fun _ _ h => h.elim, fun _ _ _ h => h.elim⟩
        rw [get_envA]
        simp only [Nat.zero_le, if_true, Nat.sub_zero]
        by_cases hs : s < args.length
        · have hs' : s < vals.size := by omega
          have e1 : (args[s]?).getD .dead = args[s] := by simp [hs]
          have e2 : (vals ++ Array.replicate (fn.ntmps - vals.size) Go.undef).getD s Go.undef = vals[s] := by simp [Array.getElem?_append, hs']
          rw [e1, e2]
          have := ha _ (List.getElem_mem hs)
          simp only [argOk, Bool.and_eq_true] at this
          exact noHnd_GV (hrep s hs hs') this.1 this.2
        · have e1 : (args[s]?).getD .dead = .dead := by simp [List.getElem?_eq_none (by omega : args.length ≤ s)]
          rw [e1]; exact GV.dead
      refine wp_sound rfl (ro := none) rfl vf.body c _ g _ w _ _ hbody S h ?_
      rintro e st' g' a' w' ⟨_, he, hout, hids⟩ S'
      have hpost : LeavesInM Fence.wide 0 P fn a'.tmps (fun e w' => ∃ x F', e = .returned x ∧ BelowD w.heap.size w w' ∧ (∀ b, w'.heap.size ≤ b → F' b = 0) ∧ (∀ b, b < w.heap.size → F' b = F b) ∧ ResR w.heap.size w' F' r x) a'.defers .returning w' := by
        cases hcl : closeM st'.marks st'.ob with
        | none => rw [hcl] at hout; cases hout
        | some ob' =>
          rw [hcl] at hout
          simp only [Option.bind_some] at hout
          obtain ⟨w2, S2, _, hl2⟩ := S'.closed (P := P) (F := Fence.wide) (fn := fn) (R := fun e w' => ∃ x F', e = .returned x ∧ BelowD w.heap.size w w' ∧ (∀ b, w'.heap.size ≤ b → F' b = 0) ∧ (∀ b, b < w.heap.size → F' b = F b) ∧ ResR w.heap.size w' F' r x) hcl
          refine hl2 ?_
          cases hvs : resOfL ⟨st'.env, ob'⟩ vf.results with
          | none => rw [hvs] at hout; cases hout
          | some vs =>
            rw [hvs] at hout
            obtain ⟨xs, hrun, hgl⟩ := results_run S2 hres hvs
            exact ⟨_, results_val hrun, _, g'.F, rfl, S2.H.below, S2.H.fz, fun b hb => S2.H.f0 b hb, out_ok hgl hout hids⟩
      cases e with
      | nrm => exact hpost
      | ext id => exact he.elim
      | ret => exact hpost
    · cases hbody
  · cases hm

end
end Go.V

/- V, part 24: the contract of a function that is handed objects. -/
set_option linter.unusedVariables false
set_option linter.unusedSimpArgs false
namespace Go.V
open Go.RowKit

def outI (vs : List VV) : Option VV :=
  if vs.all VV.noTup then match vs with
    | [v] => some v.strip
    | vs => some (.tup (vs.map VV.strip))
  else none

/-- what is asked at a function's end -/
def EndI (vf : VF) (n : Nat) (R : VV → List Obj → Prop) (e : Ex) (st : St) : Prop :=
  (match e with | .ext _ => False | _ => True) ∧ st.base = n ∧ ∃ ob' m r, closeM st.marks st.ob = some ob' ∧ n ≤ m ∧ m ≤ ob'.length ∧ (ob'.take m).all (Obj.idsB m) = true ∧ (resOfL ⟨st.env, ob'⟩ vf.results).bind outI = some r ∧ r.ids m = true ∧ R r (ob'.take m)

def FnI (P : Program) (vf : VF) (args : List VV) (ob : List Obj) (R : VV → List Obj → Prop) : Prop :=
  Wp P vf.body { env := envA 0 args, ob := ob, base := ob.length } (EndI vf ob.length R)

section
variable {P : Program} {B : Nat} {w0 w1 : W0} {g : Gh} {nt : Nat} {D : List Deferred} {a : Act} {w : World} {st : St} {ob : List Obj}

theorem HInv.rekeep (H : HInv B w0 ob g w) (h1 : w1.w = w0.w) (h2 : w1.F = w0.F) (h3 : w1.cm = w0.cm) : HInv B w1 ob g w :=
  ⟨by rw [h1]; exact H.below, H.hB, H.fz, by rw [h2]; exact H.f0, by rw [h1, h3]; exact H.c0, H.tbl, H.kbl, H.inj, H.injk, H.apart, H.obs⟩

theorem GV.tupS {vs : List VV} {xs : List Value} (h : GVL B ob g w vs xs) (hn : vs.all VV.noTup = true) : GV B ob g w (.tup (vs.map VV.strip)) (.tuple xs.toArray) := by
  obtain ⟨hl, hg⟩ := h
  rw [List.all_eq_true] at hn
  refine ⟨.tup (by simp [hl]) ?_ fun j hj => ?_, ?_, ?_⟩
  · rw [List.all_eq_true]
    intro u hu
    obtain ⟨q, hq, rfl⟩ := List.mem_map.1 hu
    have := hn q hq
    revert this
    cases q <;> simp [VV.strip, VV.strip0, VV.noTup]
  · have hj' : j < vs.length := by simpa using hj
    have := strip_rep (hg j hj' (by omega)).rep
    simpa using this
  · intro j v y hv hy
    simp only [List.getElem?_map, Option.map_eq_some_iff] at hv
    obtain ⟨q, hq, rfl⟩ := hv
    have hnq := hn q (List.mem_of_getElem? hq)
    have hs := strip_hnd (B := B) (ob := ob) (g := g) (w := w) q y hnq
    refine ⟨?_, fun ds ys e1 e2 k u z hu hz => ?_⟩
    · revert hs
      generalize q.strip = p
      cases p with
      | agg cs => intro _; trivial
      | tup cs => intro _; trivial
      | sl es t => intro h; exact Hnd.sl.1 h
      | _ => intro _; trivial
    · rw [e1, e2] at hs
      exact hs k u z hu hz
  · simp only [VV.ids]
    refine idsL_of fun u hu => ?_
    obtain ⟨q, hq, rfl⟩ := List.mem_map.1 hu
    obtain ⟨j, hj, rfl⟩ := List.getElem_of_mem hq
    exact strip_ids (hg j hj (by omega)).ids

theorem outI_ok {vs : List VV} {xs : List Value} (h : GVL B ob g w vs xs) {r : VV} (ho : outI vs = some r) : GV B ob g w r (resVal xs) := by
  unfold outI at ho
  split at ho
  · rename_i hn
    split at ho
    · rename_i v
      cases ho
      obtain ⟨x, rfl⟩ := List.length_eq_one_iff.1 (h.1.trans rfl)
      rw [List.all_eq_true] at hn
      exact GV.strip (hn v (by simp)) (h.2 0 (by simp) (by simp))
    · rename_i hno
      cases ho
      have e : resVal xs = .tuple xs.toArray := by
        unfold resVal
        rw [dif_neg]
        intro q
        rw [h.1] at q
        obtain ⟨v, rfl⟩ := List.length_eq_one_iff.1 q
        exact hno v rfl
      rw [e]
      exact GV.tupS h hn
  · cases ho

/-- A FUNCTION'S CONTRACT, of objects. -/
theorem imp_of_wp {f : Nat} {vf : VF} (hm : mFn P f vf = true) {args : List VV} (hl : args.length = vf.params) {R : VV → List Obj → Prop} (h : FnI P vf args ob R) : ImpC P f args ob R := by
  simp only [mFn, Bool.and_eq_true] at hm
  obtain ⟨hok, hm⟩ := hm
  refine ⟨hok, fun B w0 g w vals hcm H hsz hrep => ?_⟩
  split at hm
  · rename_i fn hf
    simp only [Bool.and_eq_true, beq_iff_eq, decide_eq_true_eq] at hm
    obtain ⟨⟨⟨hnt, hpar⟩, hres⟩, hbody⟩ := hm
    split at hbody
    · rename_i c hb
      refine callsIn_of_wp_marks hf hb trivial ?_
      let w1 : W0 := { w := w0.w, F := w0.F, keep := fun v x => GV B ob g w v x, cm := w0.cm }
      have S : SInv B w1 { env := envA 0 args, ob := ob, base := ob.length } g vf.ntmps [] { tmps := vals ++ Array.replicate (fn.ntmps - vals.size) Go.undef, defers := [] } w := by
        refine ⟨H.rekeep rfl rfl rfl, fun s => ?_, by simp; omega, rfl, ⟨fun v x h => ⟨h, h.ids⟩, nofun⟩⟩
        rw [get_envA]
        simp only [Nat.zero_le, if_true, Nat.sub_zero]
        by_cases hs : s < args.length
        · have hs' : s < vals.size := by omega
          have e1 : (args[s]?).getD .dead = args[s] := by simp [hs]
          have e2 : (vals ++ Array.replicate (fn.ntmps - vals.size) Go.undef).getD s Go.undef = vals[s] := by simp [Array.getElem?_append, hs']
          rw [e1, e2]
          exact hrep s hs hs'
        · have e1 : (args[s]?).getD .dead = .dead := by simp [List.getElem?_eq_none (by omega : args.length ≤ s)]
          rw [e1]; exact GV.dead
      refine wp_sound (w0 := w1) hcm (ro := none) rfl vf.body c _ g _ w _ _ hbody S h ?_
      rintro e st' g' a' w' ⟨he, hbase, ob', m, r, hcl, hnm, hlen, hall, hout, hids, hR⟩ S'
      have hpost : LeavesInM Fence.wide 0 P fn a'.tmps (fun e w' => ∃ x g'' r ob', e = .returned x ∧ R r ob' ∧ HInv B w0 ob' g'' w' ∧ GV B ob' g'' w' r x ∧ Pres B ob g w ob' g'' w') a'.defers .returning w' := by
        obtain ⟨w2, S2, _, hl2⟩ := S'.closed (P := P) (F := Fence.wide) (fn := fn) (R := fun e w' => ∃ x g'' r ob', e = .returned x ∧ R r ob' ∧ HInv B w0 ob' g'' w' ∧ GV B ob' g'' w' r x ∧ Pres B ob g w ob' g'' w') hcl
        refine hl2 ?_
        cases hvs : resOfL ⟨st'.env, ob'⟩ vf.results with
        | none => rw [hvs] at hout; cases hout
        | some vs =>
          rw [hvs] at hout
          obtain ⟨xs, hrun, hgl⟩ := results_run S2 hres hvs
          refine ⟨_, results_val hrun, _, ghCut g' m, r, ob'.take m, rfl, hR, (S2.H.cut hlen hall).rekeep rfl rfl rfl, (outI_ok hgl hout).cut hlen hids, fun v x hv => ?_⟩
          obtain ⟨q1, q2⟩ := S2.k.1 v x hv
          simp only at q2
          rw [hbase] at q2
          exact q1.cut hlen ((ids_mono hnm).1 v q2)
      cases e with
      | nrm => exact hpost
      | ext id => exact he.elim
      | ret => exact hpost
    · cases hbody
  · cases hm

/-! ### A round -/
def bindP : List Nat → List VV → List (Nat × VV) → List (Nat × VV)
  | p :: r, v :: s, env => bindP r s (put env p v)
  | _, _, env => env

def setSt (ob : List Obj) (o s : Nat) (pend : Ex) : Option (List Obj) := match nthO ob o with
  | .loop nt env ps a b _ _ => some (ob.set o (.loop nt env ps a b s pend))
  | _ => none

def setBusy (ob : List Obj) (o : Nat) : Option (List Obj) := match nthO ob o with
  | .loop nt env ps a b 0 pend => some (ob.set o (.loop nt env ps a b 1 pend))
  | _ => none

/-- what is asked at a round's end -/
def EndR (o n : Nat) (R : VV → List Obj → Prop) (e : Ex) (st : St) : Prop :=
  st.base = n ∧ st.marks = [] ∧ ∃ ob' m, setSt st.ob o (if e = .nrm then 0 else 2) e = some ob' ∧ n ≤ m ∧ m ≤ ob'.length ∧ (ob'.take m).all (Obj.idsB m) = true ∧ R (.bool (decide (e = .nrm))) (ob'.take m)

def RndW (P : Program) (o : Nat) (args : List VV) (ob : List Obj) (R : VV → List Obj → Prop) : Prop :=
  match nthO ob o with
  | .loop nt env ps a b s _ => s = 0 ∧ ps.all (· < nt) = true ∧ args.length = ps.length ∧ Wp P a { env := bindP ps args env, ob := ob, base := ob.length } fun e st =>
      e = .nrm ∧ ∃ ob1, setBusy st.ob o = some ob1 ∧ Wp P b { st with ob := ob1 } (EndR o ob.length R)
  | _ => False

theorem bindP_S : ∀ {ps : List Nat} {args : List VV} {vals : List Value} {env : List (Nat × VV)} {tmps : Array Value}, ps.all (· < nt) = true → tmps.size = nt → args.length = ps.length → vals.length = args.length →
    (∀ j (h : j < args.length) (h' : j < vals.length), GV B ob g w args[j] vals[j]) → (∀ s, GV B ob g w (get env s) (tmps.getD s Go.undef)) →
    ((ps.zip vals).foldl (fun t (p : Nat × Value) => t.setIfInBounds p.1 p.2) tmps).size = nt ∧ ∀ s, GV B ob g w (get (bindP ps args env) s) (((ps.zip vals).foldl (fun t (p : Nat × Value) => t.setIfInBounds p.1 p.2) tmps).getD s Go.undef)
  | [], [], [], env, tmps, _, hn, _, _, _, he => ⟨hn, he⟩
  | p :: r, v :: s, x :: y, env, tmps, hp, hn, h1, h2, hv, he => by
    simp only [List.all_cons, Bool.and_eq_true, decide_eq_true_eq] at hp
    have h0 := hv 0 (by simp) (by simp)
    refine bindP_S (env := put env p v) (tmps := tmps.setIfInBounds p x) hp.2 (by simpa using hn) (by simpa using h1) (by simpa using h2) (fun j h h' => hv (j + 1) (by simpa using h) (by simpa using h')) fun q => ?_
    rw [get_put]
    by_cases e : q = p
    · subst e
      rw [if_pos rfl]
      have : (tmps.setIfInBounds q x).getD q Go.undef = x := by simp [hn, hp.1]
      rw [this]; exact h0
    · rw [if_neg e]
      have : (tmps.setIfInBounds p x).getD q Go.undef = tmps.getD q Go.undef := by
        simp [Array.getElem?_setIfInBounds_ne (fun z => e z.symm)]
      rw [this]; exact he q
  | [], _ :: _, _, _, _, _, _, h, _, _, _ => by simp at h
  | _ :: _, [], _, _, _, _, _, h, _, _, _ => by simp at h
  | [], [], _ :: _, _, _, _, _, _, h, _, _ => by simp at h
  | _ :: _, _ :: _, [], _, _, _, _, _, h, _, _ => by simp at h

theorem loop_at (S : SInv B w0 st g nt D a w) {o l n : Nat} {env : List (Nat × VV)} {ps : List Nat} {va vb : VC} {s : Nat} {pend : Ex} (ho : nthO st.ob o = .loop n env ps va vb s pend) (hy : GV B st.ob g w (.yld o) (.func (.yield l) #[] #[])) :
    ∃ r, g.tb o = some l ∧ B ≤ l ∧ g.F l = 0 ∧ w.heap[l]? = some (.loop r) ∧ r.tmps.size = n ∧ (∀ s, GV B st.ob g w (get env s) (r.tmps.getD s Go.undef)) ∧ r.params.toList = ps ∧ g.cm va n r.assign ∧ g.cm vb n r.body ∧ stOf s = some r.state ∧ r.pending = pendOf pend := by
  obtain ⟨_, blk, r, k1, k2⟩ := S.H.get ho (by simp)
  have := hy.rep
  cases this with
  | yld q => rw [k1] at q; cases q; exact ⟨r, k1, k2⟩

/-- the loop's record takes another state -/
theorem SInv.turn (S : SInv B w0 st g nt D a w) {o l n : Nat} {env : List (Nat × VV)} {ps : List Nat} {va vb : VC} {s s' : Nat} {pend pend' : Ex} (ho : nthO st.ob o = .loop n env ps va vb s pend) (hy : GV B st.ob g w (.yld o) (.func (.yield l) #[] #[]))
    {r : Loop} (hr : w.heap[l]? = some (.loop r)) {ls : LoopState} (hs : stOf s' = some ls) {pp : Option Code} (hpp : pp = pendOf pend') :
    SInv B w0 { st with ob := st.ob.set o (.loop n env ps va vb s' pend') } g nt D a (putAt w l (.loop { r with state := ls, pending := pp })) ∧ Pres B st.ob g w (st.ob.set o (.loop n env ps va vb s' pend')) g (putAt w l (.loop { r with state := ls, pending := pp })) := by
  obtain ⟨r', k1, k2, k3, k4, k5, k6, k7, k8, k9, k10, k11⟩ := loop_at S ho hy
  rw [hr] at k4; cases k4
  obtain ⟨H', p'⟩ := S.H.putO (X' := .loop n env ps va vb s' pend') (mo' := .loop { r with state := ls, pending := pp }) ho (by simp) (by simp) k1 hr k2 k3 (fun hp => ⟨l, _, k1, k2, k3, putAt_at hr, k5, fun q => hp _ _ (k6 q), k7, k8, k9, hs, hpp⟩)
  exact ⟨⟨H', fun q => p' _ _ (S.e q), S.n, S.d.pres p', ⟨fun v x h => ⟨p' _ _ (S.k.1 v x h).1, (S.k.1 v x h).2⟩, S.k.2⟩⟩, p'⟩

end
end Go.V

/- V, part 24a: the contract of a round, from what V says of the loop's code. -/
set_option linter.unusedVariables false
set_option linter.unusedSimpArgs false
namespace Go.V
open Go.RowKit

section
variable {P : Program} {B : Nat} {w0 : W0} {g : Gh} {nt : Nat} {D : List Deferred} {a : Act} {w : World} {st : St} {ob : List Obj}

theorem yld_of_wp {o : Nat} {args : List VV} {R : VV → List Obj → Prop} (h : RndW P o args ob R) : YldC P o args ob R := by
  intro B w0 g w l vals hcm H htb hsz hv
  unfold RndW at h
  split at h
  · rename_i nt env ps va vb s pend ho
    obtain ⟨rfl, hps, hlen, hwp⟩ := h
    obtain ⟨_, blk, r, k1, k2, k3, k4, k5, k6, k7, k8, k9, k10, k11⟩ := H.get ho (by simp)
    rw [htb] at k1; cases k1
    have hready : r.state = .ready := by simpa [stOf] using k10.symm
    have hvs : vals.size = r.params.size := by rw [hsz, hlen, ← k7]; simp
    refine ⟨r.fn, _, r.assign, r.body, run_yield k4 hvs, roundIn_of_wpIn (F := Fence.wide) trivial ?_⟩
    let w1 : W0 := { w := w0.w, F := w0.F, keep := fun v x => GV B ob g w v x, cm := w0.cm }
    have hcm1 : w1.cm = cmP P := hcm
    have hy0 : GV B ob g w (.yld o) (.func (.yield l) #[] #[]) := ⟨.yld htb, trivial, by have := (H.tbl _ _ htb).1; simpa [VV.ids] using this⟩
    have hfold : (r.params.zip vals).foldl (fun tmps (t, a) => tmps.setIfInBounds t a) r.tmps = ((ps.zip vals.toList).foldl (fun t (p : Nat × Value) => t.setIfInBounds p.1 p.2) r.tmps) := by
      rw [← k7, ← Array.toList_zip, Array.foldl_toList]
    obtain ⟨hn1, he1⟩ := bindP_S (B := B) (ob := ob) (g := g) (w := w) (nt := nt) (ps := ps) (args := args) (vals := vals.toList) (env := env) (tmps := r.tmps) hps k5 hlen (by simpa using hsz) (fun j hj hj' => by simpa using hv j hj (by simpa using hj')) k6
    have S0 : SInv B w1 { env := bindP ps args env, ob := ob, base := ob.length } g nt [] { tmps := (r.params.zip vals).foldl (fun tmps (t, a) => tmps.setIfInBounds t a) r.tmps, defers := [] } w := by
      rw [hfold]
      exact ⟨H.rekeep rfl rfl rfl, he1, hn1, rfl, ⟨fun v x h => ⟨h, h.ids⟩, nofun⟩⟩
    have hma : mVC P nt true va r.assign = true := by have := k8; rw [H.c0.1, hcm] at this; exact this
    have hmb : mVC P nt true vb r.body = true := by have := k9; rw [H.c0.1, hcm] at this; exact this
    refine wp_sound (w0 := w1) hcm1 (ro := some l) (r := true) rfl va r.assign _ g _ w _ _ hma S0 hwp ?_
    rintro e st1 g1 a1 w2 ⟨rfl, ob1, hb, hwb⟩ S1
    have hy1 : GV B st1.ob g1 w2 (.yld o) (.func (.yield l) #[] #[]) := (S1.k.1 _ _ hy0).1
    unfold setBusy at hb
    split at hb
    · rename_i n1 env1 ps1 va1 vb1 pend1 ho1
      cases hb
      obtain ⟨r1, q1, q2, q3, q4, q5, q6, q7, q8, q9, q10, q11⟩ := loop_at S1 ho1 hy1
      have hready1 : r1.state = .ready := by simpa [stOf] using q10.symm
      obtain ⟨S2, p2⟩ := S1.turn ho1 hy1 q4 (s' := 1) (ls := .busy) rfl (pp := r1.pending) q11
      refine ⟨_, run_beginRound q4 hready1, ?_⟩
      refine wp_sound (w0 := w1) hcm1 (ro := some l) (r := true) rfl vb r.body _ g1 _ _ _ _ hmb S2 hwb ?_
      rintro e2 st2 g2 a2 w3 ⟨hbase, hmarks, ob', m, hset, hnm, hm, hall, hR⟩ S3
      have hy3 : GV B st2.ob g2 w3 (.yld o) (.func (.yield l) #[] #[]) := (S3.k.1 _ _ hy0).1
      unfold setSt at hset
      split at hset
      · rename_i n2 env2 ps2 va2 vb2 s2 pend2 ho2
        cases hset
        obtain ⟨r2, z1, z2, z3, z4, z5, z6, z7, z8, z9, z10, z11⟩ := loop_at S3 ho2 hy3
        have fin : ∀ (ls : LoopState) (pp : Option Code), stOf (if e2 = .nrm then 0 else 2) = some ls → pp = pendOf e2 → ∀ v : Bool, v = decide (e2 = .nrm) →
            ∃ x g' r ob', Ending.returned (.bool v) = .returned x ∧ R r ob' ∧ HInv B w0 ob' g' (putAt w3 l (.loop { r2 with state := ls, pending := pp })) ∧ GV B ob' g' (putAt w3 l (.loop { r2 with state := ls, pending := pp })) r x ∧ Pres B ob g w ob' g' (putAt w3 l (.loop { r2 with state := ls, pending := pp })) := by
          intro ls pp h1 h2 v hv2
          subst hv2
          obtain ⟨S4, p4⟩ := S3.turn ho2 hy3 z4 (s' := if e2 = .nrm then 0 else 2) (ls := ls) h1 (pp := pp) (pend' := e2) h2
          refine ⟨_, ghCut g2 m, _, _, rfl, hR, (S4.H.cut hm hall).rekeep rfl rfl rfl, ⟨.bool _, trivial, rfl⟩, fun v x hvx => ?_⟩
          obtain ⟨t1, t2⟩ := S4.k.1 v x hvx
          simp only at t2
          rw [hbase] at t2
          exact t1.cut hm ((ids_mono hnm).1 v t2)
        cases e2 with
        | nrm => exact ⟨_, _, run_endRound none z4, fin .ready none rfl rfl true rfl⟩
        | ext id => exact ⟨_, _, run_endRound (some (.exit id)) z4, fin .done _ rfl rfl false rfl⟩
        | ret => exact ⟨_, _, run_endRound (some .ret) z4, fin .done _ rfl rfl false rfl⟩
      · cases hset
    · cases hb
  · exact h.elim

end
end Go.V
