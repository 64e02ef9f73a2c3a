/- V, part 19: what remains of the text's own words: slots given up, objects given up, handles for empty slices. -/
import Derived.Test.YtfhkgkijljfcfaaV18
set_option linter.unusedVariables false
set_option linter.unusedSimpArgs false
namespace Go.V
open Go.RowKit

def Obj.idsB (n : Nat) : Obj → Bool
  | .cells cs => idsL n cs
  | .loop _ env _ _ _ _ _ => env.all fun p => p.2.ids n
  | _ => true

/-- these slots alone -/
def keepE (env : List (Nat × VV)) : List Nat → List (Nat × VV)
  | [] => []
  | s :: r => (s, get env s) :: keepE env r

def dropW (st : St) (slots : List Nat) (k : Option Nat) : Option St :=
  match k with
  | none => some { st with env := keepE st.env slots }
  | some k => if st.base + k ≤ st.ob.length ∧ st.marks.all (fun o => decide (o < st.base + k)) = true ∧ (keepE st.env slots).all (fun p => p.2.ids (st.base + k)) = true ∧ (st.ob.take (st.base + k)).all (Obj.idsB (st.base + k)) = true then
      some { st with env := keepE st.env slots, ob := st.ob.take (st.base + k) } else none

def ownW (st : St) (s : Nat) (c : Option Nat) (sz : Nat) : Option St :=
  if sz = 0 then none else
  match c with
  | none => match get st.env s with
    | .nils => some { st with env := put st.env s (.sl [] (st.ob.length + 2)), ob := st.ob ++ [.tok 0 sz] }
    | _ => none
  | some j => match get st.env s with
    | .ptr o off => match nthO st.ob o with
      | .cells cs => match cs[off + j]? with
        | some .nils => some { st with ob := (st.ob ++ [Obj.tok 0 sz]).set o (.cells (cs.set (off + j) (.sl [] (st.ob.length + 2)))) }
        | _ => none
      | _ => none
    | _ => none

section
variable {P : Program} {B : Nat} {w0 : W0} {ob : List Obj} {g : Gh} {nt : Nat} {D : List Deferred} {a : Act} {w : World} {st : St}

theorem get_keep (env : List (Nat × VV)) (l : List Nat) (s : Nat) : get (keepE env l) s = get env s ∨ get (keepE env l) s = .dead := by
  induction l with
  | nil => exact .inr rfl
  | cons k r ih =>
    simp only [keepE, get]
    by_cases h : k = s
    · rw [if_pos h]; exact .inl (by rw [h])
    · rw [if_neg h]; exact ih

theorem get_all {env : List (Nat × VV)} {n : Nat} (h : env.all (fun p => p.2.ids n) = true) (s : Nat) : (get env s).ids n = true := by
  induction env with
  | nil => rfl
  | cons p r ih =>
    obtain ⟨k, u⟩ := p
    simp only [List.all_cons, Bool.and_eq_true] at h
    simp only [get]
    split
    · exact h.1
    · exact ih h.2

theorem nthO_take {n i : Nat} (h : i < n) : nthO (ob.take n) i = nthO ob i := by
  simp [nthO, List.getD_eq_getElem?_getD, List.getElem?_take, h]

def ghCut (g : Gh) (n : Nat) : Gh := { g with tb := fun i => if i < n then g.tb i else none, kb := fun i => if i < n then g.kb i else none }

theorem cur_cut {t sz m n : Nat} {x : Value} (ht : t < n) (h : CurSl B g w t sz m x) : CurSl B (ghCut g n) w t sz m x := by
  rcases h with ⟨a, rfl, rfl⟩ | ⟨b1, o1, cap, arr1, ty1, q1, q2⟩
  · exact .inl ⟨a, rfl, rfl⟩
  · exact .inr ⟨b1, o1, cap, arr1, ty1, by show (if t < n then g.kb t else none) = _; rw [if_pos ht]; exact q1, q2⟩

theorem hnd1_cut {n : Nat} {v : VV} {x : Value} (hi : v.ids n = true) (h : Hnd1 B ob g w v x) : Hnd1 B (ob.take n) (ghCut g n) w v x := by
  unfold Hnd1 at h ⊢
  split at h
  · rename_i es t
    obtain ⟨m, sz, h1, h2, h3, h4, h5⟩ := h
    have ht : t < n := by simpa [VV.ids] using hi
    exact ⟨m, sz, by rw [nthO_take ht]; exact h1, h2, h3, fun e => cur_cut ht (h4 e), h5⟩
  · trivial

theorem GV.cut {n : Nat} (hn : n ≤ ob.length) {v : VV} {x : Value} (hi : v.ids n = true) (h : GV B ob g w v x) : GV B (ob.take n) (ghCut g n) w v x := by
  refine ⟨h.rep.mono (n := n) (fun _ _ _ => rfl) (fun _ => Nat.le_refl _) (fun i b hlt hb => by show (if i < n then g.tb i else none) = _; rw [if_pos hlt]; exact hb) hi, ?_, by simpa [Nat.min_eq_left hn] using hi⟩
  have hd := h.hnd
  unfold Hnd at hd ⊢
  split at hd
  · rename_i cs xs
    intro j v x hv hx
    simp only [VV.ids] at hi
    obtain ⟨hj, rfl⟩ := List.getElem?_eq_some_iff.1 hv
    exact hnd1_cut (idsL_get hi j hj) (hd j _ x hv hx)
  · rename_i cs xs
    intro j v x hv hx
    simp only [VV.ids] at hi
    obtain ⟨hj, rfl⟩ := List.getElem?_eq_some_iff.1 hv
    have hvi := idsL_get hi j hj
    refine ⟨hnd1_cut hvi (hd j _ x hv hx).1, fun ds ys e1 e2 k u y hu hy => ?_⟩
    rw [e1] at hvi
    simp only [VV.ids] at hvi
    obtain ⟨hk, rfl⟩ := List.getElem?_eq_some_iff.1 hu
    exact hnd1_cut (idsL_get hvi k hk) ((hd j _ x hv hx).2 ds ys e1 e2 k _ y hu hy)
  · exact hnd1_cut hi hd

theorem HInv.cut (H : HInv B w0 ob g w) {n : Nat} (hn : n ≤ ob.length) (ho : (ob.take n).all (Obj.idsB n) = true) : HInv B w0 (ob.take n) (ghCut g n) w := by
  have hl : (ob.take n).length = n := by simp; omega
  refine ⟨H.below, H.hB, H.fz, H.f0, H.c0, fun i b h => ?_, fun i b h => ?_, fun i j b h h' => ?_, fun i j b h h' => ?_, fun i j b h h' => ?_, fun i hi => ?_⟩
  · simp only [ghCut] at h; split at h
    · rw [hl]; exact ⟨by assumption, (H.tbl i b h).2⟩
    · cases h
  · simp only [ghCut] at h; split at h
    · rw [hl]; exact ⟨by assumption, (H.kbl i b h).2⟩
    · cases h
  · simp only [ghCut] at h h'; split at h <;> split at h' <;> first | cases h | cases h' | exact H.inj _ _ _ h h'
  · simp only [ghCut] at h h'; split at h <;> split at h' <;> first | cases h | cases h' | exact H.injk _ _ _ h h'
  · simp only [ghCut] at h h'; split at h <;> split at h' <;> first | cases h | cases h' | exact H.apart _ _ _ h h'
  · have hi' : i < ob.length := by rw [hl] at hi; omega
    have hin : i < n := by rw [hl] at hi; exact hi
    have hids := List.all_eq_true.1 ho _ (List.getElem_mem hi)
    rw [List.getElem_take] at hids ⊢
    have h := H.obs i hi'
    revert h hids
    generalize ob[i] = X
    intro hids h
    have htb : ∀ b, g.tb i = some b → (ghCut g n).tb i = some b := fun b hb => by show (if i < n then g.tb i else none) = _; rw [if_pos hin]; exact hb
    cases X with
    | cells cs =>
      obtain ⟨b, arr, ty, h1, h2, h3, h4, hl, h5⟩ := h
      exact ⟨b, arr, ty, htb b h1, h2, h3, h4, hl, fun j hj => ⟨(h5 j hj).1, (h5 j hj).2.cut hn (idsL_get hids j hj)⟩⟩
    | map es =>
      obtain ⟨b, arr, ty, h1, h2, h3, h4, hl, h5⟩ := h
      exact ⟨b, arr, ty, htb b h1, h2, h3, h4, hl, fun j hj => ⟨(h5 j hj).1, (h5 j hj).2.1, rep_keep (fun _ _ _ => rfl) (fun _ => Nat.le_refl _) _ _ (h5 j hj).1 (h5 j hj).2.2.1, rep_keep (fun _ _ _ => rfl) (fun _ => Nat.le_refl _) _ _ (h5 j hj).2.1 (h5 j hj).2.2.2⟩⟩
    | siter s pos =>
      obtain ⟨b, bs, h1, h2, h3, h4, h5⟩ := h
      exact ⟨b, bs, htb b h1, h2, h3, h4, h5⟩
    | tok m sz => exact ⟨h.1, by show (if i < n then g.tb i else none) = _; rw [if_pos hin]; exact h.2⟩
    | loop nt env ps a b' st pend =>
      obtain ⟨b, r, h1, h2, h3, h4, h5, h6, h7⟩ := h
      exact ⟨b, r, htb b h1, h2, h3, h4, h5, fun s => (h6 s).cut hn (get_all hids s), h7⟩
    | dfr =>
      obtain ⟨b, h1, h2, h3, h4⟩ := h
      exact ⟨b, htb b h1, h2, h3, h4⟩
    | gone => trivial

theorem marks_cut {n : Nat} (hn : n ≤ ob.length) : ∀ {l : List Nat} {ds : List Deferred}, l.all (fun o => decide (o < n)) = true → Marks B ob g w l ds → Marks B (ob.take n) (ghCut g n) w l ds
  | [], _, _, h => h
  | o :: r, _, hl, ⟨b, es, h1, h2, h3⟩ => by
    simp only [List.all_cons, Bool.and_eq_true] at hl
    exact ⟨b, es, h1, h2.cut hn (by simpa [VV.ids] using hl.1), marks_cut hn hl.2 h3⟩

theorem drop_sound (S : SInv B w0 st g nt D a w) {slots : List Nat} {k : Option Nat} {st' : St} (h : dropW st slots k = some st') : ∃ g', SInv B w0 st' g' nt D a w := by
  unfold dropW at h
  split at h
  · cases h
    refine ⟨g, S.H, fun s => ?_, S.n, S.d, S.k⟩
    rcases get_keep st.env slots s with q | q <;> simp only [q]
    · exact S.e s
    · exact GV.dead
  · split at h
    · rename_i k hcond
      cases h
      obtain ⟨h1, hm, h2, h3⟩ := hcond
      refine ⟨ghCut g (st.base + k), S.H.cut h1 h3, fun s => ?_, S.n, marks_cut h1 hm S.d, fun v x h => ⟨(S.k v x h).1.cut h1 ((ids_mono (Nat.le_add_right _ _)).1 v (S.k v x h).2), (S.k v x h).2⟩⟩
      have hi := get_all h2 s
      have hg : GV B st.ob g w (get (keepE st.env slots) s) (a.tmps.getD s Go.undef) := by
        rcases get_keep st.env slots s with q | q <;> simp only [q]
        · exact S.e s
        · exact GV.dead
      exact hg.cut h1 hi
    · cases h

theorem own_sound (S : SInv B w0 st g nt D a w) {s : Nat} {c : Option Nat} {sz : Nat} {st' : St} (h : ownW st s c sz = some st') : ∃ g', SInv B w0 st' g' nt D a w := by
  unfold ownW at h
  split at h
  · cases h
  · rename_i h0
    have h0 : 0 < sz := Nat.pos_of_ne_zero h0
    obtain ⟨H2, p2⟩ := S.H.pushTok (n := 0) h0 none (by simp)
    have good : ∀ x, Rep w g.F g.tb .nils x → GV B (st.ob ++ [.tok 0 sz]) { g with kb := fun i => if i = st.ob.length then none else g.kb i } w (.sl [] (st.ob.length + 2)) x := fun x hx => by
      cases hx with
      | @nils a =>
        exact ⟨.slE, Hnd.sl.2 ⟨0, sz, nthO_new _ _, h0, Nat.le_refl _, fun _ => .inl ⟨a, rfl, rfl⟩, fun j hj => absurd hj (by simp)⟩, by simp [VV.ids]⟩
    split at h
    · split at h
      · rename_i he
        cases h
        refine ⟨_, H2, fun q => ?_, S.n, S.d.pres p2, fun v x h => ⟨p2 _ _ (S.k v x h).1, (S.k v x h).2⟩⟩
        show GV B _ _ w (get (put st.env s _) q) _
        rw [get_put]
        split
        · rename_i e
          subst e
          have := S.e q
          rw [he] at this
          exact good _ this.rep
        · exact p2 _ _ (S.e q)
      · cases h
    · rename_i j
      split at h
      · rename_i o off he
        split at h
        · rename_i cs ho
          split at h
          · rename_i hnil
            cases h
            obtain ⟨hlt, b, arr, ty, h1, h2, h3, h4, hl, h5⟩ := S.H.get ho (by simp)
            obtain ⟨hj, hnil⟩ := List.getElem?_eq_some_iff.1 hnil
            have ho2 : nthO (st.ob ++ [.tok 0 sz]) o = .cells cs := by rw [nthO_app hlt]; exact ho
            have hsz2 : arr.size = (cs.set (off + j) (VV.sl [] (st.ob.length + 2))).length := by simpa using hl
            obtain ⟨H3, p3⟩ := H2.setObj (arr' := arr) (cs' := cs.set (off + j) (.sl [] (st.ob.length + 2))) ho2 h1 h4 hsz2 (fun i hi => by
              by_cases e : i = off + j
              · subst e
                simp only [List.getElem_set_self]
                refine ⟨rfl, ?_⟩
                have := (h5 (off + j) hj).2
                rw [hnil] at this
                exact good _ this.rep
              · rw [List.getElem_set_ne (fun q => e q.symm)]
                have hi' : i < cs.length := by simpa using hi
                exact ⟨(h5 i hi').1, p2 _ _ (h5 i hi').2⟩)
            have hself : w.setRow b arr = w := setRow_self w b arr ty (0, 0) h4
            rw [hself] at H3 p3
            exact ⟨_, H3, fun q => p3 _ _ (p2 _ _ (S.e q)), S.n, (S.d.pres p2).pres p3, fun v x h => ⟨p3 _ _ (p2 _ _ (S.k v x h).1), (S.k v x h).2⟩⟩
          · cases h
        · cases h
      · cases h

end
end Go.V
