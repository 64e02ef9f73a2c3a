/- V, part 21: a region that draws its order, in the machine. -/
import Derived.Test.YtfhkgkijljfcfaaV20
set_option linter.unusedVariables false
set_option linter.unusedSimpArgs false
namespace Go.V
open Go.RowKit

/-- operation i comes after a, whatever is drawn -/
inductive Anc (ops : Array Oper) : Nat → Nat → Prop
  | one {i : Nat} {o : Oper} {e : Edge} (ho : ops[i]? = some o) (he : e ∈ o.after) (hb : Region.binds .any e = true) : Anc ops i e.on
  | more {i a : Nat} {o : Oper} {e : Edge} (ho : ops[i]? = some o) (he : e ∈ o.after) (hb : Region.binds .any e = true) (h : Anc ops e.on a) : Anc ops i a

section
variable {ops : Array Oper}

theorem mem_addAll {x : Nat} : ∀ (l m : List Nat), x ∈ addAll l m → x ∈ l ∨ x ∈ m
  | [], m, h => .inr h
  | y :: r, m, h => by
    simp only [addAll] at h
    rcases mem_addAll r _ h with h | h
    · exact .inl (by simp [h])
    · split at h
      · exact .inr h
      · rcases List.mem_cons.1 h with rfl | h
        · exact .inl (by simp)
        · exact .inr h

theorem mem_ancOf {T : List (List Nat)} {x : Nat} : ∀ {l : List Nat}, x ∈ ancOf T l → ∃ e ∈ l, x = e ∨ x ∈ T.getD e []
  | [], h => by cases h
  | e :: r, h => by
    rcases mem_addAll _ _ h with h | h
    · exact ⟨e, by simp, List.mem_cons.1 h⟩
    · obtain ⟨e', he, h⟩ := mem_ancOf h
      exact ⟨e', by simp [he], h⟩

theorem ancT_ok : ∀ (l : List Oper) (T : List (List Nat)), (∀ k, l[k]? = ops[T.length + k]?) → (∀ j, ∀ a ∈ T.getD j [], Anc ops j a) → ∀ j, ∀ a ∈ (ancT l T).getD j [], Anc ops j a
  | [], T, _, h => h
  | o :: r, T, hl, h => by
    refine ancT_ok r _ (fun k => ?_) ?_
    · have := hl (k + 1)
      simp only [List.getElem?_cons_succ] at this
      rw [this]; simp only [List.length_append, List.length_singleton]; congr 1; omega
    · intro j a ha
      have ho : ops[T.length]? = some o := by have := hl 0; simpa using this.symm
      rcases Nat.lt_trichotomy j T.length with hj | rfl | hj
      · rw [List.getD_eq_getElem?_getD, List.getElem?_append_left hj, ← List.getD_eq_getElem?_getD] at ha
        exact h j a ha
      · simp only [List.getD_eq_getElem?_getD, List.getElem?_append_right (Nat.le_refl _), Nat.sub_self, List.getElem?_cons_zero, Option.getD_some] at ha
        obtain ⟨e, he, hx⟩ := mem_ancOf ha
        simp only [edgesOf, List.mem_map, List.mem_filter, Array.mem_toList_iff] at he
        obtain ⟨E, ⟨h1, h2⟩, rfl⟩ := he
        rcases hx with rfl | hx
        · exact .one ho h1 h2
        · exact .more ho h1 h2 (h _ _ hx)
      · rw [List.getD_eq_getElem?_getD, List.getElem?_eq_none (by simp; omega)] at ha
        simp at ha

/-- what is listed has all ahead of it listed -/
def Shut (ops : Array Oper) (listed : Array Bool) : Prop := ∀ i, listed.getD i false = true → ∀ o, ops[i]? = some o → ∀ e ∈ o.after, Region.binds .any e = true → listed.getD e.on false = true

theorem anc_listed {listed : Array Bool} (hs : Shut ops listed) {i a : Nat} (h : Anc ops i a) : (∀ o, ops[i]? = some o → ∀ e ∈ o.after, Region.binds .any e = true → listed.getD e.on false = true) → listed.getD a false = true := by
  induction h with
  | one ho he hb => exact fun hi => hi _ ho _ he hb
  | more ho he hb _ ih => exact fun hi => ih fun o ho' => hs _ (hi _ ho _ he hb) o ho'

theorem pairsOk_pw {T : List (List Nat)} : ∀ {l : List (Nat × VI)}, pairsOk T l = true → l.Pairwise (fun x y => freeP T x y = true)
  | [], _ => .nil
  | x :: r, h => by
    simp only [pairsOk, Bool.and_eq_true, List.all_eq_true] at h
    exact .cons h.1 (pairsOk_pw h.2)

def unl (listed : Array Bool) (ps : List (Nat × VI)) : List (Nat × VI) := ps.filter fun x => !(listed.getD x.1 false)

variable {P : Program} {B : Nat} {w0 : W0} {g : Gh} {nt : Nat} {D : List Deferred} {a : Act} {w : World} {st : St}

theorem topo_ready {listed : Array Bool} : ∀ (r seen : List Nat), topo ops seen r = true → (∀ k ∈ seen, listed.getD k false = true) → (∃ i ∈ r, listed.getD i false = false) → listed.size = ops.size → Region.ready .any ops listed ≠ []
  | [], _, _, _, h, _ => by obtain ⟨_, h, _⟩ := h; cases h
  | i :: r, seen, ht, hs, h, hsz => by
    simp only [topo, Bool.and_eq_true] at ht
    cases ho : ops[i]? with
    | none => rw [ho] at ht; exact absurd ht.1 (by simp)
    | some o =>
      rw [ho] at ht
      cases hl : listed.getD i false with
      | false =>
        have hi : i ∈ Region.ready .any ops listed := by
          refine mem_ready.2 ⟨?_, o, ho, fun e he hb => ?_⟩
          · have hlt := (Array.getElem?_eq_some_iff.1 ho).1
            have h2 : i < listed.size := by omega
            simp [h2] at hl ⊢; exact hl
          · have := List.all_eq_true.1 ht.1 e.on (List.mem_map.2 ⟨e, List.mem_filter.2 ⟨by simpa using he, hb⟩, rfl⟩)
            exact hs _ (by simpa using this)
        intro q
        rw [q] at hi; cases hi
      | true =>
        refine topo_ready r _ ht.2 (fun k hk => ?_) ?_ hsz
        · rcases List.mem_cons.1 hk with rfl | hk
          · exact hl
          · exact hs k hk
        · obtain ⟨j, hj, hjl⟩ := h
          rcases List.mem_cons.1 hj with rfl | hj
          · rw [hl] at hjl; cases hjl
          · exact ⟨j, hj, hjl⟩

theorem opd_step (hcm : w0.cm = cmP P) (S : SInv B w0 st g nt D a w) {ro : Option Nat} {i : Nat} {vi : VI} {o : Oper} (ho : ops[i]? = some o) (hm : mVI P nt ops vi o = true) (hg : gOk nt vi = true) {v : VV} {ob1 : List Obj} (h : ValD P vi st.env st.ob v ob1)
    {Q : Exit → Act → World → Prop} {next : Act → World → Prop} (hn : ∀ g' a' w', SInv B w0 { st with env := putD st.env vi.dst v, ob := ob1 } g' nt D a' w' → next a' w') : wpOpIn (Wd ro) 0 P ops Q i next a w := by
  unfold wpOpIn
  simp only [ho]
  have hgn : ∀ s b, vi.g = some (s, b) → s < nt := fun s b e => by simp only [gOk, e, decide_eq_true_eq] at hg; exact hg
  exact opW_sound (K := fun st' => st' = { st with env := putD st.env vi.dst v, ob := ob1 }) hcm S hm hgn (val_opW h rfl) (fun st' g' a' w' e hS => by subst e; exact hn g' a' w' hS)

theorem draw_steps (hcm : w0.cm = cmP P) {ro : Option Nat} {T : List (List Nat)} (hT : ∀ j, ∀ x ∈ T.getD j [], Anc ops j x) {ps : List (Nat × VI)} (hall : ∀ k, k < ops.size → ∃ x ∈ ps, x.1 = k)
    (hm : ∀ x ∈ ps, gOk nt x.2 = true ∧ ∃ o, ops[x.1]? = some o ∧ mVI P nt ops x.2 o = true) (hp : ps.Pairwise (fun x y => freeP T x y = true)) (ht : topo ops [] (ps.map (·.1)) = true) {Q : Exit → Act → World → Prop} {st' : St} (hQ : ∀ g' a' w', SInv B w0 st' g' nt D a' w' → Q .normal a' w') :
    ∀ (n : Nat) (listed : Array Bool) (st : St) (g : Gh) (a : Act) (w : World), listed.size = ops.size → (unl listed ps).length = n → Shut ops listed → SInv B w0 st g nt D a w → Chain P (unl listed ps) st st' → wpAnyIn (Wd ro) 0 P .any ops Q n listed a w := by
  intro n
  -- who is ready stands in the chain, and may be taken first
  have take : ∀ (listed : Array Bool) (st : St), listed.size = ops.size → Shut ops listed → Chain P (unl listed ps) st st' → ∀ i ∈ Region.ready .any ops listed,
      ∃ x A C, x ∈ ps ∧ x.1 = i ∧ unl listed ps = A ++ x :: C ∧ unl (listed.setIfInBounds i true) ps = A ++ C ∧ Chain P (x :: (A ++ C)) st st' ∧ Shut ops (listed.setIfInBounds i true) := by
    intro listed st hsz hs hc i hi
    obtain ⟨hun, o, ho, hedge⟩ := mem_ready.1 hi
    have hlt : i < ops.size := (Array.getElem?_eq_some_iff.1 ho).1
    have hun' : listed.getD i false = false := by
      have h2 : i < listed.size := by omega
      simp [h2] at hun ⊢; exact hun
    obtain ⟨x, hx, rfl⟩ := hall i hlt
    have hxm : x ∈ unl listed ps := List.mem_filter.2 ⟨hx, by simp [hun']⟩
    obtain ⟨A, C, hAC⟩ := List.append_of_mem hxm
    have hpw : (A ++ x :: C).Pairwise (fun x y => freeP T x y = true) := by rw [← hAC]; exact hp.filter _
    rw [List.pairwise_append, List.pairwise_cons] at hpw
    obtain ⟨hA, ⟨hC, _⟩, hAx⟩ := hpw
    have neA : ∀ y ∈ A, y.1 ≠ x.1 := fun y hy e => by have := hAx y hy x (by simp); simp [freeP, e] at this
    have neC : ∀ y ∈ C, y.1 ≠ x.1 := fun y hy e => by have := hC y hy; simp [freeP, e] at this
    refine ⟨x, A, C, hx, rfl, hAC, ?_, ?_, ?_⟩
    · have : unl (listed.setIfInBounds x.1 true) ps = (unl listed ps).filter (fun y => !(y.1 == x.1)) := by
        unfold unl
        rw [List.filter_filter]
        refine List.filter_congr fun y hy => ?_
        by_cases e : y.1 = x.1
        · have h2 : x.1 < listed.size := by omega
          simp [e, h2]
        · have e' : x.1 ≠ y.1 := fun q => e q.symm
          rw [getD_set_ne false e']
          simp [e]
      rw [this, hAC, List.filter_append, List.filter_cons]
      have h1 : A.filter (fun y => !(y.1 == x.1)) = A := List.filter_eq_self.2 fun y hy => by simp [neA y hy]
      have h2 : C.filter (fun y => !(y.1 == x.1)) = C := List.filter_eq_self.2 fun y hy => by simp [neC y hy]
      simp [h1, h2]
    · refine chain_front (fun y hy => ?_) (by rw [← hAC]; exact hc)
      have h1 := hAx y hy x (by simp)
      simp only [freeP, Bool.and_eq_true, Bool.or_eq_true] at h1
      rcases h1.2 with h2 | h2
      · exfalso
        have h3 := anc_listed hs (hT x.1 y.1 (by simpa using h2)) (fun o' ho' e he hb => by rw [ho] at ho'; cases ho'; exact hedge e he hb)
        have hy' : y ∈ unl listed ps := by rw [hAC]; simp [hy]
        have := (List.mem_filter.1 hy').2
        rw [h3] at this; cases this
      · exact h2
    · intro j hj o' ho' e he hb
      by_cases q : x.1 = j
      · subst q
        rw [ho] at ho'; cases ho'
        exact getD_set_true (hedge e he hb)
      · rw [getD_set_ne false q] at hj
        exact getD_set_true (hs j hj o' ho' e he hb)
  induction n with
  | zero =>
    intro listed st g a w hsz hn hs S hc
    have hnil : unl listed ps = [] := List.eq_nil_of_length_eq_zero hn
    refine ⟨?_, ?_⟩
    · refine List.eq_nil_iff_forall_not_mem.2 fun i hi => ?_
      obtain ⟨x, A, C, _, _, h, _⟩ := take listed st hsz hs hc i hi
      rw [hnil] at h
      cases A <;> simp at h
    · rw [hnil] at hc
      cases hc
      exact hQ _ _ _ S
  | succ n ih =>
    intro listed st g a w hsz hn hs S hc
    refine ⟨fun hr => ?_, fun i hi => ?_⟩
    · -- nobody ready: then nobody is left
      exfalso
      refine topo_ready _ _ ht (by simp) ?_ hsz hr
      cases hu : unl listed ps with
      | nil => rw [hu] at hn; cases hn
      | cons x r =>
        have hx : x ∈ unl listed ps := by rw [hu]; simp
        obtain ⟨h1, h2⟩ := List.mem_filter.1 hx
        exact ⟨x.1, List.mem_map.2 ⟨x, h1, rfl⟩, by simpa using h2⟩
    · obtain ⟨x, A, C, hx, rfl, hAC, hAC', ⟨v, ob1, hv, hc'⟩, hs'⟩ := take listed st hsz hs hc i hi
      obtain ⟨hg, o, ho, hmo⟩ := hm x hx
      refine opd_step hcm S ho hmo hg hv fun g' a' w' S' => ?_
      refine ih _ _ _ _ _ (by simpa using hsz) ?_ hs' S' (by rw [hAC']; exact hc')
      rw [hAC']
      rw [hAC] at hn
      simp at hn ⊢; omega

theorem draw_sound (hcm : w0.cm = cmP P) (S : SInv B w0 st g nt D a w) {ro : Option Nat} {vis : List VI} {ord : List Nat} (hm : mDraw P nt ops vis ord = true) {K : St → Prop} (h : OpsD P vis st K) {id : Nat} {Q : Exit → Act → World → Prop}
    (hQ : ∀ st' g' a' w', K st' → SInv B w0 st' g' nt D a' w' → Q .normal a' w') : (Code.region id ops true).wpIn (Wd ro) 0 P Q a w := by
  simp only [mDraw, Bool.and_eq_true, beq_iff_eq] at hm
  obtain ⟨⟨⟨⟨⟨⟨h1, h2⟩, h3⟩, h4⟩, h5⟩, h6⟩, h7⟩ := hm
  refine wpIn_region_any h1 ?_
  have e1 : (ord.zip vis).map (·.2) = vis := by
    have := List.map_snd_zip (l₁ := ord) (l₂ := vis) (by omega); simpa using this
  have e2 : (ord.zip vis).map (·.1) = ord := by
    have := List.map_fst_zip (l₁ := ord) (l₂ := vis) (by omega); simpa using this
  rw [← e1] at h
  obtain ⟨st', hc, hk⟩ := opsD_chain h
  have hu : unl (Array.replicate ops.size false) (ord.zip vis) = ord.zip vis := by
    refine List.filter_eq_self.2 fun x _ => ?_
    by_cases e : x.1 < ops.size <;> simp [e]
  refine draw_steps hcm (T := ancT ops.toList []) (ancT_ok _ [] (by simp) (by simp)) (ps := ord.zip vis) (fun k hk => ?_) (fun x hx => ?_) (pairsOk_pw h6) (by rw [e2]; exact h7) (st' := st') (fun g' a' w' S' => hQ _ _ _ _ hk S') ops.size _ st g a _ (by simp) (by rw [hu]; simp; omega) ?_ ⟨S.H.drew, fun s => Pres.drew S.H _ _ (S.e s), S.n, S.d.pres (Pres.drew S.H), fun v x h => ⟨Pres.drew S.H _ _ (S.k v x h).1, (S.k v x h).2⟩⟩ (by rw [hu]; exact hc)
  · have := List.all_eq_true.1 h4 k (by simpa using hk)
    have hko : k ∈ ord := by simpa using this
    rw [← e2] at hko
    obtain ⟨x, hx, rfl⟩ := List.mem_map.1 hko
    exact ⟨x, hx, rfl⟩
  · have := List.all_eq_true.1 h5 x hx
    simp only [Bool.and_eq_true] at this
    refine ⟨this.1, ?_⟩
    have h := this.2
    split at h
    · rename_i o ho; exact ⟨o, ho, h⟩
    · cases h
  · intro i hi
    by_cases e : i < ops.size <;> simp [e] at hi

end
end Go.V
