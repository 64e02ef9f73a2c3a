/- V, part 18: calls in the machine. -/
import Derived.Test.YtfhkgkijljfcfaaV17
set_option linter.unusedVariables false
set_option linter.unusedSimpArgs false
namespace Go.V
open Go.RowKit

section
variable {P : Program} {B : Nat} {w0 : W0} {ob : List Obj} {g : Gh} {nt : Nat} {D : List Deferred} {a : Act} {w : World} {st : St}

/-- Behind a call that has left all old blocks as they were. -/
theorem HInv.called (H : HInv B w0 ob g w) {w' : World} {F' : Nat → Nat} (hb : Below w.heap.size w w') (hf : ∀ b, w'.heap.size ≤ b → F' b = 0) (hF : ∀ b, b < w.heap.size → F' b = g.F b) :
    HInv B w0 ob { g with F := F' } w' ∧ Pres B ob g w ob { g with F := F' } w' := by
  have hw : ∀ b o, o < g.F b → w'.cell? ⟨b, o, none⟩ = w.cell? ⟨b, o, none⟩ := fun b o h => hb.cell (p := ⟨b, o, none⟩) (H.F_pos h)
  have hFm : ∀ b, g.F b ≤ F' b := fun b => by
    rcases Nat.lt_or_ge b w.heap.size with h | h
    · rw [hF b h]; exact Nat.le_refl _
    · rw [H.fz b h]; exact Nat.zero_le _
  have hp : Pres B ob g w ob { g with F := F' } w' := by
    refine Pres.of (Nat.le_refl _) hw hFm (fun _ _ _ h => h) fun t n sz h => ⟨n, h, Nat.le_refl _, fun _ x hc => ?_⟩
    rcases hc with ⟨a, rfl, rfl⟩ | ⟨b1, o1, cap, arr1, ty1, q1, rfl, q3, q4, q5, q6, q7⟩
    · exact .inl ⟨a, rfl, rfl⟩
    · have hlt := lt_of_heap q4
      exact .inr ⟨b1, o1, cap, arr1, ty1, q1, rfl, q3, (hb.block _ hlt).trans q4, q5, (hF _ hlt).trans q6, q7⟩
  refine ⟨⟨H.below.trans (hb.mono H.hB), Nat.le_trans H.hB hb.size, hf, fun b h => (hF b (Nat.lt_of_lt_of_le h H.hB)).trans (H.f0 b h), H.c0, fun i b h => ⟨(H.tbl i b h).1, Nat.lt_of_lt_of_le (H.tbl i b h).2 hb.size⟩, fun i b h => ⟨(H.kbl i b h).1, Nat.lt_of_lt_of_le (H.kbl i b h).2 hb.size⟩, H.inj, H.injk, H.apart, fun i hi => ?_⟩, hp⟩
  exact (H.obs i hi).keep hp (rep_keep hw hFm) (fun b h => ⟨h, hF _ (H.tbl i b h).2, hb.block _ (H.tbl i b h).2⟩) (fun h => h)

theorem fresh_adopt (H : HInv B w0 ob g w) {n0 : Nat} {es : List VV} {x : Value} {sz : Nat} (h0 : 0 < sz) (hs : hdSz es sz = true) (hB : B ≤ n0) (hfr : Fresh n0 w g.F (.sl es 1) x) (hr : Rep w g.F g.tb (.sl es 1) x)
    (hn : ∀ i b, g.tb i = some b → b < n0) (hk : ∀ i b, g.kb i = some b → b < n0) :
    ∃ g', g'.F = g.F ∧ g'.tb = g.tb ∧ HInv B w0 (ob ++ [.tok es.length sz]) g' w ∧ Pres B ob g w (ob ++ [.tok es.length sz]) g' w ∧ GV B (ob ++ [.tok es.length sz]) g' w (.sl es (ob.length + 2)) x := by
  have hrep : Rep w g.F g.tb (.sl es (ob.length + 2)) x := by
    cases hr with
    | slE => exact .slE
    | sl vals hne hcap hsz hc h hr hF => exact .sl vals hne hcap hsz hc h hr hF
  rcases hfr with ⟨a, rfl, rfl⟩ | ⟨b, o, cap, arr, ty, sz', rfl, hcap, hne, hheap, hel, hfit, hF, hb0⟩
  · obtain ⟨H2, p2⟩ := H.pushTok (n := 0) h0 none (by simp)
    refine ⟨{ g with kb := fun i => if i = ob.length then none else g.kb i }, rfl, rfl, H2, p2, hrep, Hnd.sl.2 ⟨0, sz, nthO_new _ _, h0, Nat.le_refl _, fun _ => .inl ⟨a, rfl, rfl⟩, fun j hj => absurd hj (by simp)⟩, by simp [VV.ids]⟩
  · have hse : sz' = sz := by
      cases es with
      | nil => exact absurd rfl hne
      | cons e r =>
        simp only [hdSz, beq_iff_eq] at hs
        rw [← hs]; exact (hel e (by simp)).symm
    subst hse
    obtain ⟨H2, p2⟩ := H.pushTok (n := es.length) h0 (some b) (fun b' h => by
      cases h
      exact ⟨lt_of_heap hheap, fun i h => by have := hn i _ h; omega, fun i h => by have := hk i _ h; omega⟩)
    refine ⟨{ g with kb := fun i => if i = ob.length then some b else g.kb i }, rfl, rfl, H2, p2, hrep, Hnd.sl.2 ⟨es.length, sz', nthO_new _ _, h0, Nat.le_refl _, fun _ => .inr ⟨b, o, cap, arr, ty, by simp, rfl, hcap, hheap, hfit, hF, by omega, List.length_pos_iff.2 hne⟩, fun j hj => hel _ (List.getElem_mem hj)⟩, by simp [VV.ids]⟩

theorem take_sound (H : HInv B w0 ob g w) {n0 : Nat} (hB : B ≤ n0) {own : Option (Option Nat × Nat)} {r v : VV} {x : Value} {ob' : List Obj} (hr : ResR n0 w g.F r x) (hn : ∀ i b, g.tb i = some b → b < n0) (hk : ∀ i b, g.kb i = some b → b < n0)
    (h : takeR own ob r = some (v, ob')) : ∃ g', HInv B w0 ob' g' w ∧ Pres B ob g w ob' g' w ∧ GV B ob' g' w v x := by
  unfold takeR at h
  split at h
  · simp only [Option.some.injEq, Prod.mk.injEq] at h
    obtain ⟨rfl, rfl⟩ := h
    exact ⟨g, H, Pres.refl _ _ _ _, stripT_GV hr.rep hr.ids⟩
  · rename_i c sz
    split at h
    · rename_i es hes
      split at h
      · rename_i hcond
        simp only [Option.some.injEq, Prod.mk.injEq] at h
        obtain ⟨rfl, rfl⟩ := h
        unfold freshOf at hes
        split at hes
        · cases hes
          obtain ⟨g', _, _, H', p', hg'⟩ := fresh_adopt H hcond.2 hcond.1 hB hr.fresh (hr.rep g.tb) hn hk
          exact ⟨g', H', p', hg'⟩
        · rename_i i vs
          split at hes
          · rename_i es' hvi
            cases hes
            have hrep := hr.rep g.tb
            have hids := hr.ids
            obtain ⟨hlt, hve⟩ := List.getElem?_eq_some_iff.1 hvi
            cases hrep with
            | @tup _ xs hl hc hrs =>
              have hxi : xs[i]? = some (xs[i]'(hl ▸ hlt)) := Array.getElem?_eq_getElem (hl ▸ hlt)
              have hfr := (hr.tup vs xs rfl rfl).1 i _ _ hvi hxi
              have hri := hrs i hlt
              rw [hve] at hri
              obtain ⟨g', hF', ht', H', p', hg'⟩ := fresh_adopt H hcond.2 hcond.1 hB hfr hri hn hk
              refine ⟨g', H', p', ?_⟩
              -- the tuple with the one component's handle
              have hS : GV B ob g w (VV.stripT (.tup vs)) (.tuple xs) := stripT_GV hr.rep hr.ids
              have hS' := p' _ _ hS
              simp only [VV.stripT] at hS'
              have hcomp : ∀ (j : Nat) (hj : j < ((vs.map VV.strip).modify i (setTok (ob.length + 2))).length), ((vs.map VV.strip).modify i (setTok (ob.length + 2)))[j] = if j = i then .sl es (ob.length + 2) else (vs[j]'(by simpa using hj)).strip := fun j hj => by
                rw [List.getElem_modify]
                by_cases e : j = i
                · subst e
                  simp only [if_true, List.getElem_map, hve]
                  rfl
                · rw [if_neg (fun q => e q.symm), if_neg e, List.getElem_map]
              have hrep' := hS'.rep
              have hids' := hS'.ids
              have hhnd' := hS'.hnd
              cases hrep' with
              | @tup _ _ hl2 hc2 hrs2 =>
                refine ⟨.tup (by simpa using hl) ?_ fun j hj => ?_, ?_, ?_⟩
                · rw [List.all_eq_true]
                  intro u hu
                  obtain ⟨j, hj, rfl⟩ := List.getElem_of_mem hu
                  rw [hcomp j hj]
                  split
                  · rfl
                  · have := List.all_eq_true.1 hc2 ((vs.map VV.strip)[j]'(by simpa using hj)) (List.getElem_mem _)
                    simpa using this
                · rw [hcomp j hj]
                  split
                  · rename_i e; subst e; exact hg'.rep
                  · have := hrs2 j (by simpa using hj)
                    simpa using this
                · intro j v y hv hy
                  obtain ⟨hj, rfl⟩ := List.getElem?_eq_some_iff.1 hv
                  rw [hcomp j hj]
                  split
                  · rename_i e
                    subst e
                    rw [hxi] at hy; cases hy
                    exact ⟨Hnd.sl.1 hg'.hnd, fun ds ys e1 => by cases e1⟩
                  · have := hhnd' j (vs[j]'(by simpa using hj)).strip y (by simp [show j < vs.length by simpa using hj]) hy
                    exact this
                · simp only [adoptV, VV.ids]
                  refine idsL_of fun u hu => ?_
                  obtain ⟨j, hj, rfl⟩ := List.getElem_of_mem hu
                  rw [hcomp j hj]
                  split
                  · exact hg'.ids
                  · simp only [VV.ids] at hids'
                    have := idsL_get hids' j (by simpa using hj)
                    simpa using this
          · cases hes
        · cases hes
      · cases h
    · cases h

theorem noHnd_hnd {v : VV} (h : v.noHnd = true) (x : Value) : Hnd B ob g w v x := by
  cases v with
  | agg cs =>
    simp only [VV.noHnd, List.all_eq_true] at h
    cases x <;> try trivial
    intro j v x hv _
    have hc := h v (List.mem_of_getElem? hv)
    cases v <;> first | trivial | (simp only [VV.noHnd0, beq_iff_eq] at hc; subst hc; trivial)
  | sl es t =>
    simp only [VV.noHnd, VV.noHnd0, beq_iff_eq] at h
    subst h
    exact Hnd.sl.2 trivial
  | tup vs => simp [VV.noHnd, VV.noHnd0] at h
  | _ => cases x <;> trivial

/-- A call, in the machine. -/
theorem callW_sound (hcm : w0.cm = cmP P) (S : SInv B w0 st g nt D a w) {f : Nat} {args : List VV} {vals : Array Value} (hl : vals.size = args.length) (hv : ∀ j (h : j < args.length) (h' : j < vals.size), GV B st.ob g w args[j] vals[j])
    {own : Option (Option Nat × Nat)} {d : Option Nat} (hd : ∀ k, d = some k → k < nt) {K : St → Prop} (h : CallW P f args own d st K) :
    callOk P f = true ∧ CallsIn Fence.wide 0 P f vals w fun e w' => ∃ x g' st', e = .returned x ∧ K st' ∧ SInv B w0 st' g' nt D (a.put d x) w' := by
  rcases h with ⟨hcl, r, ⟨hok, hc⟩, hk⟩ | ⟨hown, hnt, hok, hc⟩
  · refine ⟨hok, ?_⟩
    rw [List.all_eq_true] at hcl
    refine CallsIn.mono (hc w g.F vals S.H.fz (by simpa using hl) fun j hj hj' => ?_) ?_
    · have hj2 : j < args.length := by simpa using hj
      have hg := hv j hj2 hj'
      have := hcl (args[j].strip) (List.mem_map.2 ⟨_, List.getElem_mem hj2, rfl⟩)
      simp only [Bool.and_eq_true] at this
      have hs := strip_rep hg.rep
      simp only [List.getElem_map]
      exact hs.mono (n := 0) (fun _ _ _ => rfl) (fun _ => Nat.le_refl _) (fun i b hi => absurd hi (by omega)) this.1
    · rintro e w' ⟨x, F', rfl, hb, hf, hF, hres⟩
      obtain ⟨H1, p1⟩ := S.H.called hb hf hF
      cases ht : takeR own st.ob r with
      | none => rw [ht] at hk; exact hk.elim
      | some q =>
        obtain ⟨v, ob'⟩ := q
        rw [ht] at hk
        obtain ⟨g', H2, p2, hg2⟩ := take_sound (n0 := w.heap.size) H1 S.H.hB hres (fun i b h => (S.H.tbl i b h).2) (fun i b h => (S.H.kbl i b h).2) ht
        exact ⟨x, g', _, rfl, hk, S.put hd H2 hg2 (p1.trans p2)⟩
  · refine ⟨hok, ?_⟩
    rw [List.all_eq_true] at hnt
    refine CallsIn.mono (hc B w0 g w vals hcm S.H (by simpa using hl) fun j hj hj' => ?_) ?_
    · have hj2 : j < args.length := by simpa using hj
      simp only [List.getElem_map]
      exact (hv j hj2 hj').strip (hnt _ (List.getElem_mem hj2))
    · rintro e w' ⟨x, g', r, ob', rfl, hk, H', hg', hp⟩
      exact ⟨x, g', _, rfl, hk, S.put hd H' hg' hp⟩

theorem wanted_sound (S : SInv B w0 st g nt D a w) {ops : Array Oper} {gd : Option (Nat × Bool)} {o : Oper} (hm : mGuard ops gd o.guard = true) {t : Bool} (h : wantedV st.env gd = some t) (hnt : ∀ s b, gd = some (s, b) → s < nt) :
    Region.wanted o (yielded ops a.tmps) = t := by
  unfold mGuard at hm
  split at hm
  · rename_i h1
    simp only [wantedV, Option.some.injEq] at h
    subst h
    simp [Region.wanted, h1]
  · rename_i s b j b' h1
    simp only [Bool.and_eq_true, beq_iff_eq] at hm
    obtain ⟨rfl, hdst⟩ := hm
    have hs := hnt s b rfl
    have hg := S.e s
    have htm : a.tmps[s]? = some (a.tmps.getD s Go.undef) := by simp [S.n, hs]
    have hy : yielded ops a.tmps j = match a.tmps.getD s Go.undef with | .bool c => some c | _ => none := by
      unfold yielded
      rw [hdst]
      simp only [Option.bind_some, htm]
      cases a.tmps.getD s Go.undef <;> rfl
    simp only [Region.wanted, h1]
    rw [hy]
    simp only [wantedV] at h
    revert h hg
    generalize get st.env s = u
    generalize a.tmps.getD s Go.undef = x
    intro h hg
    split at h
    · cases h
      obtain rfl := hg.bool_inv
      rename_i c
      cases c <;> cases b <;> rfl
    · cases h
      have hr := hg.rep
      cases hr with
      | tup hl hc hr => rfl
    · cases h
  · cases hm

theorem args_sound (S : SInv B w0 st g nt D a w) {args : List Opd} {args' : Array Operand} (hm : mOL args args'.toList = true) :
    (args'.map a.eval).size = (args.map (Opd.ev st.env)).length ∧ ∀ j (h : j < (args.map (Opd.ev st.env)).length) (h' : j < (args'.map a.eval).size), GV B st.ob g w (args.map (Opd.ev st.env))[j] (args'.map a.eval)[j] := by
  have hl := mOL_len hm
  simp only [Array.length_toList] at hl
  refine ⟨by simpa using hl, fun j h h' => ?_⟩
  have hj : j < args.length := by simpa using h
  have hj' : j < args'.size := by omega
  simp only [List.getElem_map, Array.getElem_map]
  exact S.reads.opd (by have := mOL_get hm j hj (by simpa using hj'); rwa [Array.getElem_toList] at this)

/-- One operation of a region: it goes on in a state of V's. -/
theorem opW_sound (hcm : w0.cm = cmP P) (S : SInv B w0 st g nt D a w) {ro : Option Nat} {ops : Array Oper} {i : VI} {o : Oper} (hm : mVI P nt ops i o = true) (hgn : ∀ s b, i.g = some (s, b) → s < nt) {K : St → Prop} (h : OpW P i st K) {Q : Exit → Act → World → Prop} {next : Act → World → Prop}
    (hn : ∀ st' g' a' w', K st' → SInv B w0 st' g' nt D a' w' → next a' w') :
    if Region.wanted o (yielded ops a.tmps) then o.wpIn (Wd ro) 0 P a w next Q else (∀ f, o.about P w a.eval = some f → (Wd ro).fn f) ∧ next (a.put o.dst Go.undef) w := by
  simp only [mVI, Bool.and_eq_true, beq_iff_eq, Bool.or_eq_true] at hm
  obtain ⟨⟨⟨hdst, hdn⟩, hgd⟩, hop⟩ := hm
  have hdn' : ∀ k, i.dst = some k → k < nt := fun k hk => by rw [hk] at hdn; simpa using hdn
  unfold OpW at h
  split at h
  · exact h.elim
  · rename_i hw
    have := wanted_sound S hgd hw hgn
    rw [this]
    simp only [Bool.false_eq_true, if_false]
    exact ⟨fun _ _ => trivial, hn _ _ _ _ h (by rw [← hdst]; exact S.put (ob' := st.ob) hdn' S.H GV.undef (Pres.refl _ _ _ _))⟩
  · rename_i hw
    have hwant := wanted_sound S hgd hw hgn
    rw [hwant]
    simp only [if_true]
    have nodefer : ∀ c, o.op ≠ .defer c := fun c e => by
      rcases hop with q | q <;> rw [e] at q
      · unfold mOp at q; split at q <;> simp_all
      · unfold mCall at q; split at q <;> simp_all
    have hsem : Oper.semAt (Wd ro).round a.eval o = execOp a.eval o := Oper.semAt_eq _ _ _ nodefer
    refine ⟨fun _ _ => trivial, ?_⟩
    rw [hsem]
    have hcall : ∀ (f : Nat) (args : List VV) (vals : Array Value) (own : Option (Option Nat × Nat)), vals.size = args.length → (∀ j (h : j < args.length) (h' : j < vals.size), GV B st.ob g w args[j] vals[j]) → CallW P f args own i.dst st K →
        (execOp a.eval o).run P w = (callFunc f vals).run P w → o.uponIn (Wd ro) 0 P a next Q ((execOp a.eval o).run P w) := by
      intro f args vals own hl hv hc hrun
      obtain ⟨hok, hcalls⟩ := callW_sound hcm S hl hv hdn' hc
      rw [hrun, callFunc_ok hok]
      refine ⟨fun h => by simp [Wd, Fence.wide] at h, ?_⟩
      refine CallsIn.mono (calls_wd hcalls) ?_
      rintro e w' ⟨x, g', st', rfl, hk, hS⟩
      have e : a.put o.dst x = a.put i.dst x := by rw [hdst]
      show next (a.put o.dst x) w'
      rw [e]
      exact hn _ _ _ _ hk hS
    split at h
    · rename_i f args own hi
      rcases hop with hop | hop
      · rw [hi] at hop; unfold mOp at hop; split at hop <;> simp_all [mCallB]
      · rw [hi] at hop
        cases ho : o.op <;> simp only [ho, mCall, Bool.false_eq_true] at hop
        rename_i c
        obtain ⟨callee, cargs, cty⟩ := c
        cases callee <;> simp only [Bool.false_eq_true] at hop
        rename_i y
        cases y <;> simp only [Bool.false_eq_true, Bool.and_eq_true, beq_iff_eq] at hop
        obtain ⟨⟨rfl, h1⟩, h2⟩ := hop
        obtain ⟨q1, q2⟩ := args_sound S h1
        exact hcall f _ (cargs.map a.eval) own q1 q2 h (by simp [execOp, ho, resolve, Deferred.ofValue, invoke, Act.eval])
    · rename_i x args own hi
      rcases hop with hop | hop
      · rw [hi] at hop; unfold mOp at hop; split at hop <;> simp_all [mCallB]
      · rw [hi] at hop
        cases ho : o.op <;> simp only [ho, mCall, Bool.false_eq_true] at hop
        rename_i c
        obtain ⟨callee, cargs, cty⟩ := c
        cases callee <;> simp only [Bool.false_eq_true, Bool.and_eq_true] at hop
        rename_i y
        obtain ⟨h0, h1⟩ := hop
        split at h
        · rename_i f cap hf
          have hgx := S.reads.opd h0
          have hxe : x.ev st.env = .fn f cap := by
            revert hf
            cases x.ev st.env <;> simp [fnOf]
          rw [hxe] at hgx
          have hrep := hgx.rep
          have hids := hgx.ids
          obtain ⟨q1, q2⟩ := args_sound S h1
          revert hrep
          generalize hy : a.eval y = z
          intro hrep
          cases hrep with
          | @fn _ _ xs hcn hl hr =>
            refine hcall f _ (cargs.map a.eval ++ xs) own (by simp only [Array.size_append, List.length_append, q1, hl]) (fun j hj hj' => ?_) h (by simp [execOp, ho, resolve, Deferred.ofValue, invoke, hy])
            by_cases e : j < (args.map (Opd.ev st.env)).length
            · rw [List.getElem_append_left e, Array.getElem_append_left (by rw [q1]; exact e)]
              exact q2 j e _
            · have e2 : (args.map (Opd.ev st.env)).length ≤ j := by omega
              rw [List.getElem_append_right e2, Array.getElem_append_right (by rw [q1]; exact e2)]
              have hjc : j - (args.map (Opd.ev st.env)).length < cap.length := by simp at hj e2 ⊢; omega
              simp only [q1]
              have hcap := hr (j - (args.map (Opd.ev st.env)).length) hjc
              exact ⟨hcap, noHnd_hnd (List.all_eq_true.1 hcn _ (List.getElem_mem hjc)) _, idsL_get (by simpa [VV.ids] using hids) _ hjc⟩
        · split at h
          · rename_i oy hy
            have hgx := S.reads.opd h0
            have hxe : x.ev st.env = .yld oy := by
              revert hy
              cases x.ev st.env <;> simp [yldOf]
            rw [hxe] at hgx
            have hrep := hgx.rep
            obtain ⟨q1, q2⟩ := args_sound S h1
            obtain ⟨hnt, hyc⟩ := h
            rw [List.all_eq_true] at hnt
            revert hrep
            generalize hyv : a.eval y = z
            intro hrep
            cases hrep with
            | @yld _ l htb =>
              obtain ⟨f, tmps, assign, body, hrun, hround⟩ := hyc B w0 g w l (cargs.map a.eval) hcm S.H htb (by simpa using q1) fun j hj hj' => by
                have hj2 : j < (args.map (Opd.ev st.env)).length := by simpa using hj
                have := (q2 j hj2 hj').strip (hnt _ (List.getElem_mem hj2))
                simp only [List.getElem_map] at this ⊢
                exact this
              have hex : (execOp a.eval o).run P w = .ok (.round l f tmps assign body) w := by
                simp [execOp, ho, resolve, Deferred.ofValue, invoke, hyv, hrun]
              rw [hex]
              refine ⟨fun h => by simp [Wd, Fence.wide] at h, ?_⟩
              refine RoundIn.mono (F := Wd ro) hround ?_
              rintro e w' ⟨x, g', r, ob', rfl, hk, H', hg', hp⟩
              have e : a.put o.dst x = a.put i.dst x := by rw [hdst]
              show next (a.put o.dst x) w'
              rw [e]
              exact hn _ _ _ _ hk (S.put hdn' H' hg' hp)
          · exact h.elim
    · rename_i op hno1 hno2
      split at h
      · rename_i v ob' hev
        have hmo : mOp P i.op o.op = true := by
          rcases hop with q | q
          · exact q
          · exfalso
            unfold mCall at q
            split at q
            · exact hno1 _ _ _ (by assumption)
            · exact hno2 _ _ _ (by assumption)
            · cases q
        obtain ⟨x, g', w', hok, H', hg', hp⟩ := op_sound S.H S.reads hmo o rfl hev
        have hS := S.put hdn' H' hg' hp
        rcases hok with hrun | ⟨hrun, rfl⟩
        · rw [hrun]
          have e : a.put o.dst x = a.put i.dst x := by rw [hdst]
          show next (a.put o.dst x) w'
          rw [e]
          exact hn _ _ _ _ h hS
        · rw [hrun]
          have e : a.put o.dst Go.undef = a.put i.dst Go.undef := by rw [hdst]
          show next (a.put o.dst Go.undef) w'
          rw [e]
          exact hn _ _ _ _ h hS
      · exact h.elim

end
end Go.V
