/- V, part 22: code: what V says of it, and that the machine does it. -/
import Derived.Test.YtfhkgkijljfcfaaV21
set_option linter.unusedVariables false
set_option linter.unusedSimpArgs false
namespace Go.V
open Go.RowKit

def iterW (body : St → (Ex → St → Prop) → Prop) (K : Ex → St → Prop) : Nat → St → Prop
  | 0, _ => False
  | n + 1, st => body st fun e st' => match e with
    | .nrm => iterW body K n st'
    | .ext id => K (.ext id) st'
    | .ret => K .ret st'

/-- behind a loop over a function -/
def EndL (st : St) (K : Ex → St → Prop) (ob2 : List Obj) : Prop :=
  match nthO ob2 (st.ob.length + 1) with
  | .loop _ _ _ _ _ s pend => (s = 0 ∨ s = 2) ∧ K pend { st with ob := ob2.set (st.ob.length + 1) .gone, marks := st.ob.length :: st.marks }
  | _ => False

def Wp (P : Program) : VC → St → (Ex → St → Prop) → Prop
  | .skip, st, K => K .nrm st
  | .reg ops none, st, K => Ops P ops st fun st' => K .nrm st'
  | .reg ops (some _), st, K => OpsD P ops st fun st' => K .nrm st'
  | .seq a b, st, K => Wp P a st fun e st' => match e with
    | .nrm => Wp P b st' K
    | .ext id => K (.ext id) st'
    | .ret => K .ret st'
  | .cond c a b, st, K => match c.ev st.env with
    | .bool t => (t = true → Wp P a st K) ∧ (t = false → Wp P b st K)
    | _ => False
  | .block id c, st, K => Wp P c st fun e st' => match e with
    | .nrm => K .nrm st'
    | .ext j => if j = id then K .nrm st' else K (.ext j) st'
    | .ret => K .ret st'
  | .loop c, st, K => ∃ n, iterW (Wp P c) K n st
  | .exit id, st, K => K (.ext id) st
  | .ret, st, K => K .ret st
  | .scope _, _, _ => False
  | .rfn _ nt f ps a b, st, K => match fnOf (f.ev st.env) with
    | some (g, cap) => ImpC P g ((VV.yld (st.ob.length + 1) :: cap).map VV.strip) (st.ob ++ [.dfr] ++ [.loop nt st.env ps a b 0 .nrm]) fun r ob2 => EndL st K ob2
    | none => False
  | .drop s k c, st, K => match dropW st s k with
    | some st' => Wp P c st' K
    | none => False
  | .own s f sz c, st, K => match ownW st s f sz with
    | some st' => Wp P c st' K
    | none => False

def exOf : Ex → Exit
  | .nrm => .normal
  | .ext id => .exit id
  | .ret => .ret

section
variable {P : Program} {B : Nat} {w0 : W0} {g : Gh} {nt : Nat} {D : List Deferred} {a : Act} {w : World} {st : St}

theorem least {p : Nat → Prop} (h : ∃ n, p n) : ∃ n, p n ∧ ∀ m, p m → n ≤ m := by
  obtain ⟨n, hn⟩ := h
  induction n using Nat.strongRecOn with
  | _ n ih =>
    by_cases q : ∃ m, m < n ∧ p m
    · obtain ⟨m, hm, hp⟩ := q
      exact ih m hm hp
    · exact ⟨n, hn, fun m hm => Nat.le_of_not_lt fun hlt => q ⟨m, hlt, hm⟩⟩

theorem iterW_mono {body : St → (Ex → St → Prop) → Prop} (hb : ∀ st (K K' : Ex → St → Prop), (∀ e s, K e s → K' e s) → body st K → body st K') {K K' : Ex → St → Prop} (hk : ∀ e s, K e s → K' e s) : ∀ n st, iterW body K n st → iterW body K' n st
  | 0, _, h => h
  | n + 1, st, h => hb st _ _ (fun e s h => by
      cases e with
      | nrm => exact iterW_mono hb hk n s h
      | ext id => exact hk _ _ h
      | ret => exact hk _ _ h) h

theorem callW_mono {f : Nat} {args : List VV} {own : Option (Option Nat × Nat)} {d : Option Nat} {K K' : St → Prop} (hk : ∀ s, K s → K' s) (h : CallW P f args own d st K) : CallW P f args own d st K' := by
  rcases h with ⟨h1, r, h2, h3⟩ | ⟨h1, h2, h3, h4⟩
  · refine .inl ⟨h1, r, h2, ?_⟩
    split at h3
    · exact hk _ h3
    · exact h3.elim
  · refine .inr ⟨h1, h2, h3, fun B w0 g w vals hcm H hs hv => CallsIn.mono (h4 B w0 g w vals hcm H hs hv) ?_⟩
    rintro e w' ⟨x, g', r, ob', q1, q2, q3⟩
    exact ⟨x, g', r, ob', q1, hk _ q2, q3⟩

theorem callD_mono {f : Nat} {args : List VV} {own : Option (Option Nat × Nat)} {d : Option Nat} {K K' : St → Prop} (hk : ∀ s, K s → K' s) (h : CallD P f args own d st K) : CallD P f args own d st K' := by
  rcases h with ⟨h1, r, h2, h3⟩ | ⟨b, h1, h2, v, ob1, h3, h4, h5⟩
  · refine .inl ⟨h1, r, h2, ?_⟩
    split at h3
    · exact hk _ h3
    · exact h3.elim
  · exact .inr ⟨b, h1, h2, v, ob1, h3, h4, hk _ h5⟩

theorem YldC.mono {o : Nat} {args : List VV} {ob : List Obj} {R R' : VV → List Obj → Prop} (h : YldC P o args ob R) (hr : ∀ r o, R r o → R' r o) : YldC P o args ob R' := by
  intro B w0 g w l vals h1 h2 h3 h4 h5
  obtain ⟨f, tmps, assign, body, q1, q2⟩ := h B w0 g w l vals h1 h2 h3 h4 h5
  refine ⟨f, tmps, assign, body, q1, RoundIn.mono q2 ?_⟩
  rintro e w' ⟨x, g', r, ob', q1, q2, q3⟩
  exact ⟨x, g', r, ob', q1, hr _ _ q2, q3⟩

theorem opW_mono {i : VI} {K K' : St → Prop} (hk : ∀ s, K s → K' s) (h : OpW P i st K) : OpW P i st K' := by
  unfold OpW at h ⊢
  split at h
  · exact h.elim
  · exact hk _ h
  · split at h
    · exact callW_mono hk h
    · split at h
      · exact callW_mono hk h
      · split at h
        · exact ⟨h.1, h.2.mono fun r o h => hk _ h⟩
        · exact h.elim
    · split at h
      · exact hk _ h
      · exact h.elim

theorem opD_mono {i : VI} {K K' : St → Prop} (hk : ∀ s, K s → K' s) (h : OpD P i st K) : OpD P i st K' := by
  unfold OpD at h ⊢
  split at h
  · exact h.elim
  · exact hk _ h
  · split at h
    · exact callD_mono hk h
    · split at h
      · exact callD_mono hk h
      · exact h.elim
    · split at h
      · exact hk _ h
      · exact h.elim

theorem ops_mono {K K' : St → Prop} (hk : ∀ s, K s → K' s) : ∀ (l : List VI) (st : St), Ops P l st K → Ops P l st K'
  | [], _, h => hk _ h
  | _ :: r, _, h => opW_mono (fun s h => ops_mono hk r s h) h

theorem opsD_mono {K K' : St → Prop} (hk : ∀ s, K s → K' s) : ∀ (l : List VI) (st : St), OpsD P l st K → OpsD P l st K'
  | [], _, h => hk _ h
  | _ :: r, _, h => opD_mono (fun s h => opsD_mono hk r s h) h

theorem wp_mono {c : VC} : ∀ (st : St) (K K' : Ex → St → Prop), (∀ e s, K e s → K' e s) → Wp P c st K → Wp P c st K' := by
  induction c with
  | skip => exact fun st K K' hk h => hk _ _ h
  | reg ops d =>
    intro st K K' hk h
    cases d with
    | none => exact ops_mono (fun s h => hk _ _ h) ops st h
    | some o => exact opsD_mono (fun s h => hk _ _ h) ops st h
  | seq a b iha ihb =>
    intro st K K' hk h
    refine iha _ _ _ (fun e s h => ?_) h
    cases e with
    | nrm => exact ihb _ _ _ hk h
    | ext id => exact hk _ _ h
    | ret => exact hk _ _ h
  | cond c a b iha ihb =>
    intro st K K' hk h
    simp only [Wp] at h ⊢
    split at h
    · exact ⟨fun t => iha _ _ _ hk (h.1 t), fun t => ihb _ _ _ hk (h.2 t)⟩
    · exact h.elim
  | block id c ih =>
    intro st K K' hk h
    refine ih _ _ _ (fun e s h => ?_) h
    cases e with
    | nrm => exact hk _ _ h
    | ext j =>
      simp only at h ⊢
      split at h
      · rename_i e; rw [if_pos e]; exact hk _ _ h
      · rename_i e; rw [if_neg e]; exact hk _ _ h
    | ret => exact hk _ _ h
  | loop c ih => exact fun st K K' hk ⟨n, h⟩ => ⟨n, iterW_mono ih hk n st h⟩
  | exit id => exact fun st K K' hk h => hk _ _ h
  | ret => exact fun st K K' hk h => hk _ _ h
  | scope c => exact fun _ _ _ _ h => h
  | rfn nest nt f ps a b =>
    intro st K K' hk h
    simp only [Wp] at h ⊢
    split at h
    · refine h.mono fun r ob2 h => ?_
      unfold EndL at h ⊢
      split at h
      · exact ⟨h.1, hk _ _ h.2⟩
      · exact h.elim
    · exact h.elim
  | drop s k c ih =>
    intro st K K' hk h
    simp only [Wp] at h ⊢
    split at h
    · exact ih _ _ _ hk h
    · exact h.elim
  | own s f sz c ih =>
    intro st K K' hk h
    simp only [Wp] at h ⊢
    split at h
    · exact ih _ _ _ hk h
    · exact h.elim

theorem ops_sound (hcm : w0.cm = cmP P) {ro : Option Nat} {ops : Array Oper} {K : St → Prop} {Q : Exit → Act → World → Prop} (hQ : ∀ st' g' a' w', K st' → SInv B w0 st' g' nt D a' w' → Q .normal a' w') :
    ∀ (vis : List VI) (l : List Oper) (k : Nat) (st : St) (g : Gh) (a : Act) (w : World), vis.all (gOk nt) = true → mVIs P nt ops vis l = true → (∀ j, l[j]? = ops[k + j]?) → SInv B w0 st g nt D a w → Ops P vis st K →
      wpOpsIn (Wd ro) 0 P ops Q (List.range' k l.length) a w
  | [], [], _, st, g, a, w, _, _, _, S, h => by simpa [wpOpsIn] using hQ _ _ _ _ h S
  | [], _ :: _, _, _, _, _, _, _, h, _, _, _ => by simp [mVIs] at h
  | _ :: _, [], _, _, _, _, _, _, h, _, _, _ => by simp [mVIs] at h
  | i :: r, o :: s, k, st, g, a, w, hg, hm, hl, S, h => by
    simp only [mVIs, Bool.and_eq_true] at hm
    simp only [List.all_cons, Bool.and_eq_true] at hg
    have ho : ops[k]? = some o := by have := hl 0; simpa using this.symm
    have hgn : ∀ s b, i.g = some (s, b) → s < nt := fun s b e => by have := hg.1; simp only [gOk, e, decide_eq_true_eq] at this; exact this
    have := opW_sound hcm (ro := ro) (ops := ops) S hm.1 hgn h (Q := Q) (next := wpOpsIn (Wd ro) 0 P ops Q (List.range' (k + 1) s.length)) fun st' g' a' w' hk hS =>
      ops_sound hcm hQ r s (k + 1) st' g' a' w' hg.2 hm.2 (fun j => by have := hl (j + 1); simp only [List.getElem?_cons_succ] at this; rw [this]; congr 1; omega) hS hk
    simp only [List.length_cons, List.range'_succ, wpOpsIn, ho]
    exact this

theorem wp_sound (hcm : w0.cm = cmP P) {ro : Option Nat} {r : Bool} (hr : r = ro.isSome) : ∀ (c : VC) (code : Code) (st : St) (g : Gh) (a : Act) (w : World) (K : Ex → St → Prop) (Q : Exit → Act → World → Prop), mVC P nt r c code = true → SInv B w0 st g nt D a w → Wp P c st K →
    (∀ e st' g' a' w', K e st' → SInv B w0 st' g' nt D a' w' → Q (exOf e) a' w') → code.wpIn (Wd ro) 0 P Q a w := by
  intro c
  induction c with
  | skip =>
    intro code st g a w K Q hm S h hQ
    cases code <;> simp only [mVC, Bool.false_eq_true] at hm
    exact wpIn_skip (hQ _ _ _ _ _ h S)
  | reg vis d =>
    intro code st g a w K Q hm S h hQ
    cases d with
    | none =>
      cases code <;> try simp only [mVC, Bool.false_eq_true] at hm
      rename_i id ops dr
      cases dr <;> simp only [mVC, Bool.false_eq_true, Bool.and_eq_true] at hm
      refine wpIn_region ?_
      have := ops_sound hcm (ro := ro) (ops := ops) (K := fun s => K .nrm s) (Q := Q) (fun st' g' a' w' hk hS => hQ _ _ _ _ _ hk hS) vis ops.toList 0 st g a w hm.1 hm.2 (by simp) S h
      rw [List.range_eq_range']
      simpa using this
    | some ord =>
      cases code <;> try simp only [mVC, Bool.false_eq_true] at hm
      rename_i id ops dr
      cases dr <;> simp only [mVC, Bool.false_eq_true] at hm
      exact draw_sound hcm S hm h fun st' g' a' w' hk hS => hQ _ _ _ _ _ hk hS
  | seq a b iha ihb =>
    intro code st g ac w K Q hm S h hQ
    cases code <;> simp only [mVC, Bool.false_eq_true, Bool.and_eq_true] at hm
    refine wpIn_seq (iha _ _ _ _ _ _ _ hm.1 S h fun e st' g' a' w' hk hS => ?_)
    cases e with
    | nrm => exact ihb _ _ _ _ _ _ _ hm.2 hS hk hQ
    | ext id => exact hQ _ _ _ _ _ hk hS
    | ret => exact hQ _ _ _ _ _ hk hS
  | cond x a b iha ihb =>
    intro code st g ac w K Q hm S h hQ
    cases code <;> simp only [mVC, Bool.false_eq_true, Bool.and_eq_true] at hm
    rename_i y c d
    simp only [Wp] at h
    split at h
    · rename_i t ht
      have hx := S.reads.opd hm.1.1
      rw [ht] at hx
      refine wpIn_cond (t := t) hx.bool_inv ?_
      cases t with
      | true => exact iha _ _ _ _ _ _ _ hm.1.2 S (h.1 rfl) hQ
      | false => exact ihb _ _ _ _ _ _ _ hm.2 S (h.2 rfl) hQ
    · exact h.elim
  | block id c ih =>
    intro code st g ac w K Q hm S h hQ
    cases code <;> simp only [mVC, Bool.false_eq_true, Bool.and_eq_true, beq_iff_eq] at hm
    obtain ⟨rfl, hm⟩ := hm
    refine wpIn_block (ih _ _ _ _ _ _ _ hm S h fun e st' g' a' w' hk hS => ?_)
    cases e with
    | nrm => exact hQ _ _ _ _ _ hk hS
    | ext j =>
      simp only [exOf, Exit.inBlock]
      simp only at hk
      split at hk
      · rename_i e; rw [if_pos e]; exact hQ _ _ _ _ _ hk hS
      · rename_i e; rw [if_neg e]; exact hQ _ _ _ _ _ hk hS
    | ret => exact hQ _ _ _ _ _ hk hS
  | loop c ih =>
    intro code st g ac w K Q hm S h hQ
    cases code <;> simp only [mVC, Bool.false_eq_true] at hm
    rename_i code
    obtain ⟨n, h⟩ := h
    classical
    let Z : Act → World → Nat → Prop := fun a w n => ∃ st g, SInv B w0 st g nt D a w ∧ iterW (Wp P c) K n st
    refine wpIn_loop (fun a w => ∃ n, Z a w n) (fun a w => if h : ∃ n, Z a w n then Classical.choose (least h) else 0) ⟨n, st, g, S, h⟩ ?_
    intro a w hI
    simp only [dif_pos hI]
    obtain ⟨st1, g1, S1, h1⟩ := (Classical.choose_spec (least hI)).1
    revert h1
    generalize Classical.choose (least hI) = m
    intro h1
    cases m with
    | zero => exact h1.elim
    | succ m =>
      refine ih _ _ _ _ _ _ _ hm S1 h1 fun e st' g' a' w' hk hS => ?_
      cases e with
      | nrm =>
        have hz : ∃ n, Z a' w' n := ⟨m, st', g', hS, hk⟩
        refine ⟨hz, ?_⟩
        simp only [dif_pos hz]
        exact Nat.lt_succ_of_le ((Classical.choose_spec (least hz)).2 _ ⟨st', g', hS, hk⟩)
      | ext id => exact hQ _ _ _ _ _ hk hS
      | ret => exact hQ _ _ _ _ _ hk hS
  | exit id =>
    intro code st g a w K Q hm S h hQ
    cases code <;> simp only [mVC, Bool.false_eq_true, beq_iff_eq] at hm
    subst hm
    exact wpIn_exit (hQ _ _ _ _ _ h S)
  | ret =>
    intro code st g a w K Q hm S h hQ
    cases code <;> simp only [mVC, Bool.false_eq_true] at hm
    exact wpIn_ret (hQ _ _ _ _ _ h S)
  | scope c => exact fun code st g a w K Q hm S h hQ => h.elim
  | rfn nest n f ps ca cb _ _ =>
    intro code st g ac w K Q hm S h hQ
    cases code <;> simp only [mVC, Bool.false_eq_true, Bool.and_eq_true, beq_iff_eq, Bool.not_eq_true'] at hm
    rename_i x qs cc cd
    obtain ⟨⟨⟨⟨⟨⟨hr0, rfl⟩, hx⟩, rfl⟩, _⟩, hma⟩, hmb⟩ := hm
    obtain rfl : ro = none := by
      rw [hr0] at hr
      cases ro with
      | none => rfl
      | some l => simp at hr
    simp only [Wp] at h
    split at h
    · rename_i fi cap hf
      have hgx := S.reads.opd hx
      have hxe : f.ev st.env = .fn fi cap := by
        revert hf
        cases f.ev st.env <;> simp [fnOf]
      rw [hxe] at hgx
      have hrep := hgx.rep
      have hids := hgx.ids
      revert hrep
      generalize hy : ac.eval x = z
      intro hrep
      cases hrep with
      | @fn _ _ xs hcn hl hrs =>
        refine wpIn_rangeFunc fun fn hfn => ?_
        obtain ⟨g1, H1, p1, t0, t1⟩ := S.H.enter (fn := fn) (ps := qs) (ca := cc) (cb := cd) (va := ca) (vb := cb) S.n S.e (by rw [S.H.c0, hcm]; exact hma) (by rw [S.H.c0, hcm]; exact hmb)
        obtain ⟨hok, hcall⟩ := h
        let W1 : World := (w.alloc (.deferred (some []))).alloc (.loop { state := .ready, pending := none, fn := fn, tmps := ac.tmps, params := qs, assign := cc, body := cd, defers := w.heap.size })
        refine ⟨w.heap.size + 1, [{ target := .collected w.heap.size, args := #[] }], W1, { target := .fn (.func fi) xs, args := #[.func (.yield (w.heap.size + 1)) #[] #[]] }, W1, fi, #[.func (.yield (w.heap.size + 1)) #[] #[]] ++ xs, W1, run_enterLoop_outer _ _ _ _ _, ?_, fun _ _ => trivial, ?_, fun h => by simp [Wd, Fence.wide] at h, ?_⟩
        · simp only [resolve, hy]
          simp [go_sem]
        · simp [invoke, go_sem, callFunc_ok hok]
        · have hargs : ∀ j (h : j < ((VV.yld (st.ob.length + 1) :: cap).map VV.strip).length) (h' : j < (#[Value.func (.yield (w.heap.size + 1)) #[] #[]] ++ xs).size), GV B (st.ob ++ [.dfr] ++ [.loop n st.env qs.toList ca cb 0 .nrm]) g1 W1 ((VV.yld (st.ob.length + 1) :: cap).map VV.strip)[j] (#[Value.func (.yield (w.heap.size + 1)) #[] #[]] ++ xs)[j] := by
            intro j hj hj'
            simp only [List.getElem_map]
            cases j with
            | zero =>
              simp only [List.getElem_cons_zero]
              rw [Array.getElem_append_left (by simp)]
              exact ⟨.yld t1, trivial, by simp [VV.strip, VV.strip0, VV.ids]⟩
            | succ j =>
              have hjc : j < cap.length := by simpa using hj
              simp only [List.getElem_cons_succ]
              rw [Array.getElem_append_right (by simp)]
              simp only [List.size_toArray, List.length_cons, List.length_nil, Nat.zero_add, Nat.add_sub_cancel]
              have hnh := List.all_eq_true.1 hcn _ (List.getElem_mem hjc)
              have hgv : GV B st.ob g w cap[j] (xs[j]'(by omega)) := ⟨hrs j hjc, noHnd_hnd hnh _, idsL_get (by simpa [VV.ids] using hids) _ hjc⟩
              refine (p1 _ _ hgv).strip ?_
              revert hnh
              generalize cap[j] = q
              cases q <;> simp [VV.noHnd, VV.noHnd0, VV.noTup]
          refine CallsIn.mono (calls_wd (hcall B w0 g1 W1 _ hcm H1 (by simp [hl]; omega) hargs)) ?_
          rintro e w3 ⟨y, g2, r', ob2, rfl, hend, H2, _, p2⟩
          unfold EndL at hend
          split at hend
          · rename_i nt' env' ps' va' vb' s' pend ho
            obtain ⟨hs, hk⟩ := hend
            obtain ⟨_, blk, rec, k1, k2, k3, k4, k5, k6, k7, k8, k9, k10, k11⟩ := H2.get ho (by simp)
            have hyl : GV B ob2 g2 w3 (.yld (st.ob.length + 1)) (.func (.yield (w.heap.size + 1)) #[] #[]) := p2 _ _ ⟨.yld t1, trivial, by simp [VV.ids]⟩
            have hbk : blk = w.heap.size + 1 := by
              have := hyl.rep
              cases this with
              | yld q => rw [k1] at q; cases q; rfl
            subst hbk
            have hnb : rec.state ≠ .busy := by
              intro q
              rw [q] at k10
              rcases hs with rfl | rfl <;> simp [stOf] at k10
            obtain ⟨H3, p3⟩ := H2.putO (X' := .gone) (mo' := .loop { rec with state := .exhausted }) ho (by simp) (by simp) k1 k4 k2 k3 (fun _ => trivial)
            have pall : Pres B st.ob g w (ob2.set (st.ob.length + 1) .gone) g2 (putAt w3 (w.heap.size + 1) (.loop { rec with state := .exhausted })) := (p1.trans p2).trans p3
            have S3 : SInv B w0 { st with ob := ob2.set (st.ob.length + 1) .gone, marks := st.ob.length :: st.marks } g2 n D { ac with defers := [{ target := .collected w.heap.size, args := #[] }] ++ ac.defers } (putAt w3 (w.heap.size + 1) (.loop { rec with state := .exhausted })) := by
              refine ⟨H3, fun s => pall _ _ (S.e s), S.n, ⟨w.heap.size, ac.defers, rfl, ?_, S.d.pres pall⟩, fun v x h => ⟨pall _ _ (S.k v x h).1, (S.k v x h).2⟩⟩
              exact p3 _ _ (p2 _ _ ⟨.yld t0, trivial, by simp [VV.ids]⟩)
            have hQ3 := hQ _ _ _ _ _ hk S3
            refine ⟨pendOf pend, _, by have := run_endLoop (P := P) k4 hnb; rw [k11] at this; exact this, ?_⟩
            rw [k11] at hQ3
            cases pend with
            | nrm => exact hQ3
            | ext id => exact wpIn_exit hQ3
            | ret => exact wpIn_ret hQ3
          · exact hend.elim
    · exact h.elim
  | drop s k c ih =>
    intro code st g a w K Q hm S h hQ
    simp only [Wp] at h
    split at h
    · rename_i st' hd
      obtain ⟨g', S'⟩ := drop_sound S hd
      exact ih _ _ _ _ _ _ _ (by cases code <;> simpa only [mVC] using hm) S' h hQ
    · exact h.elim
  | own s f sz c ih =>
    intro code st g a w K Q hm S h hQ
    simp only [Wp] at h
    split at h
    · rename_i st' hd
      obtain ⟨g', S'⟩ := own_sound S hd
      exact ih _ _ _ _ _ _ _ (by cases code <;> simpa only [mVC] using hm) S' h hQ
    · exact h.elim

end
end Go.V
