/- V, part 15: stores into maps, deletes. -/
import Derived.Test.YtfhkgkijljfcfaaV14
set_option linter.unusedVariables false
set_option linter.unusedSimpArgs false
namespace Go.V
open Go.RowKit

section
variable {P : Program} {B : Nat} {w0 : W0} {ob : List Obj} {g : Gh} {w : World} {env : List (Nat × VV)} {ρ : Operand → Value}

/-- the world with another object in a block -/
def putAt (w : World) (b : Nat) (o : _root_.Go.Obj) : World := { w with heap := w.heap.setIfInBounds b o }
theorem putAt_at {w : World} {b : Nat} {o o' : _root_.Go.Obj} (h : w.heap[b]? = some o') : (putAt w b o).heap[b]? = some o := by
  simp [putAt, Array.getElem?_setIfInBounds, lt_of_heap h]
theorem putAt_ne {w : World} {b b' : Nat} (o : _root_.Go.Obj) (h : b' ≠ b) : (putAt w b o).heap[b']? = w.heap[b']? := by
  simp only [putAt, Array.getElem?_setIfInBounds]
  rw [if_neg (fun e => h e.symm)]
theorem putAt_size (w : World) (b : Nat) (o : _root_.Go.Obj) : (putAt w b o).heap.size = w.heap.size := by simp [putAt]

theorem HInv.putMap (H : HInv B w0 ob g w) {o b : Nat} {es es' : List (VV × VV)} {arr arr' : Array MapEntry} {cl cl' : Nat} (ho : nthO ob o = .map es) (htb : g.tb o = some b) (hb : w.heap[b]? = some (.map arr cl))
    (hl : arr'.size = es'.length) (hg : ∀ j (h : j < es'.length), es'[j].1.canon = true ∧ es'[j].2.canon = true ∧ Rep w g.F g.tb es'[j].1 (arr'[j]'(hl ▸ h)).key ∧ Rep w g.F g.tb es'[j].2 (arr'[j]'(hl ▸ h)).val) :
    HInv B w0 (ob.set o (.map es')) g (putAt w b (.map arr' cl')) ∧ Pres B ob g w (ob.set o (.map es')) g (putAt w b (.map arr' cl')) := by
  obtain ⟨hlt, b', arr0, c0, k1, k2, k3, k4, k5, k6⟩ := H.get ho (by simp)
  rw [htb] at k1; cases k1
  have hw : ∀ b' o', o' < g.F b' → (putAt w b (.map arr' cl')).cell? ⟨b', o', none⟩ = w.cell? ⟨b', o', none⟩ := fun b' o' h => by
    have hne : b' ≠ b := fun e => by subst e; rw [k3] at h; omega
    simp only [World.cell?, putAt_ne _ hne]
  have hp : Pres B ob g w (ob.set o (.map es')) g (putAt w b (.map arr' cl')) := by
    refine Pres.of (by simp) hw (fun _ => Nat.le_refl _) (fun _ _ _ h => h) fun t n sz ht => ⟨n, ?_, Nat.le_refl _, fun _ x hc => ?_⟩
    · rw [nthO_set, if_neg]
      · exact ht
      · rintro ⟨rfl, _⟩; rw [ho] at ht; cases ht
    · rcases hc with ⟨a, rfl, rfl⟩ | ⟨b1, o1, cap, arr1, ty1, q1, rfl, q3, q4, q5, q6, q7⟩
      · exact .inl ⟨a, rfl, rfl⟩
      · have hne : b1 ≠ b := fun e => by subst e; exact H.apart _ _ _ htb q1
        exact .inr ⟨b1, o1, cap, arr1, ty1, q1, rfl, q3, by rw [putAt_ne _ hne]; exact q4, q5, q6, q7⟩
  refine ⟨⟨?_, by rw [putAt_size]; exact H.hB, fun b1 hb1 => H.fz b1 (by simpa [putAt_size] using hb1), H.f0, H.c0, fun i b1 h => by simpa [putAt_size] using H.tbl i b1 h, fun i b1 h => by simpa [putAt_size] using H.kbl i b1 h, H.inj, H.injk, H.apart, fun i hi => ?_⟩, hp⟩
  · exact H.below.trans ⟨rfl, rfl, rfl, by rw [putAt_size]; exact Nat.le_refl _, fun k hk => putAt_ne _ (by omega)⟩
  · by_cases e : i = o
    · subst e
      simp only [List.getElem_set_self]
      exact ⟨b, arr', cl', htb, k2, k3, putAt_at hb, hl, fun j hj => ⟨(hg j hj).1, (hg j hj).2.1, rep_keep hw (fun _ => Nat.le_refl _) _ _ (hg j hj).1 (hg j hj).2.2.1, rep_keep hw (fun _ => Nat.le_refl _) _ _ (hg j hj).2.1 (hg j hj).2.2.2⟩⟩
    · rw [List.getElem_set_ne (fun q => e q.symm)]
      have hi' : i < ob.length := by simpa using hi
      exact (H.obs i hi').keep hp (rep_keep hw fun _ => Nat.le_refl _) (fun b1 hb1 => ⟨hb1, rfl, putAt_ne _ fun q => e (H.inj _ _ _ hb1 (q ▸ htb))⟩) (fun h => h)

theorem bits0 {u v : VV} {x y : Value} (hx : Rep w g.F g.tb u x) (hy : Rep w g.F g.tb v y) (h : eq0 u v = some true) (n : Nat) : Instr.sameBits n x y = true := by
  unfold eq0 at h
  split at h
  · split at h
    · rename_i hk
      simp only [Option.some.injEq, beq_iff_eq] at h
      subst hk h
      cases hx; cases hy
      simp [Instr.sameBits]
    · cases h
  · simp only [Option.some.injEq, beq_iff_eq] at h
    subst h
    cases hx; cases hy
    simp [Instr.sameBits]
  · simp only [Option.some.injEq, beq_iff_eq] at h
    subst h
    cases hx with
    | @str _ a ha => cases hy with
      | @str _ b hb =>
        have : a = b := by
          obtain ⟨⟨a⟩⟩ := a; obtain ⟨⟨b⟩⟩ := b
          simp at ha hb; subst ha; subst hb; rfl
        subst this
        simp only [Instr.sameBits, beq_toListBytes, beq_self_eq_true]
  · cases h

theorem bitsL : ∀ {us vs : List VV} {xs ys : List Value}, xs.length = us.length → ys.length = vs.length → (∀ j (h : j < us.length) (h' : j < xs.length), Rep w g.F g.tb us[j] xs[j]) → (∀ j (h : j < vs.length) (h' : j < ys.length), Rep w g.F g.tb vs[j] ys[j]) →
    eqL us vs = some true → ∀ n, xs.length = ys.length ∧ (xs.zip ys).all (fun (x, y) => Instr.sameBits n x y) = true
  | [], [], [], [], _, _, _, _, _, _ => by simp
  | [], _ :: _, _, _, _, _, _, _, h, _ => by simp [eqL] at h
  | _ :: _, [], _, _, _, _, _, _, h, _ => by simp [eqL] at h
  | [], [], _ :: _, _, h, _, _, _, _, _ => by simp at h
  | [], [], [], _ :: _, _, h, _, _, _, _ => by simp at h
  | _ :: _, _ :: _, [], _, h, _, _, _, _, _ => by simp at h
  | _ :: _, _ :: _, _ :: _, [], _, h, _, _, _, _ => by simp at h
  | u :: us, v :: vs, x :: xs, y :: ys, h1, h2, hx, hy, h, n => by
    simp only [eqL] at h
    cases hq : eq0 u v with
    | none => simp [hq] at h
    | some q =>
      cases q with
      | false => simp [hq] at h
      | true =>
        simp only [hq] at h
        obtain ⟨i1, i2⟩ := bitsL (by simpa using h1) (by simpa using h2) (fun j hj hj' => hx (j + 1) (by simpa using hj) (by simpa using hj')) (fun j hj hj' => hy (j + 1) (by simpa using hj) (by simpa using hj')) h n
        have h0 := bits0 (hx 0 (by simp) (by simp)) (hy 0 (by simp) (by simp)) hq n
        simp only [List.getElem_cons_zero] at h0
        refine ⟨by simp [i1], ?_⟩
        simp only [List.zip_cons_cons, List.all_cons, h0, Bool.true_and]
        exact i2

theorem bitsV {u v : VV} {x y : Value} (hx : Rep w g.F g.tb u x) (hy : Rep w g.F g.tb v y) (h : eqV u v = some true) (n : Nat) : Instr.sameBits (n + 1) x y = true := by
  unfold eqV at h
  split at h
  · rename_i us vs
    cases hx with
    | @agg _ xs hl hc hr => cases hy with
      | @agg _ ys hl' hc' hr' =>
        obtain ⟨i1, i2⟩ := bitsL (xs := xs.toList) (ys := ys.toList) (by simpa using hl) (by simpa using hl') (fun j h h' => by simpa using hr j h) (fun j h h' => by simpa using hr' j h) h n
        simp only [Instr.sameBits, Bool.and_eq_true, beq_iff_eq]
        exact ⟨by simpa using i1, i2⟩
  · exact bits0 hx hy h _

theorem mapTy_inv {t : TypeId} {ty : Ty} (ht : mapIs P t ty = true) : ∃ kt et, P.underlying t = some (.map kt et) ∧ tyIs P kt ty = true := by
  unfold mapIs at ht
  cases hu : P.underlying t with
  | none => simp [hu] at ht
  | some d =>
  cases d <;> simp only [hu, Bool.false_eq_true] at ht
  exact ⟨_, _, rfl, ht⟩

theorem setObj_run {b : Nat} {arr : Array MapEntry} {cl : Nat} (o : _root_.Go.Obj) (h : w.heap[b]? = some (.map arr cl)) : (setObj b o).run P w = .ok () (putAt w b o) := by
  simp [setObj, Sem.run, h, putAt]

theorem op_mset (H : HInv B w0 ob g w) (R : Reads B ob g w env ρ) {ty : Ty} {m k x : Opd} {m' k' x' : Operand} {t : TypeId} (hm : mO m m' = true) (hk : mO k k' = true) (hx : mO x x' = true) (ht : mapIs P t ty = true) {v : VV} {ob' : List Obj}
    (hv : (VOp.mset ty m k x).ev ⟨env, ob⟩ = some (v, ob')) : Out P B w0 ob g w (do Instr.mapUpdate t (ρ m') (ρ k') (ρ x'); pure .skip) v ob' := by
  have h1 := R.opd hm
  have h2 := R.opd hk
  have h3 := R.opd hx
  obtain ⟨kt, et, hu, htk⟩ := mapTy_inv ht
  simp only [VOp.ev] at hv
  split at hv
  · cases hv
  rename_i hfits
  have hfits : ty.fits (k.ev env) = true := by cases q : ty.fits (k.ev env) with | true => rfl | false => rw [q] at hfits; exact absurd rfl hfits
  split at hv
  · rename_i o he
    rw [he] at h1
    split at hv
    · rename_i es ho
      split at hv
      · rename_i hkc
        split at hv
        · rename_i es' hes
          split at hv
          · rename_i hvc
            simp only [Option.some.injEq, Prod.mk.injEq] at hv
            obtain ⟨rfl, rfl⟩ := hv
            have hrep := h1.rep
            revert hrep
            generalize hmm : ρ m' = y
            intro hrep
            cases hrep with
            | @mp _ b htb =>
            obtain ⟨_, b', arr, clock, q1, q2, q3, q4, hsz, q5⟩ := H.get ho (by simp)
            rw [htb] at q1; cases q1
            obtain ⟨idx, hidx, hres⟩ := mput_idx hes
            have hents : Ents w g es arr.toList := ⟨by simpa using hsz, fun j h h' => by have := q5 j h; simpa using this⟩
            have hrun := findKey_run (P := P) htk hfits h2 hents hidx
            have hget : (getObj b).run P w = .ok (.map arr clock) w := by simp [getObj, Sem.run, q4]
            have hxr : Rep w g.F g.tb (x.ev env).strip (ρ x') := strip_rep h3.rep
            cases idx with
            | none =>
              simp only at hres
              subst hres
              obtain ⟨H', p'⟩ := H.putMap (es' := es ++ [(k.ev env, (x.ev env).strip)]) (arr' := arr.push { key := ρ k', val := ρ x', born := clock }) (cl' := clock + 1) ho htb q4 (by simp [hsz]) (fun j hj => by
                by_cases e : j < es.length
                · rw [List.getElem_append_left e, Array.getElem_push_lt (by omega)]
                  exact q5 j e
                · have : j = es.length := by simp at hj; omega
                  subst this
                  simp [← hsz]
                  exact ⟨hkc, hvc, h2.rep, hxr⟩)
              refine ⟨undef, g, _, .inr ⟨?_, rfl⟩, H', .dead, p'⟩
              simp only [Option.bind_none] at hrun
              simp [Instr.mapUpdate, run_underlying hu, hget, check_run htk hfits h2, hrun, setObj_run _ q4]
            | some j =>
              obtain ⟨hj, rfl, _, heq⟩ := hres
              have hj' : j < arr.size := by omega
              obtain ⟨c1, c2, r1, r2⟩ := q5 j hj
              have hbits : Instr.sameBits 10000 arr[j].key (ρ k') = true ∨ True := .inr trivial
              have hb2 : Instr.sameBits 10000 arr[j].key (ρ k') = true := by
                have : eqV es[j].1 (k.ev env) = some true := by
                  have hsym0 : ∀ u v : VV, eq0 u v = some true → eq0 v u = some true := by
                    intro u v h
                    unfold eq0 at h ⊢
                    split at h <;> simp_all
                  have hsymL : ∀ us vs : List VV, eqL us vs = some true → eqL vs us = some true := by
                    intro us
                    induction us with
                    | nil => intro vs h; cases vs <;> simp_all [eqL]
                    | cons u us ih =>
                      intro vs h
                      cases vs with
                      | nil => simp [eqL] at h
                      | cons v vs =>
                        simp only [eqL] at h ⊢
                        cases hq : eq0 u v with
                        | none => simp [hq] at h
                        | some q =>
                          cases q with
                          | false => simp [hq] at h
                          | true => simp only [hq] at h; simp [hsym0 u v hq, ih vs h]
                  revert heq
                  generalize k.ev env = u
                  generalize es[j].1 = v
                  intro heq
                  unfold eqV at heq ⊢
                  split at heq
                  · exact hsymL _ _ heq
                  · rename_i hno
                    have hs := hsym0 _ _ heq
                    cases u <;> cases v <;> first | exact hs | (simp [eq0] at heq)
                exact bitsV r1 h2.rep this 9999
              obtain ⟨H', p'⟩ := H.putMap (es' := es.set j (k.ev env, (x.ev env).strip)) (arr' := arr.modify j fun e => { e with key := ρ k', val := ρ x' }) (cl' := clock) ho htb q4 (by simp [hsz]) (fun i hi => by
                rw [Array.getElem_modify]
                by_cases e : i = j
                · subst e
                  simp only [List.getElem_set_self, if_true]
                  exact ⟨hkc, hvc, h2.rep, hxr⟩
                · rw [List.getElem_set_ne (fun q => e q.symm), if_neg (fun q => e q.symm)]
                  exact q5 i (by simpa using hi))
              refine ⟨undef, g, _, .inr ⟨?_, rfl⟩, H', .dead, p'⟩
              simp [hj'] at hrun
              simp [Instr.mapUpdate, run_underlying hu, hget, check_run htk hfits h2, hrun, hj', Instr.keyThatStays, hb2, setObj_run _ q4]
          · cases hv
        · cases hv
      · cases hv
    · cases hv
  · cases hv

theorem op_mdel (H : HInv B w0 ob g w) (R : Reads B ob g w env ρ) {ty : Ty} {m k : Opd} {m' k' : Operand} {t t' rt : TypeId} (hm : mO m m' = true) (hk : mO k k' = true) (ht : mapIs P t ty = true) {v : VV} {ob' : List Obj}
    (hv : (VOp.mdel ty m k).ev ⟨env, ob⟩ = some (v, ob')) : Out P B w0 ob g w (do pure (.value (← Builtin.delete_ #[t, t'] rt #[ρ m', ρ k']))) v ob' := by
  have h1 := R.opd hm
  have h2 := R.opd hk
  obtain ⟨kt, et, hu, htk⟩ := mapTy_inv ht
  simp only [VOp.ev] at hv
  split at hv
  · cases hv
  rename_i hfits
  have hfits : ty.fits (k.ev env) = true := by cases q : ty.fits (k.ev env) with | true => rfl | false => rw [q] at hfits; exact absurd rfl hfits
  split at hv
  · rename_i o he
    rw [he] at h1
    split at hv
    · rename_i es ho
      split at hv
      · rename_i es' hes
        simp only [Option.some.injEq, Prod.mk.injEq] at hv
        obtain ⟨rfl, rfl⟩ := hv
        have hrep := h1.rep
        revert hrep
        generalize hmm : ρ m' = y
        intro hrep
        cases hrep with
        | @mp _ b htb =>
        obtain ⟨_, b', arr, clock, q1, q2, q3, q4, hsz, q5⟩ := H.get ho (by simp)
        rw [htb] at q1; cases q1
        obtain ⟨idx, hidx, hres⟩ := mrem_idx hes
        have hents : Ents w g es arr.toList := ⟨by simpa using hsz, fun j h h' => by have := q5 j h; simpa using this⟩
        have hrun := findKey_run (P := P) htk hfits h2 hents hidx
        have hget : (getObj b).run P w = .ok (.map arr clock) w := by simp [getObj, Sem.run, q4]
        cases idx with
        | none =>
          simp only at hres
          subst hres
          obtain ⟨H', p'⟩ := H.putMap (es' := es') (arr' := arr) (cl' := clock) ho htb q4 hsz q5
          refine ⟨.tuple #[], g, _, .inl ?_, H', .dead, p'⟩
          simp only [Option.bind_none] at hrun
          simp [Builtin.delete_, run_underlying hu, hget, check_run htk hfits h2, hrun, setObj_run _ q4]
        | some j =>
          obtain ⟨hj, rfl⟩ := hres
          have hj' : j < arr.size := by omega
          obtain ⟨H', p'⟩ := H.putMap (es' := es.eraseIdx j) (arr' := arr.eraseIdxIfInBounds j) (cl' := clock) ho htb q4 (by simp [Array.eraseIdxIfInBounds, hj', List.length_eraseIdx, hj, hsz]) (fun i hi => by
            have hlen := List.length_eraseIdx_of_lt hj
            have hs2 : (arr.eraseIdxIfInBounds j).size = arr.size - 1 := by simp [Array.eraseIdxIfInBounds, hj']
            by_cases e : i < j
            · have a1 : (es.eraseIdx j)[i] = es[i]'(by omega) := List.getElem_eraseIdx_of_lt _ e
              have a2 : (arr.eraseIdxIfInBounds j)[i]'(by omega) = arr[i]'(by omega) := by
                simp [Array.eraseIdxIfInBounds, hj', Array.getElem_eraseIdx, e]
              rw [a1, a2]; exact q5 i (by omega)
            · have a1 : (es.eraseIdx j)[i] = es[i + 1]'(by omega) := List.getElem_eraseIdx_of_ge _ (by omega)
              have a2 : (arr.eraseIdxIfInBounds j)[i]'(by omega) = arr[i + 1]'(by omega) := by
                simp [Array.eraseIdxIfInBounds, hj', Array.getElem_eraseIdx, e]
              rw [a1, a2]; exact q5 (i + 1) (by omega))
          refine ⟨.tuple #[], g, _, .inl ?_, H', .dead, p'⟩
          simp [hj'] at hrun
          simp [Builtin.delete_, run_underlying hu, hget, check_run htk hfits h2, hrun, setObj_run _ q4]
      · cases hv
    · cases hv
  · cases hv

end
end Go.V
