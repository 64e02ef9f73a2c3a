/- V, part 19a: loops over functions: their records and blocks in memory. -/
import Derived.Test.YtfhkgkijljfcfaaV19
import Derived.RangeFuncRecord
set_option linter.unusedVariables false
set_option linter.unusedSimpArgs false
namespace Go.V
open Go.RowKit

section
variable {P : Program} {B : Nat} {w0 : W0} {ob : List Obj} {g : Gh} {nt : Nat} {D : List Deferred} {a : Act} {w : World} {st : St}

theorem putObj_eq (w : World) (b : Nat) (o : _root_.Go.Obj) : w.putObj b o = putAt w b o := rfl

/-- An object that is no row and no map becomes another. -/
theorem HInv.putO (H : HInv B w0 ob g w) {o b : Nat} {X X' : Obj} {mo mo' : _root_.Go.Obj} (ho : nthO ob o = X) (hg : X ≠ .gone) (ht : ∀ n s, X ≠ .tok n s) (htb : g.tb o = some b) (hb : w.heap[b]? = some mo) (hB : B ≤ b) (hF : g.F b = 0)
    (hX : Pres B ob g w (ob.set o X') g (putAt w b mo') → ObR B (ob.set o X') g (putAt w b mo') o X') :
    HInv B w0 (ob.set o X') g (putAt w b mo') ∧ Pres B ob g w (ob.set o X') g (putAt w b mo') := by
  have hw : ∀ b' o', o' < g.F b' → (putAt w b mo').cell? ⟨b', o', none⟩ = w.cell? ⟨b', o', none⟩ := fun b' o' h => by
    have hne : b' ≠ b := fun e => by subst e; rw [hF] at h; omega
    simp only [World.cell?, putAt_ne _ hne]
  have hp : Pres B ob g w (ob.set o X') g (putAt w b mo') := by
    refine Pres.of (by simp) hw (fun _ => Nat.le_refl _) (fun _ _ _ h => h) fun t n sz h => ⟨n, ?_, Nat.le_refl _, fun _ x hc => ?_⟩
    · rw [nthO_set, if_neg]
      · exact h
      · rintro ⟨rfl, _⟩; rw [ho] at h; exact ht _ _ h
    · rcases hc with ⟨a, rfl, rfl⟩ | ⟨b1, o1, cap, arr1, ty1, q1, rfl, q3, q4, q5, q6, q7⟩
      · exact .inl ⟨a, rfl, rfl⟩
      · have hne : b1 ≠ b := fun e => by subst e; exact H.apart _ _ _ htb q1
        exact .inr ⟨b1, o1, cap, arr1, ty1, q1, rfl, q3, by rw [putAt_ne _ hne]; exact q4, q5, q6, q7⟩
  refine ⟨⟨?_, by rw [putAt_size]; exact H.hB, fun b1 hb1 => H.fz b1 (by simpa [putAt_size] using hb1), H.f0, H.c0, fun i b1 h => by simpa [putAt_size] using H.tbl i b1 h, fun i b1 h => by simpa [putAt_size] using H.kbl i b1 h, H.inj, H.injk, H.apart, fun i hi => ?_⟩, hp⟩
  · exact H.below.trans ⟨rfl, rfl, rfl, by rw [putAt_size]; exact Nat.le_refl _, fun k hk => putAt_ne _ (by omega)⟩
  · by_cases e : i = o
    · subst e
      simp only [List.getElem_set_self]
      exact hX hp
    · rw [List.getElem_set_ne (fun q => e q.symm)]
      have hi' : i < ob.length := by simpa using hi
      exact (H.obs i hi').keep hp (rep_keep hw fun _ => Nat.le_refl _) (fun b1 hb1 => ⟨hb1, rfl, putAt_ne _ fun q => e (H.inj _ _ _ hb1 (q ▸ htb))⟩) (fun h => h)

/-- At a function's end its marks' blocks are shut. -/
def closeM : List Nat → List Obj → Option (List Obj)
  | [], ob => some ob
  | o :: r, ob => match nthO ob o with
    | .dfr => closeM r (ob.set o .gone)
    | _ => none

theorem marks_close {F : Fence} {fn : Func} {tmps : Array Value} {R : Ending → World → Prop} : ∀ {l : List Nat} {ds : List Deferred} {ob ob' : List Obj} {w : World}, HInv B w0 ob g w → Marks B ob g w l ds → closeM l ob = some ob' →
    ∃ w', HInv B w0 ob' g w' ∧ Pres B ob g w ob' g w' ∧ (LeavesInM F 0 P fn tmps R [] .returning w' → LeavesInM F 0 P fn tmps R ds .returning w)
  | [], ds, ob, ob', w, H, M, h => by
    cases h
    cases M
    exact ⟨w, H, Pres.refl _ _ _ _, id⟩
  | o :: r, ds, ob, ob', w, H, ⟨b, es, hds, hg, M⟩, h => by
    subst hds
    simp only [closeM] at h
    split at h
    · rename_i ho
      have hrep := hg.rep
      cases hrep with
      | yld htb =>
        obtain ⟨_, b', h1, h2, h3, h4⟩ := H.get ho (by simp)
        rw [htb] at h1; cases h1
        obtain ⟨H', p'⟩ := H.putO (X' := .gone) (mo' := .deferred none) ho (by simp) (by simp) htb h4 h2 h3 (fun _ => trivial)
        obtain ⟨w', H2, p2, hl⟩ := marks_close (F := F) (fn := fn) (tmps := tmps) (R := R) H' (M.pres p') h
        refine ⟨w', H2, p'.trans p2, fun q => ?_⟩
        exact ⟨by simp, .inl ⟨b, _, rfl, run_takeDeferred h4, hl q⟩⟩
    · cases h

/-- The frame enters the loop: two objects more. -/
theorem HInv.enter (H : HInv B w0 ob g w) {env : List (Nat × VV)} {tmps : Array Value} (hn : tmps.size = nt) (he : ∀ s, GV B ob g w (Go.V.get env s) (tmps.getD s Go.undef)) {fn : FuncId} {ps : Array Nat} {ca cb : Code} {va vb : VC} (hca : g.cm va nt ca) (hcb : g.cm vb nt cb) :
    ∃ g', HInv B w0 (ob ++ [.dfr] ++ [.loop nt env ps.toList va vb 0 .nrm]) g' ((w.alloc (.deferred (some []))).alloc (.loop { state := .ready, pending := none, fn := fn, tmps := tmps, params := ps, assign := ca, body := cb, defers := w.heap.size })) ∧
      Pres B ob g w (ob ++ [.dfr] ++ [.loop nt env ps.toList va vb 0 .nrm]) g' ((w.alloc (.deferred (some []))).alloc (.loop { state := .ready, pending := none, fn := fn, tmps := tmps, params := ps, assign := ca, body := cb, defers := w.heap.size })) ∧
      g'.tb ob.length = some w.heap.size ∧ g'.tb (ob.length + 1) = some (w.heap.size + 1) := by
  obtain ⟨H1, p1⟩ := H.push (.deferred (some [])) .dfr (by simp) ⟨w.heap.size, by simp, H.hB, H.fz _ (Nat.le_refl _), heap_alloc_at _ _⟩
  have he1 : ∀ s, GV B _ _ _ (Go.V.get env s) (tmps.getD s Go.undef) := fun s => p1 _ _ (he s)
  have hpush := Pres.push (H1.alloc0 (.loop { state := .ready, pending := none, fn := fn, tmps := tmps, params := ps, assign := ca, body := cb, defers := w.heap.size })) (.loop nt env ps.toList va vb 0 .nrm) (b := (w.alloc (.deferred (some []))).heap.size) (by simp)
  have palloc := Pres.alloc0 H1 (.loop { state := .ready, pending := none, fn := fn, tmps := tmps, params := ps, assign := ca, body := cb, defers := w.heap.size })
  obtain ⟨H2, p2⟩ := H1.push (.loop { state := .ready, pending := none, fn := fn, tmps := tmps, params := ps, assign := ca, body := cb, defers := w.heap.size }) (.loop nt env ps.toList va vb 0 .nrm) (by simp)
    ⟨_, _, by simp, H1.hB, H1.fz _ (Nat.le_refl _), heap_alloc_at _ _, hn, fun s => hpush _ _ (palloc _ _ (he1 s)), rfl, hca, hcb, rfl, rfl⟩
  refine ⟨_, H2, p1.trans p2, ?_, ?_⟩
  · show upd (upd g.tb ob.length w.heap.size) (ob ++ [Obj.dfr]).length _ ob.length = _
    rw [upd_ne _ _ (by simp)]; simp
  · show upd (upd g.tb ob.length w.heap.size) (ob ++ [Obj.dfr]).length _ (ob.length + 1) = _
    simp

end
end Go.V
