/- V, part 24a: the contract of a round, from what V says of the loop's code. -/
import Derived.Test.YtfhkgkijljfcfaaV24
set_option linter.unusedVariables false
set_option linter.unusedSimpArgs false
namespace Go.V
open Go.RowKit

section
variable {P : Program} {B : Nat} {w0 : W0} {g : Gh} {nt : Nat} {D : List Deferred} {a : Act} {w : World} {st : St} {ob : List Obj}

theorem yld_of_wp {o : Nat} {args : List VV} {R : VV → List Obj → Prop} (h : RndW P o args ob R) : YldC P o args ob R := by
  intro B w0 g w l vals hcm H htb hsz hv
  unfold RndW at h
  split at h
  · rename_i nt env ps va vb s pend ho
    obtain ⟨rfl, hps, hlen, hwp⟩ := h
    obtain ⟨_, blk, r, k1, k2, k3, k4, k5, k6, k7, k8, k9, k10, k11⟩ := H.get ho (by simp)
    rw [htb] at k1; cases k1
    have hready : r.state = .ready := by simpa [stOf] using k10.symm
    have hvs : vals.size = r.params.size := by rw [hsz, hlen, ← k7]; simp
    refine ⟨r.fn, _, r.assign, r.body, run_yield k4 hvs, roundIn_of_wpIn (F := Fence.wide) trivial ?_⟩
    let w1 : W0 := { w := w0.w, F := w0.F, keep := fun v x => GV B ob g w v x, cm := w0.cm }
    have hcm1 : w1.cm = cmP P := hcm
    have hy0 : GV B ob g w (.yld o) (.func (.yield l) #[] #[]) := ⟨.yld htb, trivial, by have := (H.tbl _ _ htb).1; simpa [VV.ids] using this⟩
    have hfold : (r.params.zip vals).foldl (fun tmps (t, a) => tmps.setIfInBounds t a) r.tmps = ((ps.zip vals.toList).foldl (fun t (p : Nat × Value) => t.setIfInBounds p.1 p.2) r.tmps) := by
      rw [← k7, ← Array.toList_zip, Array.foldl_toList]
    obtain ⟨hn1, he1⟩ := bindP_S (B := B) (ob := ob) (g := g) (w := w) (nt := nt) (ps := ps) (args := args) (vals := vals.toList) (env := env) (tmps := r.tmps) hps k5 hlen (by simpa using hsz) (fun j hj hj' => by simpa using hv j hj (by simpa using hj')) k6
    have S0 : SInv B w1 { env := bindP ps args env, ob := ob, base := ob.length } g nt [] { tmps := (r.params.zip vals).foldl (fun tmps (t, a) => tmps.setIfInBounds t a) r.tmps, defers := [] } w := by
      rw [hfold]
      exact ⟨H.rekeep rfl rfl rfl, he1, hn1, rfl, fun v x h => ⟨h, h.ids⟩⟩
    have hma : mVC P nt true va r.assign = true := by have := k8; rw [H.c0, hcm] at this; exact this
    have hmb : mVC P nt true vb r.body = true := by have := k9; rw [H.c0, hcm] at this; exact this
    refine wp_sound (w0 := w1) hcm1 (ro := some l) (r := true) rfl va r.assign _ g _ w _ _ hma S0 hwp ?_
    rintro e st1 g1 a1 w2 ⟨rfl, ob1, hb, hwb⟩ S1
    have hy1 : GV B st1.ob g1 w2 (.yld o) (.func (.yield l) #[] #[]) := (S1.k _ _ hy0).1
    unfold setBusy at hb
    split at hb
    · rename_i n1 env1 ps1 va1 vb1 pend1 ho1
      cases hb
      obtain ⟨r1, q1, q2, q3, q4, q5, q6, q7, q8, q9, q10, q11⟩ := loop_at S1 ho1 hy1
      have hready1 : r1.state = .ready := by simpa [stOf] using q10.symm
      obtain ⟨S2, p2⟩ := S1.turn ho1 hy1 q4 (s' := 1) (ls := .busy) rfl (pp := r1.pending) q11
      refine ⟨_, run_beginRound q4 hready1, ?_⟩
      refine wp_sound (w0 := w1) hcm1 (ro := some l) (r := true) rfl vb r.body _ g1 _ _ _ _ hmb S2 hwb ?_
      rintro e2 st2 g2 a2 w3 ⟨hbase, hmarks, ob', m, hset, hnm, hm, hall, hR⟩ S3
      have hy3 : GV B st2.ob g2 w3 (.yld o) (.func (.yield l) #[] #[]) := (S3.k _ _ hy0).1
      unfold setSt at hset
      split at hset
      · rename_i n2 env2 ps2 va2 vb2 s2 pend2 ho2
        cases hset
        obtain ⟨r2, z1, z2, z3, z4, z5, z6, z7, z8, z9, z10, z11⟩ := loop_at S3 ho2 hy3
        have fin : ∀ (ls : LoopState) (pp : Option Code), stOf (if e2 = .nrm then 0 else 2) = some ls → pp = pendOf e2 → ∀ v : Bool, v = decide (e2 = .nrm) →
            ∃ x g' r ob', Ending.returned (.bool v) = .returned x ∧ R r ob' ∧ HInv B w0 ob' g' (putAt w3 l (.loop { r2 with state := ls, pending := pp })) ∧ GV B ob' g' (putAt w3 l (.loop { r2 with state := ls, pending := pp })) r x ∧ Pres B ob g w ob' g' (putAt w3 l (.loop { r2 with state := ls, pending := pp })) := by
          intro ls pp h1 h2 v hv2
          subst hv2
          obtain ⟨S4, p4⟩ := S3.turn ho2 hy3 z4 (s' := if e2 = .nrm then 0 else 2) (ls := ls) h1 (pp := pp) (pend' := e2) h2
          refine ⟨_, ghCut g2 m, _, _, rfl, hR, (S4.H.cut hm hall).rekeep rfl rfl rfl, ⟨.bool _, trivial, rfl⟩, fun v x hvx => ?_⟩
          obtain ⟨t1, t2⟩ := S4.k v x hvx
          simp only at t2
          rw [hbase] at t2
          exact t1.cut hm ((ids_mono hnm).1 v t2)
        cases e2 with
        | nrm => exact ⟨_, _, run_endRound none z4, fin .ready none rfl rfl true rfl⟩
        | ext id => exact ⟨_, _, run_endRound (some (.exit id)) z4, fin .done _ rfl rfl false rfl⟩
        | ret => exact ⟨_, _, run_endRound (some .ret) z4, fin .done _ rfl rfl false rfl⟩
      · cases hset
    · cases hb
  · exact h.elim

end
end Go.V
