/- V, proofs: segment.Build at the documents of the examples. Conditions: none beside the hypotheses named. -/
import Derived.Test.YtglabjcjfjlkoaaGreatDoorEV4
set_option linter.unusedVariables false
set_option linter.unusedSimpArgs false
namespace Go.V
def safeM (out : List VV) : Obj → Bool
  | .cells cs => cs.all (safeC out)
  | _ => true
def onlyC : Obj → Obj
  | .cells cs => .cells cs
  | _ => .gone
theorem safeC_sub {out out' : List VV} (h : ∀ x ∈ out', x ∈ out) {c : VV} (k : safeC out c = true) : safeC out' c = true := by
  unfold safeC at k ⊢
  rw [Bool.or_eq_true] at k ⊢
  exact k.imp (sepC_sub h) id
theorem safeO_sub {out out' : List VV} (h : ∀ x ∈ out', x ∈ out) {X : Obj} (k : safeM out X = true) : safeO out' X = onlyC X := by
  cases X with
  | cells cs =>
    simp only [safeM, List.all_eq_true] at k
    simp only [safeO, onlyC]
    rw [if_pos]
    rw [List.all_eq_true]
    exact fun c hc => safeC_sub h (k c hc)
  | _ => rfl
theorem safeO_map {out out' : List VV} (h : ∀ x ∈ out', x ∈ out) {l : List Obj} (k : l.all (safeM out) = true) : l.map (safeO out') = l.map onlyC := by
  rw [List.all_eq_true] at k
  exact List.map_congr_left fun X hX => safeO_sub h (k X hX)
end Go.V
namespace Go.Proofs
open Go.V Go.RowKit

def dE1 : VV := .agg [.int .i64 1, .str [114], .str [97], .str [102, 111, 111, 32, 98, 97, 114], .sl [.str [109, 97, 105, 110]] 0]
def dE2 : VV := .agg [.int .i64 2, .str [114], .str [102, 111, 111, 46, 116, 120, 116], .str [102, 111, 111, 32, 102, 111, 111], .sl [.str [109, 97, 105, 110]] 0]
def gM3 : List Gm := [⟨2122337, [.agg [.int .i64 1, .sl [.int .i64 3] 0]]⟩,
  ⟨6447474, [.agg [.int .i64 1, .sl [.int .i64 4] 0]]⟩,
  ⟨6713199, [.agg [.int .i64 1, .sl [.int .i64 0] 0], .agg [.int .i64 2, .sl [.int .i64 0, .int .i64 4] 0]]⟩,
  ⟨7282786, [.agg [.int .i64 1, .sl [.int .i64 2] 0]]⟩,
  ⟨7302944, [.agg [.int .i64 1, .sl [.int .i64 1] 0], .agg [.int .i64 2, .sl [.int .i64 1] 0]]⟩,
  ⟨2123375, [.agg [.int .i64 2, .sl [.int .i64 3] 0]]⟩,
  ⟨7282790, [.agg [.int .i64 2, .sl [.int .i64 2] 0]]⟩]
def gS3 : List Gm := [⟨2122337, [.agg [.int .i64 1, .sl [.int .i64 3] 0]]⟩,
  ⟨2123375, [.agg [.int .i64 2, .sl [.int .i64 3] 0]]⟩,
  ⟨6447474, [.agg [.int .i64 1, .sl [.int .i64 4] 0]]⟩,
  ⟨6713199, [.agg [.int .i64 1, .sl [.int .i64 0] 0], .agg [.int .i64 2, .sl [.int .i64 0, .int .i64 4] 0]]⟩,
  ⟨7282786, [.agg [.int .i64 1, .sl [.int .i64 2] 0]]⟩,
  ⟨7282790, [.agg [.int .i64 2, .sl [.int .i64 2] 0]]⟩,
  ⟨7302944, [.agg [.int .i64 1, .sl [.int .i64 1] 0], .agg [.int .i64 2, .sl [.int .i64 1] 0]]⟩]
theorem gM3_ok : okE gM3 = true := by decide +kernel
theorem gS3_ok : srt ltG gS3 := by
  unfold srt
  decide +kernel
theorem gS3_ne : gS3.Pairwise fun x y => x.c ≠ y.c := by decide +kernel
theorem gM3_ne : gM3.Pairwise fun x y => x.c ≠ y.c := by decide +kernel
theorem gS3_perm : gS3.Perm gM3 := by
  refine (List.perm_ext_iff_of_nodup (gS3_ne.imp fun h e => h (by rw [e])) (gM3_ne.imp fun h e => h (by rw [e]))).2 fun a => ?_
  simp only [gS3, gM3, List.mem_cons, List.not_mem_nil, or_false]
  constructor
  all_goals
    rintro (rfl | rfl | rfl | rfl | rfl | rfl | rfl)
    all_goals simp
/-- what the loops leave behind -/
def obL : List V.Obj := [.cells dE1.cells,
  .cells [.int .i64 2122337, .sl [.int .i64 3] 0],
  .tok 1 2,
  .cells [.int .i64 6447474, .sl [.int .i64 4] 0],
  .tok 1 2,
  .cells [.int .i64 6713199, .sl [.int .i64 0] 0],
  .tok 2 2,
  .cells [.int .i64 7282786, .sl [.int .i64 2] 0],
  .tok 1 2,
  .cells [.int .i64 7302944, .sl [.int .i64 1] 0],
  .tok 2 2,
  .cells dE2.cells,
  .cells [.int .i64 2123375, .sl [.int .i64 3] 0],
  .tok 1 2,
  .cells [.int .i64 6713199, .sl [.int .i64 0, .int .i64 4] 0],
  .cells [.int .i64 7282790, .sl [.int .i64 2] 0],
  .tok 1 2,
  .cells [.int .i64 7302944, .sl [.int .i64 1] 0]]
def TB : List (Nat × List VV × VV) := [(n_trigram_Grams, [.str [102, 111, 111, 32, 98, 97, 114]], .sl (gS1.map eG) 0), (n_trigram_Grams, [.str [102, 111, 111, 32, 102, 111, 111]], .sl (gS2.map eG) 0)]
theorem TB_ok : AllC TB := allC_cons c_Grams1 (allC_cons c_Grams2 allC_nil)
theorem w_exec {ext : Nat → List VV → Option VV} (T : TabOk PR tabE ext) {n : Nat} {c : VC} {st st' : St} {e : Ex} {K : Ex → St → Prop} (h : exec tabE ext n c st = some (e, st')) (k : K e st') : Wp PR c st K := exec_ok T n c st e st' K h k
theorem c_CloneD : PureC PR n_slices_Clone_Doc_Doc [.sl [dE1, dE2] 0] (.sl [dE1, dE2] 0) := runF_ok (n := 200) (tabE_ok noXq_ok) (isV_eq (by decide +kernel))
def mpL : List (VV × VV) := [(.int .i64 2122337, .sl [.agg [.int .i64 1, .sl [.int .i64 3] 0]] 6), (.int .i64 6447474, .sl [.agg [.int .i64 1, .sl [.int .i64 4] 0]] 8), (.int .i64 6713199, .sl [.agg [.int .i64 1, .sl [.int .i64 0] 0], .agg [.int .i64 2, .sl [.int .i64 0, .int .i64 4] 0]] 10), (.int .i64 7282786, .sl [.agg [.int .i64 1, .sl [.int .i64 2] 0]] 12), (.int .i64 7302944, .sl [.agg [.int .i64 1, .sl [.int .i64 1] 0], .agg [.int .i64 2, .sl [.int .i64 1] 0]] 14), (.int .i64 2123375, .sl [.agg [.int .i64 2, .sl [.int .i64 3] 0]] 17), (.int .i64 7282790, .sl [.agg [.int .i64 2, .sl [.int .i64 2] 0]] 20)]
theorem mpL_pr : mpL.map (fun e => (e.1, e.2.strip)) = gM3.map pr := rfl
theorem obL_ok : obL.all (safeM (gM3.flatMap gc)) = true := by decide +kernel
def obA : List V.Obj := .cells [.nils, .nils] :: .gone :: obL
theorem obA_ok : obA.all (safeM (gM3.flatMap gc)) = true := by decide +kernel
theorem docs_sep : sepC (gM3.flatMap gc) (.sl [dE1, dE2] 0) = true := by decide +kernel
/-- the objects behind the thaw -/
def obT (n : Nat) (flat : List VV) : List V.Obj := obA.map onlyC ++ [.cells [.sl [dE1, dE2] 0, .row 21 0 n], .cells flat, .gone]
theorem thB {L : List Gm} {n : Nat} {cur : Option (VV × VV)} (hn : L.length = n) (h0 : 0 < n) (hm : ∀ g ∈ L, g ∈ gM3) :
    thawW ⟨⟨[(2, .ptr 0 0), (9, .ptr 20 0)], obA ++ [.cells [.sl [dE1, dE2] 0, .sl (L.map eG) 23], .tok L.length 2, .miter 1 [] cur]⟩, 0, [], true⟩ 9 = some ⟨⟨[(2, .ptr 0 0), (9, .ptr 20 0)], obT n (L.flatMap gc)⟩, 0, [], true⟩ := by
  have hf := flG L
  have hsub : ∀ x ∈ (L.map eG).flatMap VV.cells, x ∈ gM3.flatMap gc := by rw [hf]; exact flat_sub hm
  have hs := okE_sep gM3_ok hm
  have hB : thawB (L.map eG) [.sl [dE1, dE2] 0, .sl (L.map eG) 23] 1 = true := by
    unfold thawB
    rw [hs, Bool.true_and]
    show (List.all [VV.sl [dE1, dE2] 0, .bool true] _) = true
    simp only [List.all_cons, List.all_nil, sepC_sub hsub docs_sep, Bool.true_and, Bool.and_true]
    rfl
  have hT : thawObs (obA ++ [.cells [.sl [dE1, dE2] 0, .sl (L.map eG) 23], .tok L.length 2, .miter 1 [] cur]) (L.map eG) [.sl [dE1, dE2] 0, .sl (L.map eG) 23] 20 21 1 L.length = obT n (L.flatMap gc) := by
    unfold thawObs
    rw [List.map_append, safeO_map hsub obA_ok, hf, hn]
    rfl
  have e1 : nthO (obA ++ [.cells [.sl [dE1, dE2] 0, .sl (L.map eG) 23], .tok L.length 2, .miter 1 [] cur]) 20 = .cells [.sl [dE1, dE2] 0, .sl (L.map eG) 23] := rfl
  have e2 : nthO (obA ++ [.cells [.sl [dE1, dE2] 0, .sl (L.map eG) 23], .tok L.length 2, .miter 1 [] cur]) 21 = .tok L.length 2 := rfl
  have e3 : (L.map eG).isEmpty = false := by
    cases L with
    | nil => simp at hn; omega
    | cons => rfl
  simp only [thawW, V.get, if_true, e1, hndAt, Option.map_some, Nat.zero_add, e2, hB, e3, List.length_map, and_self, hT, if_neg (show ¬ ((2 : Nat) = 9) by decide)]
  rfl
theorem rowT (n : Nat) (flat : List VV) : RowO (obT n flat) 21 := ⟨by show 21 < 23; decide, fun D => by
  have e : (obT n flat).set 21 (.cells (D.flatMap gc)) = obA.map onlyC ++ [.cells [.sl [dE1, dE2] 0, .row 21 0 n], .cells (D.flatMap gc), .gone] := rfl
  have e2 : (obT n flat).length = 23 := rfl
  have e3 : (obA.map onlyC).all (Obj.idsB 23) = true := by decide +kernel
  rw [e, e2, List.all_append, e3]
  simp [Obj.idsB, gc_ids, VV.ids, idsL]⟩
theorem c_Build (hR : PureC PR n_docs_Right [.sl [dE1, dE2] 0] (.int .i64 0)) : PureC PR n_segment_Build [.sl [dE1, dE2] 0] (.tup [.agg [.sl [dE1, dE2] 0, .sl (gS3.map eG) 0], .int .i64 0]) := by
  refine pure_of_wp m_segment_Build rfl (by simp [argOk_sl]) ?_
  unfold FnW
  have hv : v_segment_Build.body = v_segment_Build.body := rfl
  conv at hv => rhs; unfold v_segment_Build
  rw [hv]
  clear hv
  have hres : v_segment_Build.results = [(2, some 2), (3, none)] := rfl
  have hfr : v_segment_Build.fresh = none := rfl
  simp only [go_sem]
  refine callW_pure hR (by simp only [go_sem]) (by simp only [go_sem]) ?_
  have d0 : ((0 : Int) != 0) = false := by decide
  simp only [go_sem, d0]
  refine w_exec (tabE_ok (extT_ok TB_ok)) (n := 400) (e := .ext 0) (st' := ⟨⟨[(0, .sl [dE1, dE2] 0), (2, .ptr 0 0), (4, .mp 1), (17, .sl [dE1, dE2] 0), (18, .int .i64 2), (19, .int .i64 2), (20, .bool false)], .cells [.nils, .nils] :: .map mpL :: obL⟩, 0, [], true⟩) (by kernel_rfl) ?_
  have hob : obL = obL := rfl
  conv at hob => rhs; unfold obL
  rw [hob]
  clear hob
  simp only [go_sem]
  refine callW_pure c_CloneD (by simp only [go_sem]) (by simp only [go_sem]) ?_
  have hpm := mpL_pr
  simp only [go_sem, hpm]
  refine v_forN (α := List Gm × List Gm × Option (VV × VV)) (base := 0) (marks := []) (pu := true) (good := fun y => (y.2.1 ++ y.1).Perm gM3) (m := fun y => y.1.length)
    (E := fun y => [(2, .ptr 0 0), (9, .ptr 20 0), (51, .it 22)]) (O := fun y => [.cells [.nils, .nils], .gone,
      .cells dE1.cells,
  .cells [.int .i64 2122337, .sl [.int .i64 3] 0],
  .tok 1 2,
  .cells [.int .i64 6447474, .sl [.int .i64 4] 0],
  .tok 1 2,
  .cells [.int .i64 6713199, .sl [.int .i64 0] 0],
  .tok 2 2,
  .cells [.int .i64 7282786, .sl [.int .i64 2] 0],
  .tok 1 2,
  .cells [.int .i64 7302944, .sl [.int .i64 1] 0],
  .tok 2 2,
  .cells dE2.cells,
  .cells [.int .i64 2123375, .sl [.int .i64 3] 0],
  .tok 1 2,
  .cells [.int .i64 6713199, .sl [.int .i64 0, .int .i64 4] 0],
  .cells [.int .i64 7282790, .sl [.int .i64 2] 0],
  .tok 1 2,
  .cells [.int .i64 7302944, .sl [.int .i64 1] 0],
      .cells [.sl [dE1, dE2] 0, .sl (y.2.1.map eG) 23], .tok y.2.1.length 2, .miter 1 (y.1.map pr) y.2.2])
    ?_ (gM3, [], none) _ (List.Perm.refl _) rfl rfl rfl rfl rfl
  rintro ⟨left, done, cur⟩ hp
  simp only at hp
  simp only [go_sem]
  refine next_s (o := 22) rfl (fun h => ?_) (fun p hpk => ?_)
  · have hl0 : left = [] := by simpa using h
    subst hl0
    rw [List.append_nil] at hp
    have hlen : done.length = 7 := hp.length_eq
    have hS : insG done = gS3 := insG_eq gS3_ok gS3_ne (gS3_perm.trans hp.symm)
    have hmem : ∀ g ∈ done, g ∈ gM3 := fun g hg => hp.mem_iff.1 hg
    simp only [go_sem]
    refine e_thaw (P := PR) (thB (L := done) (n := 7) (cur := cur) hlen (by decide) hmem) ?_
    have q := c_SortF_Posting (rowT 7 (done.flatMap gc)) done (by omega) (c_Len _ (by omega))
    rw [hlen, hS] at q
    have e5 : (obT 7 (done.flatMap gc)).set 21 (.cells (done.flatMap gc)) = obT 7 (done.flatMap gc) := rfl
    have e6 : (obT 7 (done.flatMap gc)).set 21 (.cells (gS3.flatMap gc)) = obT 7 (gS3.flatMap gc) := rfl
    rw [e5, e6] at q
    have e7 : ∀ fl, (obT 7 fl).getD 20 V.Obj.gone = .cells [.sl [dE1, dE2] 0, .row 21 0 7] := fun _ => rfl
    simp only [go_sem, e7]
    refine callW_det q (by simp only [go_sem]) (by simp only [go_sem]) (.inl rfl) ?_
    simp only [go_sem]
    refine frz_ptr (st' := ⟨⟨[(2, .ptr 0 0), (9, .ptr 20 0)], obA.map onlyC ++ [.cells [.sl [dE1, dE2] 0, .sl (gS3.map eG) 0], .gone, .gone]⟩, 0, [], true⟩) (by kernel_rfl) ?_
    refine w_exec (tabE_ok noXq_ok) (n := 50) (e := .nrm) (st' := ⟨⟨[(2, .ptr 0 0), (3, .int .i64 0), (9, .ptr 20 0), (68, .agg [.sl [dE1, dE2] 0, .sl (gS3.map eG) 0])], .cells [.sl [dE1, dE2] 0, .sl (gS3.map eG) 0] :: ((obA.map onlyC).tail ++ [.cells [.sl [dE1, dE2] 0, .sl (gS3.map eG) 0], .gone, .gone])⟩, 0, [], true⟩) (by kernel_rfl) ?_
    simp only [go_sem, hres, hfr]
  · rw [picks_map] at hpk
    obtain ⟨⟨x, rest⟩, hq, rfl⟩ := List.mem_map.1 hpk
    have hpp := picks_perm hq
    simp only at hpp
    have hperm : ((done ++ [x]) ++ rest).Perm gM3 := by
      rw [List.append_assoc]
      exact (List.Perm.append_left done hpp.symm).trans hp
    have hdl : done.length ≤ 7 := by have := hp.length_eq; simp [gM3] at this; omega
    have hcap : (done.length + 1) * 32 ≤ 35184372088832 := by omega
    have hhd := hdG done
    have hcn : (VV.agg [.int .i64 (x.c.val : Int), .sl x.l 0]).canon = true := rfl
    simp only [go_sem, pr, hhd, hcap, hcn]
    exact ⟨(rest, done ++ [x], some (.int .i64 (x.c.val : Int), .sl x.l 0)), hperm, by have := hpp.length_eq; simp at this ⊢; omega, by simp only [go_sem], by simp [← eG_box], rfl, rfl, rfl⟩
end Go.Proofs
