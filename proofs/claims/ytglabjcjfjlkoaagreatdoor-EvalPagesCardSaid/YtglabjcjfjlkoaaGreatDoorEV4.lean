/- V, proofs: trigram.Grams at the texts of the examples. Conditions: none. -/
import Derived.Test.YtglabjcjfjlkoaaGreatDoorEV3
set_option linter.unusedVariables false
set_option linter.unusedSimpArgs false
namespace Go.Proofs
open Go.V Go.RowKit

def gM1 : List Gm := [⟨6713199, [.int .i64 0]⟩, ⟨7302944, [.int .i64 1]⟩, ⟨7282786, [.int .i64 2]⟩, ⟨2122337, [.int .i64 3]⟩, ⟨6447474, [.int .i64 4]⟩]
def gS1 : List Gm := [⟨2122337, [.int .i64 3]⟩, ⟨6447474, [.int .i64 4]⟩, ⟨6713199, [.int .i64 0]⟩, ⟨7282786, [.int .i64 2]⟩, ⟨7302944, [.int .i64 1]⟩]
theorem gM1_ok : okE gM1 = true := by decide +kernel
theorem gS1_ok : srt ltG gS1 := by
  unfold srt
  decide +kernel
theorem gS1_ne : gS1.Pairwise fun x y => x.c ≠ y.c := by decide +kernel
theorem gM1_ne : gM1.Pairwise fun x y => x.c ≠ y.c := by decide +kernel
theorem gS1_perm : gS1.Perm gM1 := by
  refine (List.perm_ext_iff_of_nodup (gS1_ne.imp fun h e => h (by rw [e])) (gM1_ne.imp fun h e => h (by rw [e]))).2 fun a => ?_
  simp only [gS1, gM1, List.mem_cons, List.not_mem_nil, or_false]
  constructor
  all_goals
    rintro (rfl | rfl | rfl | rfl | rfl)
    all_goals simp
theorem c_occ1 : ImpC PR n_trigram_occurrences [.str [102, 111, 111, 32, 98, 97, 114]] [.tok 0 2] (fun v o => v = .mp 1 ∧ o = [.tok 0 2, .map [(.int .i64 6713199, .sl [.int .i64 0] 4), (.int .i64 7302944, .sl [.int .i64 1] 5), (.int .i64 7282786, .sl [.int .i64 2] 6), (.int .i64 2122337, .sl [.int .i64 3] 7), (.int .i64 6447474, .sl [.int .i64 4] 8)], .tok 1 1, .tok 1 1, .tok 1 1, .tok 1 1, .tok 1 1]) := impQ_run (tabE_ok noXq_ok) (n := 300) (by kernel_rfl)
theorem pr1 : ([(.int .i64 6713199, .sl [.int .i64 0] 4), (.int .i64 7302944, .sl [.int .i64 1] 5), (.int .i64 7282786, .sl [.int .i64 2] 6), (.int .i64 2122337, .sl [.int .i64 3] 7), (.int .i64 6447474, .sl [.int .i64 4] 8)] : List (VV × VV)).map (fun e => (e.1, e.2.strip)) = gM1.map pr := rfl
theorem c_Grams1 : PureC PR n_trigram_Grams [.str [102, 111, 111, 32, 98, 97, 114]] (.sl (gS1.map eG) 0) := by
  refine pure_of_wp m_trigram_Grams rfl (by decide) ?_
  unfold FnW
  have hv : v_trigram_Grams.body = v_trigram_Grams.body := rfl
  conv at hv => rhs; unfold v_trigram_Grams
  rw [hv]
  clear hv
  have hres : v_trigram_Grams.results = [(2, none)] := rfl
  have hfr : v_trigram_Grams.fresh = none := rfl
  have hpm := pr1
  simp only [go_sem]
  refine callW_det c_occ1 (by simp only [go_sem]) (by simp only [go_sem]) (.inr rfl) ?_
  simp only [go_sem, hpm]
  refine v_forN (α := List Gm × List Gm × Option (VV × VV)) (base := 0) (marks := []) (pu := true) (good := fun y => (y.2.1 ++ y.1).Perm gM1) (m := fun y => y.1.length)
    (E := fun y => [(3, .sl (y.2.1.map eG) 2), (8, .it 7)]) (O := fun y => [.tok y.2.1.length 2, .gone, .tok 1 1, .tok 1 1, .tok 1 1, .tok 1 1, .tok 1 1, .miter 1 (y.1.map pr) y.2.2])
    ?_ (gM1, [], none) _ (List.Perm.refl _) rfl rfl rfl rfl rfl
  rintro ⟨left, done, cur⟩ hp
  simp only at hp
  simp only [go_sem]
  refine next_s (o := 7) rfl (fun h => ?_) (fun p hpk => ?_)
  · have hl0 : left = [] := by simpa using h
    subst hl0
    rw [List.append_nil] at hp
    have hlen : done.length = 5 := hp.length_eq
    have hS : insG done = gS1 := insG_eq gS1_ok gS1_ne (gS1_perm.trans hp.symm)
    have hth := thawG gM1_ok fun g hg => hp.mem_iff.1 hg
    simp only [go_sem]
    cases done with
    | nil => simp at hlen
    | cons x r =>
      refine e_thaw (P := PR) (thG hth) ?_
      have q := c_SortF_Gram row0 (x :: r) (by omega) (c_Len _ (by omega))
      simp only [List.set_cons_zero, hS] at q
      have hl2 : r.length + 1 = gS1.length := hlen
      simp only [go_sem, List.map_cons, List.map_nil]
      refine w_drop (by simp) rfl rfl (by show (List.all [V.Obj.cells ((x :: r).flatMap gc)] (Obj.idsB (0 + 1))) = true; simp only [List.all_cons, List.all_nil, Obj.idsB, gc_ids, Bool.and_true]) ?_
      simp only [List.length_cons] at q
      simp only [go_sem]
      refine callW_det q (by simp only [go_sem]) (by simp only [go_sem]) (.inl rfl) ?_
      rw [hl2]
      simp only [go_sem]
      have hfz := frzG gS1
      refine frz_row rfl (by rw [gc_flat]; simp) (by rw [hfz]; exact canG _) ?_
      rw [hfz]
      simp only [go_sem, hres, hfr]
  · rw [picks_map] at hpk
    obtain ⟨⟨x, rest⟩, hq, rfl⟩ := List.mem_map.1 hpk
    have hpp := picks_perm hq
    simp only at hpp
    have hperm : ((done ++ [x]) ++ rest).Perm gM1 := by
      rw [List.append_assoc]
      exact (List.Perm.append_left done hpp.symm).trans hp
    have hdl : done.length ≤ 5 := by have := hp.length_eq; simp [gM1] at this; omega
    have hcap : (done.length + 1) * 32 ≤ 35184372088832 := by omega
    have hhd := hdG done
    have hcn : (VV.agg [.int .i64 (x.c.val : Int), .sl x.l 0]).canon = true := rfl
    simp only [go_sem, pr, hhd, hcap, hcn]
    exact ⟨(rest, done ++ [x], some (.int .i64 (x.c.val : Int), .sl x.l 0)), hperm, by have := hpp.length_eq; simp at this ⊢; omega, by simp only [go_sem, eG_box, mapG], by simp, rfl, rfl, rfl⟩
def gM2 : List Gm := [⟨6713199, [.int .i64 0, .int .i64 4]⟩, ⟨7302944, [.int .i64 1]⟩, ⟨7282790, [.int .i64 2]⟩, ⟨2123375, [.int .i64 3]⟩]
def gS2 : List Gm := [⟨2123375, [.int .i64 3]⟩, ⟨6713199, [.int .i64 0, .int .i64 4]⟩, ⟨7282790, [.int .i64 2]⟩, ⟨7302944, [.int .i64 1]⟩]
theorem gM2_ok : okE gM2 = true := by decide +kernel
theorem gS2_ok : srt ltG gS2 := by
  unfold srt
  decide +kernel
theorem gS2_ne : gS2.Pairwise fun x y => x.c ≠ y.c := by decide +kernel
theorem gM2_ne : gM2.Pairwise fun x y => x.c ≠ y.c := by decide +kernel
theorem gS2_perm : gS2.Perm gM2 := by
  refine (List.perm_ext_iff_of_nodup (gS2_ne.imp fun h e => h (by rw [e])) (gM2_ne.imp fun h e => h (by rw [e]))).2 fun a => ?_
  simp only [gS2, gM2, List.mem_cons, List.not_mem_nil, or_false]
  constructor
  all_goals
    rintro (rfl | rfl | rfl | rfl)
    all_goals simp
theorem c_occ2 : ImpC PR n_trigram_occurrences [.str [102, 111, 111, 32, 102, 111, 111]] [.tok 0 2] (fun v o => v = .mp 1 ∧ o = [.tok 0 2, .map [(.int .i64 6713199, .sl [.int .i64 0, .int .i64 4] 4), (.int .i64 7302944, .sl [.int .i64 1] 5), (.int .i64 7282790, .sl [.int .i64 2] 6), (.int .i64 2123375, .sl [.int .i64 3] 7)], .tok 2 1, .tok 1 1, .tok 1 1, .tok 1 1]) := impQ_run (tabE_ok noXq_ok) (n := 300) (by kernel_rfl)
theorem pr2 : ([(.int .i64 6713199, .sl [.int .i64 0, .int .i64 4] 4), (.int .i64 7302944, .sl [.int .i64 1] 5), (.int .i64 7282790, .sl [.int .i64 2] 6), (.int .i64 2123375, .sl [.int .i64 3] 7)] : List (VV × VV)).map (fun e => (e.1, e.2.strip)) = gM2.map pr := rfl
theorem c_Grams2 : PureC PR n_trigram_Grams [.str [102, 111, 111, 32, 102, 111, 111]] (.sl (gS2.map eG) 0) := by
  refine pure_of_wp m_trigram_Grams rfl (by decide) ?_
  unfold FnW
  have hv : v_trigram_Grams.body = v_trigram_Grams.body := rfl
  conv at hv => rhs; unfold v_trigram_Grams
  rw [hv]
  clear hv
  have hres : v_trigram_Grams.results = [(2, none)] := rfl
  have hfr : v_trigram_Grams.fresh = none := rfl
  have hpm := pr2
  simp only [go_sem]
  refine callW_det c_occ2 (by simp only [go_sem]) (by simp only [go_sem]) (.inr rfl) ?_
  simp only [go_sem, hpm]
  refine v_forN (α := List Gm × List Gm × Option (VV × VV)) (base := 0) (marks := []) (pu := true) (good := fun y => (y.2.1 ++ y.1).Perm gM2) (m := fun y => y.1.length)
    (E := fun y => [(3, .sl (y.2.1.map eG) 2), (8, .it 6)]) (O := fun y => [.tok y.2.1.length 2, .gone, .tok 2 1, .tok 1 1, .tok 1 1, .tok 1 1, .miter 1 (y.1.map pr) y.2.2])
    ?_ (gM2, [], none) _ (List.Perm.refl _) rfl rfl rfl rfl rfl
  rintro ⟨left, done, cur⟩ hp
  simp only at hp
  simp only [go_sem]
  refine next_s (o := 6) rfl (fun h => ?_) (fun p hpk => ?_)
  · have hl0 : left = [] := by simpa using h
    subst hl0
    rw [List.append_nil] at hp
    have hlen : done.length = 4 := hp.length_eq
    have hS : insG done = gS2 := insG_eq gS2_ok gS2_ne (gS2_perm.trans hp.symm)
    have hth := thawG gM2_ok fun g hg => hp.mem_iff.1 hg
    simp only [go_sem]
    cases done with
    | nil => simp at hlen
    | cons x r =>
      refine e_thaw (P := PR) (thG hth) ?_
      have q := c_SortF_Gram row0 (x :: r) (by omega) (c_Len _ (by omega))
      simp only [List.set_cons_zero, hS] at q
      have hl2 : r.length + 1 = gS2.length := hlen
      simp only [go_sem, List.map_cons, List.map_nil]
      refine w_drop (by simp) rfl rfl (by show (List.all [V.Obj.cells ((x :: r).flatMap gc)] (Obj.idsB (0 + 1))) = true; simp only [List.all_cons, List.all_nil, Obj.idsB, gc_ids, Bool.and_true]) ?_
      simp only [List.length_cons] at q
      simp only [go_sem]
      refine callW_det q (by simp only [go_sem]) (by simp only [go_sem]) (.inl rfl) ?_
      rw [hl2]
      simp only [go_sem]
      have hfz := frzG gS2
      refine frz_row rfl (by rw [gc_flat]; simp) (by rw [hfz]; exact canG _) ?_
      rw [hfz]
      simp only [go_sem, hres, hfr]
  · rw [picks_map] at hpk
    obtain ⟨⟨x, rest⟩, hq, rfl⟩ := List.mem_map.1 hpk
    have hpp := picks_perm hq
    simp only at hpp
    have hperm : ((done ++ [x]) ++ rest).Perm gM2 := by
      rw [List.append_assoc]
      exact (List.Perm.append_left done hpp.symm).trans hp
    have hdl : done.length ≤ 4 := by have := hp.length_eq; simp [gM2] at this; omega
    have hcap : (done.length + 1) * 32 ≤ 35184372088832 := by omega
    have hhd := hdG done
    have hcn : (VV.agg [.int .i64 (x.c.val : Int), .sl x.l 0]).canon = true := rfl
    simp only [go_sem, pr, hhd, hcap, hcn]
    exact ⟨(rest, done ++ [x], some (.int .i64 (x.c.val : Int), .sl x.l 0)), hperm, by have := hpp.length_eq; simp at this ⊢; omega, by simp only [go_sem, eG_box, mapG], by simp, rfl, rfl, rfl⟩
end Go.Proofs
