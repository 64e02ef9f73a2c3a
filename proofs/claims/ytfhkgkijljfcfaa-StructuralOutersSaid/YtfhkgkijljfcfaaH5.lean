/- V, proofs: the answer of the law StructuralOuters on data. -/
import Derived.Test.YtfhkgkijljfcfaaH3
import Derived.Test.YtfhkgkijljfcfaaT1
set_option linter.unusedVariables false
set_option linter.unusedSimpArgs false
namespace Go.Proofs
open Go.V Go.RowKit

def spanM (s : Int × Int) : Mt := (.mk 15 [] s.1 s.2 [], [])
theorem spanM_e (s : Int × Int) : eM (spanM s) = .agg [.int .i64 15, .str [], .int .i64 s.1, .int .i64 s.2, .sl [] 0, .sl [] 0] := rfl
theorem eSp_cells (s : Int × Int) : (eSp s).cells = [.int .i64 s.1, .int .i64 s.2] := rfl
theorem sameN_refl (d : Nd) : sameN d d = true := (sameN_iff _ _).2 rfl
theorem sameB_refl (d : Bd) : sameB d d = true := by simp [sameB, allS_refl sameN_refl]
theorem sameM_refl (d : Mt) : sameM d d = true := by simp [sameM, allS_refl sameB_refl, sameN_refl]

theorem okM_span {s : Int × Int} (h : I64 s.1 ∧ I64 s.2) : okM (spanM s) := by
  refine ⟨?_, Nat.zero_le _, nofun⟩
  show okN (.mk 15 [] s.1 s.2 [])
  simp only [okN, okNs, List.length_nil, and_true]
  exact ⟨⟨by decide, by decide⟩, h.1, h.2, by decide, by decide⟩
theorem outerR_mem (l : List Mt) : ∀ i, i ≤ l.length → ∀ m ∈ outerR (l.take i), m ∈ l := by
  intro i
  induction i with
  | zero => intro _ m h; simp [outerR] at h
  | succ i ih =>
    intro h m hm
    rw [outerR_succ l i (by omega)] at hm
    split at hm
    · exact ih (by omega) m hm
    · rw [List.mem_append] at hm
      rcases hm with hm | hm
      · exact ih (by omega) m hm
      · rw [List.mem_singleton] at hm; subst hm; exact List.getElem_mem _
theorem outerR_mem' (l : List Mt) : ∀ m ∈ outerR l, m ∈ l := by
  have := outerR_mem l l.length (Nat.le_refl _)
  rwa [List.take_length] at this
theorem outerR_len' (l : List Mt) : (outerR l).length ≤ l.length := by
  have := outerR_len l l.length (Nat.le_refl _)
  rwa [List.take_length] at this

theorem valueR_ok {l : List Bd} {name : List UInt8} (h : ∀ b ∈ l, okB b) : okB (name, (valueR l name).1) := by
  unfold valueR
  split
  · rename_i b hb
    exact h b (List.mem_of_find?_eq_some hb)
  · exact ⟨Nat.zero_le _, nofun⟩

theorem f5 (sp : List (Int × Int)) (l : List Bd) (name : List UInt8) (lsp : sp.length ≤ maxLen) (ll : l.length ≤ maxLen) (osp : ∀ s ∈ sp, I64 s.1 ∧ I64 s.2) (ol : ∀ b ∈ l, okB b) :
    PureC Try.prog 5 [.sl (sp.map eSp) 0, .sl (l.map eB) 0, .str name] (.bool true) := by
  refine pure_of_wp m5 rfl (by simp [argOk_sl, argOk_str]) ?_
  unfold FnW v5
  simp only [go_sem]
  refine callW_pure alive rfl rfl ?_
  cases h1 : decide ((sp.length : Int) > 30) with
  | true => simp [go_sem, h1]
  | false =>
  cases h2 : decide ((l.length : Int) > 30) with
  | true => simp [go_sem, h1, h2]
  | false =>
  simp only [go_sem, h1, h2]
  have b1 : sp.length ≤ 30 := by have : ¬((sp.length : Int) > 30) := by simpa using h1
                                 omega
  refine v_for (good := fun i => i ≤ sp.length) (m := fun i => sp.length - i)
    (E := fun i => [(0, .sl (sp.map eSp) 0), (1, .sl (l.map eB) 0), (2, .str name), (7, .sl (((sp.take i).map spanM).map eM) 2), (8, .int .i64 i)]) (O := fun i => [.tok i 6])
    (by intro i _; simp [go_sem, Obj.idsB]) rfl ?_ 0 _ (by omega) rfl rfl rfl rfl
  intro i hi
  simp only [go_sem]
  refine if_s (fun ht => ?_) (fun hf => ?_)
  · have hlt : i < sp.length := by simpa using ht
    have g1 : (sp.map eSp)[i]? = some (eSp sp[i]) := by simp [hlt]
    have hc : (i + 1) * 88 ≤ 35184372088832 := by omega
    have hn : (sp.take i).length = i := by simp; omega
    simp only [go_sem, g1, eSp_cells, hn, hc, VV.canon, VV.canon0]
    have w : IntKind.i64.wrap ((i : Int) + 1) = ((i + 1 : Nat) : Int) := wrap_succ (by omega)
    refine ⟨i + 1, by omega, by simp only; omega, ?_, rfl, rfl, rfl⟩
    simp only [go_sem, w, List.take_add_one, List.getElem?_eq_getElem hlt, List.map_append, Option.toList_some, spanM_e]
  · have hge : i = sp.length := by
      have : sp.length ≤ i := by simpa using hf
      omega
    subst hge
    simp only [go_sem, List.take_length]
    refine v_for (good := fun i => i ≤ l.length) (m := fun i => l.length - i)
      (E := fun i => [(1, .sl (l.map eB) 0), (2, .str name), (7, .sl ((sp.map spanM).map eM) 2), (9, .int .i64 i)]) (O := fun _ => [.tok sp.length 6])
      (by intro i _; simp [go_sem, Obj.idsB]) rfl ?_ 0 _ (by omega) rfl rfl rfl rfl
    intro i hi
    simp only [go_sem]
    refine if_s (fun ht => ?_) (fun hf => ?_)
    · have hlt : i < l.length := by simpa using ht
      have g1 : (l.map eB)[i]? = some (eB l[i]) := by simp [hlt]
      cases h3 : decide ((l[i].2.length : Int) > 30) with
      | true => simp [go_sem, g1, eB_cells, h3]
      | false =>
      simp only [go_sem, g1, eB_cells, h3]
      have b3 : l[i].2.length ≤ 30 := by have : ¬((l[i].2.length : Int) > 30) := by simpa using h3
                                         omega
      refine v_for (good := fun j => j ≤ l[i].2.length) (m := fun j => l[i].2.length - j)
        (E := fun j => [(1, .sl (l.map eB) 0), (2, .str name), (7, .sl ((sp.map spanM).map eM) 2), (9, .int .i64 i), (10, .int .i64 j)]) (O := fun _ => [.tok sp.length 6])
        (by intro i _; simp [go_sem, Obj.idsB]) rfl ?_ 0 _ (by omega) rfl rfl rfl rfl
      intro j hj
      simp only [go_sem, g1, eB_cells]
      refine if_s (fun ht => ?_) (fun hf => ?_)
      · have hjt : j < l[i].2.length := by simpa using ht
        have g2 : (l[i].2.map eN)[j]? = some (eN l[i].2[j]) := by simp [hjt]
        have w : IntKind.i64.wrap ((j : Int) + 1) = ((j + 1 : Nat) : Int) := wrap_succ (by omega)
        cases h4 : decide ((l[i].2[j].kids.length : Int) > 0) with
        | true => simp only [go_sem, g1, g2, eB_cells, eN_cells, h4]
        | false =>
          simp only [go_sem, g1, g2, eB_cells, eN_cells, h4]
          exact ⟨j + 1, by omega, by simp only; omega, by simp [go_sem, w], rfl, rfl, rfl⟩
      · have w : IntKind.i64.wrap ((i : Int) + 1) = ((i + 1 : Nat) : Int) := wrap_succ (by have : maxLen = 9223372036854775807 := rfl; omega)
        simp only [go_sem]
        exact ⟨i + 1, by omega, by simp only; omega, by simp [go_sem, w], rfl, rfl, rfl⟩
    · have hmap : ∀ m ∈ sp.map spanM, okM m := fun m hm => by
        obtain ⟨s, hs, rfl⟩ := List.mem_map.1 hm
        exact okM_span (osp s hs)
      have hml : (sp.map spanM).length = sp.length := by simp
      generalize sp.map spanM = ms at *
      have hol := outerR_len' ms
      have hom := outerR_mem' ms
      simp only [go_sem]
      refine callW_pure (f20 l name ll) (by simp [go_sem]) (by simp [go_sem]) ?_
      simp only [go_sem, eV]
      refine callW_pure (f21 l name ll) (by simp [go_sem]) (by simp [go_sem]) ?_
      simp only [go_sem, eV]
      have e1 : ((valueR l name).2 == (valueR l name).2) = true := by simp
      have hv := valueR_ok (name := name) ol
      simp only [go_sem, e1]
      refine callW_pure (f22 _ _ hv.1 hv.2 hv.2) (by simp [go_sem]) (by simp [go_sem]) ?_
      simp only [go_sem, e1, allS_refl sameN_refl]
      refine callW_pure (f18 ms (by omega)) (by simp [go_sem]) (by simp [go_sem]) ?_
      simp only [go_sem, e1, allS_refl sameN_refl]
      refine callW_pure (f19 ms (by omega)) (by simp [go_sem]) (by simp [go_sem]) ?_
      simp only [go_sem, e1, allS_refl sameN_refl]
      refine callW_pure (f15 (outerR ms) (outerR ms) (by omega) (fun d hd => hmap d (hom d hd)) (fun d hd => hmap d (hom d hd))) (by simp [go_sem]) (by simp [go_sem]) ?_
      simp only [go_sem, e1, allS_refl sameN_refl, allS_refl sameM_refl]
end Go.Proofs
