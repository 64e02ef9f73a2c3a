/- The comparison that filter.Spans hands to sort.Slice, in the machine; sort.Slice on rows of spans. Conditions: 2 to 12 spans. -/
import Derived.Deep.QuietTactic
import Derived.WalkKit
import Derived.Sort.LotA
import Derived.Test.YtglabjcjfjlkoaaGreatDoorSL1
import Derived.Test.YtglabjcjfjlkoaaGreatDoorSG1
import Derived.Test.YtglabjcjfjlkoaaGreatDoorSO3
set_option linter.unusedVariables false
set_option linter.unusedSimpArgs false
namespace Go.Proofs
open Go.Shelf Go.RowKit Go.Lib Go.Sort
open Go.V (VV ImpC nthO callOk)

def ltSp (p q : Int × Int) : Bool := decide (p.1 < q.1) || (decide (p.1 = q.1) && decide (p.2 < q.2))
set_option maxHeartbeats 2000000 in
theorem less_spans (blk off c Bs size : Nat) (W : World) (G H : Nat → Int) (hs : W.cell? ⟨Bs, 0, none⟩ = some (.slice (some ⟨blk, off, none⟩) size c))
    (hc : ∀ t, t < size → W.cell? ⟨blk, off + t * 2, none⟩ = some (.int .i64 (G t))) (hd : ∀ t, t < size → W.cell? ⟨blk, off + t * 2 + 1, none⟩ = some (.int .i64 (H t))) (i j : Nat) (hi : i < size) (hj : j < size) :
    Calls Tryz.prog n_filter_Spans_2 #[.int .i64 i, .int .i64 j, .pointer (some ⟨Bs, 0, none⟩)] W fun e w' => e = .returned (.bool (ltSp (G i, H i) (G j, H j))) ∧ ∃ q, w' = W.drewN q := by
  have ci := hc i hi
  have cj := hc j hj
  have di := hd i hi
  have dj := hd j hj
  obtain ⟨L, hL⟩ : ∃ L, L = ltSp (G i, H i) (G j, H j) := ⟨_, rfl⟩
  rw [← hL]
  go_enter Tryz.func58, Tryz.ntmps58
  go_wp2
  by_cases h1 : G i < G j
  · have e : L = true := by rw [hL]; simp [ltSp, h1]
    clear hL
    go_quiet (fail)
    go_wp2
    go_ret
    exact ⟨by first | rfl | (rw [e]; rfl), nq, rfl⟩
  · by_cases h2 : G i = G j
    · by_cases h3 : H i < H j
      · have e : L = true := by rw [hL]; simp [ltSp, h2, h3]
        clear hL
        go_quiet (fail)
        go_wp2
        go_ret
        exact ⟨by first | rfl | (rw [e]; rfl), nq, rfl⟩
      · have e : L = false := by rw [hL]; simp [ltSp, h2, h3]
        clear hL
        go_quiet (fail)
        go_wp2
        go_ret
        exact ⟨by first | rfl | (rw [e]; rfl), nq, rfl⟩
    · have e : L = false := by rw [hL]; simp [ltSp, h1, h2]
      clear hL
      go_quiet (fail)
      go_wp2
      go_ret
      exact ⟨by first | rfl | (rw [e]; rfl), nq, rfl⟩
def spc (p : Int × Int) : List VV := [.int .i64 p.1, .int .i64 p.2]
theorem lessK_spans : Go.V.LessK PR n_filter_Spans_2 spc 2 ltSp := by
  intro W b bo cap n D hbox hc i j hi hj
  have := less_spans b 0 cap bo n W (fun t => (D t).1) (fun t => (D t).2) hbox (fun t ht => by
    have h := hc t ht 0 (by decide)
    rw [Nat.zero_add]
    exact h) (fun t ht => by
    have h := hc t ht 1 (by decide)
    rw [Nat.zero_add]
    exact h) i j hi hj
  exact this
noncomputable def spT : TypeInfo := (Tryz.prog.info? 38).get (by kernel_rfl)
noncomputable def spE : TypeInfo := (Tryz.prog.info? 37).get (by kernel_rfl)
theorem spK (n : Nat) (h2 : 2 ≤ n) : Lib.swapperK n spE 25 = 9 := by
  have a : spE.hasPointers = false := by kernel_rfl
  have b : spE.bytes = 16 := by kernel_rfl
  have c : (n == 0) = false := by simp; omega
  have d : (n == 1) = false := by simp; omega
  simp [Lib.swapperK, a, b, c, d]
theorem swo_ltSp : SWO ltSp := by
  refine ⟨fun x => ?_, fun x y z h k => ?_, fun x y z h k => ?_⟩ <;> simp [ltSp] at * <;> omega
theorem sliceK_spans : Go.V.SlicesK PR n_sort_Slice n_filter_Spans_2 38 spc 2 ltSp := by
  intro b bo cap d w h2 h12 hless hH hb
  exact Any.sort_Slice_small_cells_sorted Tryz.laysGg57 38 37 spT spE (by kernel_rfl) (by kernel_rfl) (by kernel_rfl) (by kernel_rfl) 25 (fun _ => by kernel_rfl) (Go.V.eRv spc) 2 (fun _ => rfl) (by kernel_rfl) (fun _ => by kernel_rfl)
    (fun x v hv => by simp [Go.V.eRv, spc, Go.V.toR] at hv; rcases hv with rfl | rfl <;> rfl) ltSp swo_ltSp n_filter_Spans_2 _
    (enters_of Tryz.func58 (by kernel_rfl) rfl) b 0 cap d h2 h12 182 (by rw [spK _ h2]; kernel_rfl) false
    (fun args W => run_callFunc_extern Tryz.func182 (by kernel_rfl) (by kernel_rfl) (by kernel_rfl) (e := Extern.ReflectliteSwapper.swap false) (by kernel_rfl) args W) w hless hH hb
theorem callOk_slice : callOk PR n_sort_Slice = true := by decide +kernel
/-- sort.Slice, as filter.Spans calls it -/
theorem c_slice {ob : List Go.V.Obj} {o t : Nat} {l : List (Int × Int)} (h2 : 2 ≤ l.length) (h12 : l.length ≤ 12) (ho : nthO ob t = .cells (l.flatMap spc)) (hb : nthO ob o = .cells [.row t 0 l.length]) :
    ImpC PR n_sort_Slice [.ifr 38 t 0 l.length, .fn n_filter_Spans_2 [.ptr o 0]] ob (fun r ob' => r = .tup [] ∧ ∃ l' : List (Int × Int), l'.Perm l ∧ l'.Pairwise (fun x y => ltSp y x = false) ∧ ob' = ob.set t (.cells (l'.flatMap spc))) :=
  Go.V.imp_slice callOk_slice (by decide) (fun _ => rfl) (fun x v hv => by simp [spc] at hv; rcases hv with rfl | rfl <;> rfl) lessK_spans sliceK_spans h2 h12 ho hb
end Go.Proofs
