/- V, contracts of library functions that this program calls: strings.IndexByte, Contains and Split at one byte; slices.Sort and Compact on numbers. Conditions: as each says. -/
import Derived.Test.YtglabjcjfjlkoaaGreatDoorA4
import Derived.Test.YtglabjcjfjlkoaaGreatDoorS1
import Derived.Test.YtglabjcjfjlkoaaGreatDoorF2
set_option linter.unusedVariables false
set_option linter.unusedSimpArgs false
namespace Go.Proofs
open Go.V Go.RowKit Go.Sort

theorem ok_IndexByte : callOk PR n_strings_IndexByte = true := by decide +kernel
theorem ok_Contains : callOk PR n_strings_Contains = true := by decide +kernel
theorem ok_Split : callOk PR n_strings_Split = true := by decide +kernel
theorem ok_Sort : callOk PR n_slices_Sort_int_int = true := by decide +kernel
theorem ok_Compact : callOk PR n_slices_Compact_int_int = true := by decide +kernel

theorem c_strings_IndexByte (s : List UInt8) (c : Int) : PureC PR n_strings_IndexByte [.str s, .int .u8 c] (.int .i64 (Lib.indexByte s c.toNat.toUInt8)) := by
  refine pure_quiet ok_IndexByte rfl (fun es e => by cases e) (fun vs e => by cases e) fun w F vals hG hs hv => ?_
  obtain ⟨b, hb, rfl⟩ := rep_str (hv 0 (by simp) (by rw [hs]; simp))
  have h1 := rep_int (hv 1 (by simp) (by rw [hs]; simp))
  rw [arr2 hs hb h1]
  exact ⟨_, fun tb => .int _ _, Tryz.strings_IndexByte b c w⟩

theorem c_strings_Contains (s : List UInt8) (c : UInt8) : PureC PR n_strings_Contains [.str s, .str [c]] (.bool (s.contains c)) := by
  refine pure_quiet ok_Contains rfl (fun es e => by cases e) (fun vs e => by cases e) fun w F vals hG hs hv => ?_
  obtain ⟨b, hb, rfl⟩ := rep_str (hv 0 (by simp) (by rw [hs]; simp))
  obtain ⟨d, hd, h1⟩ := rep_str (hv 1 (by simp) (by rw [hs]; simp))
  have hd' : d = ⟨#[c]⟩ := by
    cases d with
    | mk a => congr 1; exact Array.toList_inj.1 (by simpa using h1)
  subst hd'
  rw [arr2 hs hb hd]
  refine ⟨_, fun tb => ?_, Tryz.strings_Contains_one b c w⟩
  rw [indexByte_mem]
  exact .bool _

theorem c_strings_Split (s : List UInt8) (c : UInt8) (hl : s.length < 4294967281) : PureC PR n_strings_Split [.str s, .str [c]] (.sl ((splitL c s).map VV.str) 0) := by
  refine pure_of ok_Split fun w F vals hG hF hs hv => ?_
  obtain ⟨b, hb, rfl⟩ := rep_str (hv 0 (by simp) (by rw [hs]; simp))
  obtain ⟨d, hd, h1⟩ := rep_str (hv 1 (by simp) (by rw [hs]; simp))
  have hd' : d = ⟨#[c]⟩ := by
    cases d with
    | mk a => congr 1; exact Array.toList_inj.1 (by simpa using h1)
  subst hd'
  rw [arr2 hs hb hd]
  obtain ⟨_, m, hm⟩ := hG
  refine calls_mono (Tryz.strings_Split b ⟨#[c]⟩ m w (by simpa using hl) hm (Nat.le_refl 1)) ?_
  rintro e w' ⟨rfl, rfl⟩
  have hne : Lib.splitB ⟨#[c]⟩ 0 (Lib.countB b ⟨#[c]⟩) b ≠ [] := by
    intro e
    have h := splitB_one c b
    rw [e] at h
    have := splitL_ne c b.data.toList
    simp at h
    exact this h
  have hlen : (Lib.splitB ⟨#[c]⟩ 0 (Lib.countB b ⟨#[c]⟩) b).length = Lib.countB b ⟨#[c]⟩ + 1 := by
    have h := congrArg List.length (splitB_one c b)
    simp only [List.length_map] at h
    rw [h, show Lib.countB b ⟨#[c]⟩ = b.data.toList.count c from countFrom_one c _ _ (by simp)]
    generalize b.data.toList = l
    clear h hne hm hb hd hs hv hl h1
    induction l with
    | nil => rfl
    | cons x r ih =>
      simp only [splitL]
      split
      · rename_i e; subst e; simp [ih]
      · rename_i e
        split
        · rename_i h t q
          rw [q] at ih
          simp only [List.length_cons] at ih ⊢
          rw [List.count_cons_of_ne e]
          exact ih
        · rename_i q; exact absurd q (splitL_ne c r)
  obtain ⟨F', q1, q2, q3⟩ := res_strs hF (w := w) hne (ty := 9)
  rw [hlen, splitB_one] at q3
  exact ⟨_, F', rfl, (BelowD.refl _ w).alloc (Nat.le_refl _) _, q1, q2, q3⟩

def sortI (zs : List Int) : List Int := zs.mergeSort fun x y => decide (x ≤ y)
theorem sortI_len (zs : List Int) : (sortI zs).length = zs.length := by simp [sortI]

theorem c_Sort_int {ob : List Go.V.Obj} {o : Nat} {zs : List Int} (ho : nthO ob o = .cells (intsV zs)) (hl : zs.length < 4611686018427387904) :
    ImpC PR n_slices_Sort_int_int [.row o 0 zs.length] ob (fun r ob' => r = .tup [] ∧ ob' = ob.set o (.cells (intsV (sortI zs)))) :=
  imp_row (X := fun _ _ => .tuple #[]) ok_Sort ho (sortI_len zs) (fun b cap w hH hb hc => Tryz.slices_Sort_int b 0 cap zs w hH hb hl)
    (fun B ob' g w b cap h1 h2 h3 => ⟨.tup rfl rfl (fun j hj => absurd hj (by simp)), fun j v x hv => by simp at hv, by simp [VV.ids, idsL]⟩)

theorem c_Sort_int0 : PureC PR n_slices_Sort_int_int [.sl [] 0] (.tup []) := by
  refine pure_of ok_Sort fun w F vals hG hF hs hv => ?_
  obtain ⟨a, cap, h0⟩ := rep_slE (hv 0 (by simp) (by rw [hs]; simp))
  rw [arr1 hs h0]
  refine calls_mono (Tryz.slices_Sort_int_none a cap w) ?_
  rintro e w' ⟨rfl, rfl⟩
  refine ⟨_, F, rfl, BelowD.refl _ _, hF, fun _ _ => rfl, fun tb => .tup rfl rfl (fun j hj => absurd hj (by simp)), by simp [VV.ids, idsL], trivial, fun vs xs e1 e2 => ?_⟩
  cases e1; cases e2
  exact ⟨fun j v y hv => by simp at hv, fun i j es es' hv => by simp at hv⟩

def compactI (zs : List Int) : List Int := Lib.compact zs
theorem compactI_le (zs : List Int) : (compactI zs).length ≤ zs.length := by
  simp only [compactI, Lib.compact, Lib.compactUpTo, List.length_map]
  exact Nat.le_trans (List.length_filter_le _ _) (by simp)

theorem c_Compact_int {ob : List Go.V.Obj} {o : Nat} {zs : List Int} (ho : nthO ob o = .cells (intsV zs)) (hl : zs.length ≤ 9223372036854775807) :
    ImpC PR n_slices_Compact_int_int [.row o 0 zs.length] ob (fun r ob' => r = .row o 0 (compactI zs).length ∧ ob' = ob.set o (.cells (intsV (compactI zs ++ List.replicate (zs.length - (compactI zs).length) 0)))) :=
  imp_row (X := fun b cap => .slice (some ⟨b, 0, none⟩) (compactI zs).length cap) ok_Compact ho (by have := compactI_le zs; simp; omega)
    (fun b cap w hH hb hc => calls_mono (Tryz.slices_Compact_int b 0 cap zs w hH hl hc) (by
      rintro e w' ⟨rfl, q, rfl⟩
      exact ⟨rfl, q, #[], by rw [grow_empty]; rfl⟩))
    (fun B ob' g w b cap h1 h2 h3 => ⟨.row h2 (Nat.le_trans (compactI_le zs) h1), trivial, by simp [VV.ids, h3]⟩)

theorem c_Compact_int0 : PureC PR n_slices_Compact_int_int [.sl [] 0] (.sl [] 0) := by
  refine pure_of ok_Compact fun w F vals hG hF hs hv => ?_
  obtain ⟨a, cap, h0⟩ := rep_slE (hv 0 (by simp) (by rw [hs]; simp))
  rw [arr1 hs h0]
  refine calls_mono (Tryz.slices_Compact_int_empty a cap w) ?_
  rintro e w' ⟨rfl, rfl⟩
  exact ⟨_, F, rfl, BelowD.refl _ _, hF, fun _ _ => rfl, ResR.plain (fun tb => .slE) (by simp [VV.ids]) (fun es e => by cases e) (fun vs e => by cases e)⟩
end Go.Proofs
