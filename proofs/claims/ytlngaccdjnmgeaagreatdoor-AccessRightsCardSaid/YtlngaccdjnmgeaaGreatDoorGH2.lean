/- V, proofs: the document's paths: last, ValidPath, Simple, name. -/
import Derived.Test.YtlngaccdjnmgeaaGreatDoorGH1
set_option linter.unusedVariables false
set_option linter.unusedSimpArgs false
namespace Go.Proofs
open Go.V Go.RowKit

def lastF (s : List UInt8) (c : UInt8) : Nat → Int
  | 0 => -1
  | i + 1 => if (((s.getD i 0).toNat : Int) == (c.toNat : Int)) = true then (i : Int) else lastF s c i
theorem lastF_neg {s : List UInt8} {c : UInt8} : ∀ n, n ≤ s.length → decide (lastF s c n < 0) = !((s.take n).any fun b => (b.toNat : Int) == (c.toNat : Int))
  | 0, _ => rfl
  | n + 1, h => by
    have hb : s[n]'(by omega) = s.getD n 0 := by simp [List.getD_eq_getElem?_getD, show n < s.length by omega]
    rw [any_take (by omega), lastF, ← hb]
    cases hq : (((s[n]'(by omega)).toNat : Int) == (c.toNat : Int)) with
    | true => simp
    | false => simp only [Bool.false_eq_true, if_false, Bool.or_false]; exact lastF_neg n (by omega)
theorem c_R02_last (s : List UInt8) (c : UInt8) (hl : s.length ≤ maxLen) : PureC PR n_R02_last [.str s, byteInt c] (.int .i64 (lastF s c s.length)) := by
  refine pure_of_wp m_R02_last rfl (by simp [argOk_str, byteInt, argOk_int]) ?_
  unfold FnW v_R02_last
  simp only [go_sem, byteInt]
  refine v_for (α := Nat) (base := 0) (marks := []) (pu := true) (good := fun i => i ≤ s.length) (m := fun i => s.length - i)
    (E := fun i => [(0, .str s), (1, .int .u8 c.toNat), (5, .int .i64 (lastF s c i)), (6, .int .i64 i)]) (O := fun _ => [])
    (by intro i _; simp [go_sem, Obj.idsB]) rfl ?_ 0 _ (by omega) rfl rfl rfl rfl rfl
  intro i hi
  simp only [go_sem]
  refine if_s (fun ht => ?_) (fun hf => ?_)
  · have hlt := len_lt ht
    have gi := get_byte (s := s) (i := i) hlt
    have hi0 : (0 : Int) ≤ (i : Int) := by omega
    simp only [go_sem, gi, hi0, byteInt]
    refine if_s (fun h => ?_) (fun h => ?_) <;> simp only [go_sem]
    · exact ⟨i + 1, by omega, by simp only; omega, by simp only [go_sem, wrap_len hlt hl, lastF, h, if_true], rfl, rfl, rfl, rfl⟩
    · exact ⟨i + 1, by omega, by simp only; omega, by simp only [go_sem, wrap_len hlt hl, lastF, h, if_false, Bool.false_eq_true], rfl, rfl, rfl, rfl⟩
  · have hie : i = s.length := by have := len_ge hf; omega
    subst hie
    simp only [go_sem]

def is47 (c : UInt8) : Bool := (c.toNat : Int) == 47
theorem is47_eq {c : UInt8} (h : is47 c = true) : c = 47 := toNat_int (n := 47) h (by decide)
theorem no47 {l : List UInt8} (h : l.any is47 = false) : (47 : UInt8) ∉ l := by
  intro hm
  rw [List.any_eq_false] at h
  exact h 47 hm rfl

theorem c_R02_ValidPath (p : List UInt8) : PureC PR n_R02_ValidPath [.str p] (.bool (validS p)) := by
  refine pure_of_wp m_R02_ValidPath rfl (by simp [argOk_str]) ?_
  unfold FnW v_R02_ValidPath
  simp only [go_sem]
  refine if_s (fun h => ?_) (fun h => ?_) <;> simp only [go_sem]
  · simp only [validS, h, if_true]
  have hl : p.length ≤ 60 := by simp at h; omega
  have hv : validS p = (splitL 47 p).all nameOk := by simp only [validS, h]; rfl
  rw [hv]
  refine v_for (α := Nat × Nat) (base := 0) (marks := []) (pu := true)
    (good := fun x => x.2 ≤ p.length + 1 ∧ (x.2 ≤ p.length → x.1 ≤ x.2 ∧ ((p.drop x.1).take (x.2 - x.1)).any is47 = false ∧ (splitL 47 (p.drop x.1)).all nameOk = (splitL 47 p).all nameOk) ∧ (x.2 = p.length + 1 → (splitL 47 p).all nameOk = true)) (m := fun x => p.length + 1 - x.2)
    (E := fun x => [(0, .str p), (3, .int .i64 x.1), (4, .int .i64 x.2)]) (O := fun _ => [])
    (by intro i _; simp [go_sem, Obj.idsB]) rfl ?_ (0, 0) _ ⟨by simp, fun _ => ⟨by simp, rfl, rfl⟩, fun h => by simp at h⟩ rfl rfl rfl rfl rfl
  rintro ⟨b, i⟩ ⟨hi, hin, hend⟩
  simp only at hi hin hend
  simp only [go_sem]
  refine if_s (fun ht => ?_) (fun hf => ?_)
  case refine_2 =>
    have hie : i = p.length + 1 := by
      have : ¬ (i : Int) ≤ (p.length : Int) := by simpa using hf
      omega
    rw [hend hie]
    simp only [go_sem]
  have hip : i ≤ p.length := by simpa using ht
  obtain ⟨hbi, hno, hall⟩ := hin hip
  have hw : IntKind.i64.wrap ((i : Int) + 1) = ((i + 1 : Nat) : Int) := wrap_succ (by omega)
  have hbi' : b ≤ i := hbi
  have htd : (p.take i).drop b = (p.drop b).take (i - b) := List.drop_take
  have hseg : (47 : UInt8) ∉ (p.drop b).take (i - b) := no47 hno
  cases hie : ((i : Int) == (p.length : Int)) with
  | true =>
    have hi2 : i = p.length := by
      have : (i : Int) = (p.length : Int) := by simpa using hie
      omega
    have hfull : (p.drop b).take (i - b) = p.drop b := by rw [List.take_of_length_le]; simp; omega
    rw [hfull] at hseg htd
    have hsp : splitL 47 (p.drop b) = [p.drop b] := splitL_none 47 _ hseg
    rw [hsp] at hall
    simp only [List.all_cons, List.all_nil, Bool.and_true] at hall
    simp only [go_sem, hie, bnd hip, bnd hbi', htd]
    refine callW_pure (c_R02_name (p.drop b)) (by simp only [go_sem]) (by simp only [go_sem]) ?_
    simp only [go_sem]
    cases hN : nameOk (p.drop b) with
    | false =>
      rw [hN] at hall
      rw [← hall]
      simp only [go_sem]
    | true =>
      rw [hN] at hall
      simp only [go_sem, hw]
      refine ⟨(i + 1, i + 1), ⟨by simp only; omega, fun h => ?_, fun _ => hall.symm⟩, by simp only; omega, by simp only [go_sem], rfl, rfl, rfl, rfl⟩
      simp only at h
      omega
  | false =>
    have hlt : i < p.length := by
      have : ¬ (i : Int) = (p.length : Int) := by simpa using hie
      omega
    have gi := get_byte (s := p) (i := i) hlt
    have hi0 : (0 : Int) ≤ (i : Int) := by omega
    simp only [go_sem, hie, gi, hi0, byteInt]
    have hib : i - b < (p.drop b).length := by simp; omega
    have hge : (p.drop b)[i - b] = p.getD i 0 := by
      simp [List.getD_eq_getElem?_getD, hlt, Nat.add_sub_cancel' hbi']
    cases h47 : (((p.getD i 0).toNat : Int) == 47) with
    | true =>
      have hp47 : p.getD i 0 = 47 := is47_eq h47
      have hcut : p.drop b = (p.drop b).take (i - b) ++ 47 :: p.drop (i + 1) := by
        conv => lhs; rw [← List.take_append_drop (i - b) (p.drop b)]
        congr 1
        rw [List.drop_eq_getElem_cons hib, hge, hp47, List.drop_drop]
        congr 2
        omega
      have hsp : splitL 47 (p.drop b) = (p.drop b).take (i - b) :: splitL 47 (p.drop (i + 1)) := by
        conv => lhs; rw [hcut]
        exact splitL_at 47 _ _ hseg
      rw [hsp] at hall
      simp only [List.all_cons] at hall
      simp only [go_sem, bnd hip, bnd hbi', htd]
      refine callW_pure (c_R02_name ((p.drop b).take (i - b))) (by simp only [go_sem]) (by simp only [go_sem]) ?_
      simp only [go_sem]
      cases hN : nameOk ((p.drop b).take (i - b)) with
      | false =>
        rw [hN, Bool.false_and] at hall
        rw [← hall]
        simp only [go_sem]
      | true =>
        rw [hN, Bool.true_and] at hall
        simp only [go_sem, hw]
        refine ⟨(i + 1, i + 1), ⟨by simp only; omega, fun h => ⟨Nat.le_refl _, ?_, hall⟩, fun h => ?_⟩, by simp only; omega, by simp only [go_sem], rfl, rfl, rfl, rfl⟩
        · simp
        · simp only at h
          omega
    | false =>
      simp only [go_sem]
      refine ⟨(b, i + 1), ⟨by simp only; omega, fun h => ⟨by simp only; omega, ?_, hall⟩, fun h => ?_⟩, by simp only; omega, by simp only [go_sem, hw], rfl, rfl, rfl, rfl⟩
      · simp only
        have e : i + 1 - b = (i - b) + 1 := by omega
        rw [e, any_take hib, hno, hge, is47, h47]; rfl
      · simp only at h
        omega

def simpleR (p : List UInt8) : Bool := validS p && !p.any is47
theorem valid_len {p : List UInt8} (h : validS p = true) : p.length ≤ 60 := by
  unfold validS at h
  split at h
  · cases h
  · rename_i q; simp at q; omega
theorem c_R02_Simple (p : List UInt8) : PureC PR n_R02_Simple [.str p] (.bool (simpleR p)) := by
  refine pure_of_wp m_R02_Simple rfl (by simp [argOk_str]) ?_
  unfold FnW v_R02_Simple
  simp only [go_sem]
  refine callW_pure (c_R02_ValidPath p) (by simp only [go_sem]) (by simp only [go_sem]) ?_
  simp only [go_sem]
  cases hv : validS p with
  | false => simp only [go_sem, simpleR, hv, Bool.false_and]
  | true =>
    simp only [go_sem]
    have hl := valid_len hv
    refine callW_pure (c_R02_last p 47 (by rw [maxLen_eq]; omega)) (by simp only [go_sem, byteInt]; rfl) (by simp only [go_sem, byteInt]) ?_
    have e : decide (lastF p 47 p.length < 0) = !p.any is47 := by
      have := lastF_neg (s := p) (c := 47) p.length (Nat.le_refl _)
      rw [List.take_length] at this
      exact this
    simp only [go_sem, e, simpleR, hv, Bool.true_and]
theorem c_R44_name (p : List UInt8) (hl : p.length ≤ maxLen) : PureC PR n_R44_name [.str p] (.bool (simpleR p)) := by
  refine pure_of_wp m_R44_name rfl (by simp [argOk_str]) ?_
  unfold FnW v_R44_name
  simp only [go_sem]
  refine v_for (α := Nat) (base := 0) (marks := []) (pu := true) (good := fun i => i ≤ p.length ∧ (p.take i).any is47 = false) (m := fun i => p.length - i)
    (E := fun i => [(0, .str p), (3, .int .i64 i)]) (O := fun _ => [])
    (by intro i _; simp [go_sem, Obj.idsB]) rfl ?_ 0 _ ⟨by omega, rfl⟩ rfl rfl rfl rfl rfl
  rintro i ⟨hi, hp⟩
  simp only [go_sem]
  refine if_s (fun ht => ?_) (fun hf => ?_)
  · have hlt := len_lt ht
    have gi := List.getElem?_eq_getElem hlt
    have hi0 : (0 : Int) ≤ (i : Int) := by omega
    simp only [go_sem, gi, hi0, byteInt]
    refine if_s (fun h => ?_) (fun h => ?_) <;> simp only [go_sem]
    · rw [simpleR, any_stop hlt (by exact h)]; simp
    · exact ⟨i + 1, ⟨by omega, any_step hlt hp (by exact h)⟩, by simp only; omega, by simp only [go_sem, wrap_len hlt hl], rfl, rfl, rfl, rfl⟩
  · have hn := any_end (len_ge hf) hp
    simp only [go_sem]
    refine callW_pure (c_R02_ValidPath p) (by simp only [go_sem]) (by simp only [go_sem]) ?_
    simp only [go_sem, simpleR, hn, Bool.not_false, Bool.and_true]
end Go.Proofs
