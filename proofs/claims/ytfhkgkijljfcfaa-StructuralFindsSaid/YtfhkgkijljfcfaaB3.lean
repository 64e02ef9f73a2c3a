/- V, proofs: the functions of chapter 12's shapes answer with a bool. -/
import Derived.Test.YtfhkgkijljfcfaaB1
import Derived.Test.YtfhkgkijljfcfaaA4
set_option linter.unusedVariables false
set_option linter.unusedSimpArgs false
namespace Go.Proofs
open Go.V Go.RowKit

theorem endP_ret {vf : VF} {R : VV → Prop} {st : St} : EndP vf R .ret st = ∃ r, ((closeM st.marks st.ob).bind fun ob' => (resOfL ⟨st.env, ob'⟩ vf.results).bind (outR vf.fresh ob')) = some r ∧ r.ids 0 = true ∧ R r := by
  simp [EndP]
theorem endP_nrm {vf : VF} {R : VV → Prop} {st : St} : EndP vf R .nrm st = ∃ r, ((closeM st.marks st.ob).bind fun ob' => (resOfL ⟨st.env, ob'⟩ vf.results).bind (outR vf.fresh ob')) = some r ∧ r.ids 0 = true ∧ R r := by
  simp [EndP]
theorem endP_ext {vf : VF} {R : VV → Prop} {st : St} {id : Nat} : EndP vf R (.ext id) st = False := by
  simp [EndP]
attribute [go_sem] endP_ret endP_nrm endP_ext
def isBo (r : VV) : Prop := ∃ b, r = .bool b
def EB (f : Nat) (args : List VV) : Prop := ∃ b, PureC Try.prog f args (.bool b)
theorem eb_of {f : Nat} {vf : VF} (hm : mFn Try.prog f vf = true) {args : List VV} (hl : args.length = vf.params) (ha : args.all argOk = true)
    (h : WpP Try.prog vf.body { env := envA 0 args, ob := [], base := 0 } (EndP vf isBo)) : EB f args := by
  obtain ⟨r, ⟨b, rfl⟩, hp⟩ := pure_ex hm hl ha h
  exact ⟨b, hp⟩
theorem bo_ex {b : Bool} : ∃ r, some (VV.bool b) = some r ∧ r.ids 0 = true ∧ isBo r := ⟨_, rfl, rfl, _, rfl⟩
theorem get_map {α : Type} (f : α → VV) {l : List α} {i : Nat} (h : i < l.length) : (l.map f)[i]? = some (f l[i]) := by
  simp [h]
theorem str_get {s : List UInt8} {i : Nat} (h : i < s.length) : s[i]? = some s[i] := List.getElem?_eq_getElem h

theorem f65 (w : List UInt8) : EB 65 [.str w] := by
  refine eb_of m65 rfl (by simp [argOk_str]) ?_
  unfold v65
  simp only [go_sem, pe_regG]
  repeat' first
    | with_reducible exact bo_ex
    | (with_reducible refine pif_s (fun h => ?_) (fun h => ?_) <;> simp only [go_sem, h])
    | (with_reducible refine pg_s (fun h => ?_) (fun h => ?_) <;> simp only [go_sem, h])

def kwR : List (List UInt8) := [[105, 109, 112, 111, 114, 116], [99, 108, 97, 115, 115], [105, 110, 116, 101, 114, 102, 97, 99, 101], [101, 120, 116, 101, 110, 100, 115], [105, 109, 112, 108, 101, 109, 101, 110, 116, 115], [102, 117, 110, 99], [118, 97, 114], [114, 101, 116, 117, 114, 110], [105, 102], [101, 108, 115, 101], [119, 104, 105, 108, 101], [110, 101, 119], [116, 114, 117, 101], [102, 97, 108, 115, 101], [110, 117, 108, 108], [116, 104, 105, 115]]
theorem f67 (w : List UInt8) : EB 67 [.str w] := by
  refine eb_of m67 rfl (by simp [argOk_str]) ?_
  unfold v67
  simp only [go_sem]
  refine pv_for (good := fun i => i ≤ 16) (m := fun i => 16 - i)
    (E := fun i => [(0, .str w), (3, .sl (kwR.map .str) 0), (4, .int .i64 i)]) (O := fun _ => [])
    (by intro i _; simp [go_sem, Obj.idsB]) rfl ?_ 0 _ (by omega) rfl rfl rfl rfl
  intro i hi
  have hk : kwR.length = 16 := rfl
  simp only [go_sem, hk]
  refine pif_s (fun ht => ?_) (fun hf => ?_)
  · have hlt : i < 16 := by
      have := of_decide_eq_true ht
      omega
    have g1 := get_map VV.str (l := kwR) (i := i) (by omega)
    simp only [go_sem, g1]
    refine pif_s (fun h => ?_) (fun h => ?_) <;> simp only [go_sem]
    · exact bo_ex
    · exact ⟨i + 1, by omega, by simp only; omega, by simp [go_sem, wrap_succ (n := i) (by omega)], rfl, rfl, rfl⟩
  · simp only [go_sem]
    exact bo_ex


theorem f59 (s : List UInt8) (hs : s.length ≤ maxLen) : EB 59 [.str s] := by
  refine eb_of m59 rfl (by simp [argOk_str]) ?_
  obtain ⟨b67, h67⟩ := f67 s
  unfold v59
  simp only [go_sem]
  refine p_regm (E := fun b => [(0, .str s), (26, .bool b)]) (O := []) ?_ (fun b => ?_)
  · cases s with
    | nil =>
      have hz : decide (((0 : Nat) : Int) < 1) = true := rfl
      simp only [go_sem, hz]
      repeat' first
        | with_reducible exact ⟨_, rfl⟩
        | (with_reducible refine pif_s (fun h => ?_) (fun h => ?_) <;> simp only [go_sem, h])
        | (with_reducible refine pg_s (fun h => ?_) (fun h => ?_) <;> simp only [go_sem, h])
        | (with_reducible refine pcall h67 (by simp [go_sem]) (by simp [go_sem]) ?_; simp only [go_sem])
    | cons c r =>
      simp only [go_sem, byteInt]
      repeat' first
        | with_reducible exact ⟨_, rfl⟩
        | (with_reducible refine pif_s (fun h => ?_) (fun h => ?_) <;> simp only [go_sem, h, byteInt])
        | (with_reducible refine pg_s (fun h => ?_) (fun h => ?_) <;> simp only [go_sem, h, byteInt])
        | (with_reducible refine pcall h67 (by simp [go_sem]) (by simp [go_sem]) ?_; simp only [go_sem, byteInt])
  · simp only [go_sem]
    refine pif_s (fun h => ?_) (fun h => ?_) <;> simp only [go_sem]
    · exact bo_ex
    refine pv_for (good := fun i => i ≤ s.length) (m := fun i => s.length - i)
      (E := fun i => [(0, .str s), (3, .int .i64 i)]) (O := fun _ => [])
      (by intro i _; simp [go_sem, Obj.idsB]) rfl ?_ 0 _ (by omega) rfl rfl rfl rfl
    intro i hi
    simp only [go_sem]
    refine pif_s (fun ht => ?_) (fun hf => ?_)
    · have hlt : i < s.length := by simpa using ht
      have g1 := str_get hlt
      simp only [go_sem, g1, byteInt]
      refine p_regm (E := fun b => [(0, .str s), (3, .int .i64 i), (62, .bool b)]) (O := []) ?_ (fun b => ?_)
      · simp only [go_sem]
        repeat' first
          | with_reducible exact ⟨_, rfl⟩
          | (with_reducible refine pg_s (fun h => ?_) (fun h => ?_) <;> simp only [go_sem, h, byteInt])
      · simp only [go_sem]
        refine pif_s (fun h => ?_) (fun h => ?_) <;> simp only [go_sem]
        · exact bo_ex
        · exact ⟨i + 1, by omega, by simp only; omega, by simp [go_sem, wrap_len hlt hs], rfl, rfl, rfl⟩
    · simp only [go_sem]
      exact bo_ex

attribute [go_sem] bo bound Option.isSome_none Option.isNone_none Option.isSome_some Option.isNone_some false_and and_false or_self Int.ofNat_le

theorem f58 (s : List UInt8) (hs : s.length ≤ maxLen) : EB 58 [.str s] := by
  refine eb_of m58 rfl (by simp [argOk_str]) ?_
  unfold v58
  simp only [go_sem]
  refine pv_for (good := fun i => i ≤ s.length) (m := fun i => s.length - i)
    (E := fun i => [(0, .str s), (3, .int .i64 i)]) (O := fun _ => [])
    (by intro i _; simp [go_sem, Obj.idsB]) rfl ?_ 0 _ (by omega) rfl rfl rfl rfl
  intro i hi
  simp only [go_sem]
  refine pif_s (fun ht => ?_) (fun hf => ?_)
  · have hlt : i < s.length := by simpa using ht
    have g1 := str_get hlt
    have w := wrap_len hlt hs
    obtain ⟨b1, h1⟩ := f59 (s.take i) (by simp; omega)
    obtain ⟨b2, h2⟩ := f59 (s.drop (i + 1)) (by simp; omega)
    have hlt' : i + 1 ≤ s.length := hlt
    simp only [go_sem, g1, byteInt]
    refine pif_s (fun h => ?_) (fun h => ?_) <;> simp only [go_sem, pe_regG, hi]
    · refine pcall h1 (by simp [go_sem]) (by simp [go_sem]) ?_
      simp only [go_sem]
      refine pg_s (fun h => ?_) (fun h => ?_) <;> simp only [go_sem, h, w, hlt', List.take_length]
      · refine pcall h2 (by simp [go_sem]) (by simp [go_sem]) ?_
        simp only [go_sem, h]
        exact bo_ex
      · exact bo_ex
    · exact ⟨i + 1, by omega, by simp only; omega, by simp [go_sem, w], rfl, rfl, rfl⟩
  · obtain ⟨b, h1⟩ := f59 s hs
    simp only [go_sem]
    refine pcall h1 (by simp [go_sem]) (by simp [go_sem]) ?_
    simp only [go_sem]
    exact bo_ex

theorem f63 (s : List UInt8) (hs : s.length ≤ maxLen) : EB 63 [.str s] := by
  refine eb_of m63 rfl (by simp [argOk_str]) ?_
  unfold v63
  simp only [go_sem]
  refine p_regm (E := fun b => [(0, .str s), (21, .bool b)]) (O := []) ?_ (fun b => ?_)
  · cases s with
    | nil =>
      have hz : decide (((0 : Nat) : Int) < 1) = true := rfl
      simp only [go_sem, hz]
      exact ⟨_, rfl⟩
    | cons c r =>
      simp only [go_sem, byteInt]
      repeat' first
        | with_reducible exact ⟨_, rfl⟩
        | (with_reducible refine pg_s (fun h => ?_) (fun h => ?_) <;> simp only [go_sem, h, byteInt])
  · simp only [go_sem]
    refine pif_s (fun h => ?_) (fun h => ?_) <;> simp only [go_sem]
    · exact bo_ex
    refine pv_for (good := fun i => i ≤ s.length) (m := fun i => s.length - i)
      (E := fun i => [(0, .str s), (3, .int .i64 i)]) (O := fun _ => [])
      (by intro i _; simp [go_sem, Obj.idsB]) rfl ?_ 0 _ (by omega) rfl rfl rfl rfl
    intro i hi
    simp only [go_sem]
    refine pif_s (fun ht => ?_) (fun hf => ?_)
    · have hlt : i < s.length := by simpa using ht
      have g1 := str_get hlt
      simp only [go_sem]
      refine p_regm (E := fun b => [(0, .str s), (3, .int .i64 i), (37, .bool b)]) (O := []) ?_ (fun b => ?_)
      · simp only [go_sem, g1, byteInt]
        repeat' first
          | with_reducible exact ⟨_, rfl⟩
          | (with_reducible refine pg_s (fun h => ?_) (fun h => ?_) <;> simp only [go_sem, h, g1, byteInt])
      · simp only [go_sem]
        refine pif_s (fun h => ?_) (fun h => ?_) <;> simp only [go_sem]
        · exact bo_ex
        · exact ⟨i + 1, by omega, by simp only; omega, by simp [go_sem, wrap_len hlt hs], rfl, rfl, rfl⟩
    · simp only [go_sem]
      exact bo_ex

theorem f64 (s : List UInt8) (hs : s.length ≤ maxLen) : EB 64 [.str s] := by
  refine eb_of m64 rfl (by simp [argOk_str]) ?_
  unfold v64
  simp only [go_sem]
  refine pif_s (fun h => ?_) (fun h => ?_) <;> simp only [go_sem]
  · exact bo_ex
  refine pv_for (good := fun i => i ≤ s.length) (m := fun i => s.length - i)
    (E := fun i => [(0, .str s), (3, .int .i64 i)]) (O := fun _ => [])
    (by intro i _; simp [go_sem, Obj.idsB]) rfl ?_ 0 _ (by omega) rfl rfl rfl rfl
  intro i hi
  simp only [go_sem]
  refine pif_s (fun ht => ?_) (fun hf => ?_)
  · have hlt : i < s.length := by simpa using ht
    have g1 := str_get hlt
    simp only [go_sem]
    refine p_regm (E := fun b => [(0, .str s), (3, .int .i64 i), (28, .bool b)]) (O := []) ?_ (fun b => ?_)
    · simp only [go_sem, g1, byteInt]
      repeat' first
        | with_reducible exact ⟨_, rfl⟩
        | (with_reducible refine pg_s (fun h => ?_) (fun h => ?_) <;> simp only [go_sem, h, g1, byteInt])
    · simp only [go_sem]
      refine pif_s (fun h => ?_) (fun h => ?_) <;> simp only [go_sem]
      · exact bo_ex
      · exact ⟨i + 1, by omega, by simp only; omega, by simp [go_sem, wrap_len hlt hs], rfl, rfl, rfl⟩
  · simp only [go_sem]
    exact bo_ex

theorem f69 (n : Int) : ∃ l : List (List UInt8), l.length ≤ 3 ∧ PureC Try.prog 69 [.int .i64 n] (.sl (l.map .str) 0) := by
  obtain ⟨r, ⟨l, hl, rfl⟩, hp⟩ := pure_ex (R := fun r => ∃ l : List (List UInt8), l.length ≤ 3 ∧ r = .sl (l.map .str) 0) m69 (args := [.int .i64 n]) rfl (by simp [argOk_int]) (by
    unfold v69
    simp only [go_sem, VV.canon, VV.canon0]
    repeat' first
      | exact ⟨_, rfl, rfl, [_], by simp, rfl⟩
      | exact ⟨_, rfl, rfl, [_, _], by simp, rfl⟩
      | exact ⟨_, rfl, rfl, [_, _, _], by simp, rfl⟩
      | (with_reducible refine pif_s (fun h => ?_) (fun h => ?_) <;> simp only [go_sem, h, VV.canon, VV.canon0]))
  exact ⟨l, hl, hp⟩

theorem f66 (w : List UInt8) : EB 66 [.str w] := by
  refine eb_of m66 rfl (by simp [argOk_str]) ?_
  unfold v66
  simp only [go_sem]
  refine pv_for (good := fun i => i ≤ 6) (m := fun i => 6 - i)
    (E := fun i => [(0, .str w), (3, .int .i64 i)]) (O := fun _ => [])
    (by intro i _; simp [go_sem, Obj.idsB]) rfl ?_ 0 _ (by omega) rfl rfl rfl rfl
  intro i hi
  simp only [go_sem]
  refine pif_s (fun ht => ?_) (fun hf => ?_)
  · have hlt : i < 6 := by
      have := of_decide_eq_true ht
      omega
    obtain ⟨l, hl, hp⟩ := f69 i
    simp only [go_sem]
    refine pcall hp (by simp [go_sem]) (by simp [go_sem]) ?_
    simp only [go_sem]
    refine pv_for (good := fun j => j ≤ l.length) (m := fun j => l.length - j)
      (E := fun j => [(0, .str w), (3, .int .i64 i), (4, .sl (l.map .str) 0), (5, .int .i64 j)]) (O := fun _ => [])
      (by intro i _; simp [go_sem, Obj.idsB]) rfl ?_ 0 _ (by omega) rfl rfl rfl rfl
    intro j hj
    simp only [go_sem]
    refine pif_s (fun ht => ?_) (fun hf => ?_)
    · have hjt : j < l.length := by simpa using ht
      have g1 := get_map VV.str hjt
      simp only [go_sem, g1]
      refine pif_s (fun h => ?_) (fun h => ?_) <;> simp only [go_sem]
      · exact bo_ex
      · exact ⟨j + 1, by omega, by simp only; omega, by simp [go_sem, wrap_succ (n := j) (by omega)], rfl, rfl, rfl⟩
    · simp only [go_sem]
      exact ⟨i + 1, by omega, by simp only; omega, by simp [go_sem, wrap_succ (n := i) (by omega)], rfl, rfl, rfl⟩
  · simp only [go_sem]
    exact bo_ex
end Go.Proofs

/- V, proofs: fits and its kin of chapter 12 answer with a bool. -/
set_option linter.unusedVariables false
set_option linter.unusedSimpArgs false
namespace Go.Proofs
open Go.V Go.RowKit

attribute [go_sem] Int.cast_ofNat_Int Int.reduceBEq Int.reduceBNe Int.reduceGT Int.reduceGE decide_false

theorem one_le_succ {n : Nat} : ((1 : Int) ≤ ((n + 1 : Nat) : Int)) = True := by
  simp only [eq_iff_iff, iff_true]; omega
theorem take_map_len {α : Type} {f : α → VV} {l : List α} : (l.map f).take l.length = l.map f := List.take_of_length_le (by simp)
attribute [go_sem] one_le_succ take_map_len

theorem pcallE {f : Nat} {args : List VV} {d : Option Nat} {st : St} {k : St → Prop} (h : EB f (args.map VV.strip)) (hi : (args.map VV.strip).all (fun v => v.ids 0 && v.noTup) = true) (hk : ∀ b, k { st with env := putD st.env d (.bool b) }) : CallP Try.prog f args none d st k := by
  obtain ⟨b, hp⟩ := h
  exact pcall hp rfl hi (hk b)

def ES (n : Nat) (es : List VV) : Prop := ∀ e ∈ es, ∃ k, e = eN k ∧ SizeOf.sizeOf k < n ∧ okN k
theorem es_nil {n : Nat} : ES n [] := nofun
theorem es_cons {n : Nat} {k : Nd} {es : List VV} (h1 : SizeOf.sizeOf k < n) (h2 : okN k) (h3 : ES n es) : ES n (eN k :: es) := fun e he => by
  rcases List.mem_cons.1 he with rfl | he
  · exact ⟨k, rfl, h1, h2⟩
  · exact h3 e he
theorem es_map {n : Nat} {l : List Nd} (h : ∀ k ∈ l, SizeOf.sizeOf k < n ∧ okN k) : ES n (l.map eN) := fun e he => by
  obtain ⟨k, hk, rfl⟩ := List.mem_map.1 he
  exact ⟨k, rfl, h k hk⟩
theorem es_kids {d : Nd} {n : Nat} (h : SizeOf.sizeOf d ≤ n) (ho : okN d) : ES n (d.kids.map eN) := by
  obtain ⟨k, t, a, e, ks⟩ := d
  obtain ⟨_, _, _, _, _, hk⟩ := ho
  refine es_map fun x hx => ⟨?_, okNs_iff.1 hk x hx⟩
  have := List.sizeOf_lt_of_mem (show x ∈ ks from hx)
  simp only [Nd.mk.sizeOf_spec] at h
  omega

/-- fits, for smaller nodes -/
def FT (n : Nat) : Prop := ∀ k, SizeOf.sizeOf k < n → okN k → ∀ w m, EB 51 [eN k, .int .i64 w, .bool m]

theorem f60 {n : Nat} (ft : FT n) {es : List VV} (hl : es.length ≤ maxLen) (he : ES n es) (w : Int) (m : Bool) : EB 60 [.sl es 0, .int .i64 w, .bool m] := by
  refine eb_of m60 rfl (by simp [argOk_sl, argOk_int, argOk]; simp [VV.noHnd, VV.noHnd0, VV.ids]) ?_
  unfold v60
  simp only [go_sem]
  refine pv_for (good := fun i => i ≤ es.length) (m := fun i => es.length - i)
    (E := fun i => [(0, .sl es 0), (1, .int .i64 w), (2, .bool m), (7, .int .i64 i)]) (O := fun _ => [])
    (by intro i _; simp [go_sem, Obj.idsB]) rfl ?_ 0 _ (by omega) rfl rfl rfl rfl
  intro i hi
  simp only [go_sem]
  refine pif_s (fun ht => ?_) (fun hf => ?_)
  · have hlt : i < es.length := by simpa using ht
    obtain ⟨k, hk, h1, h2⟩ := he _ (List.getElem_mem hlt)
    have g1 : es[i]? = some (eN k) := by rw [List.getElem?_eq_getElem hlt, hk]
    simp only [go_sem, g1, eN_cells, eN_fold]
    refine pcallE (by simp only [go_sem]; exact ft _ h1 h2 _ _) (by simp [go_sem]) (fun b => ?_)
    simp only [go_sem]
    refine pif_s (fun h => ?_) (fun h => ?_) <;> simp only [go_sem]
    · exact bo_ex
    · exact ⟨i + 1, by omega, by simp only; omega, by simp [go_sem, wrap_len hlt hl], rfl, rfl, rfl⟩
  · simp only [go_sem]
    exact bo_ex

theorem argOk_bool {b : Bool} : argOk (.bool b) = true := by simp [argOk, VV.noHnd, VV.noHnd0, VV.ids]

theorem f68 {n : Nat} (ft : FT n) {d : Nd} (hs : SizeOf.sizeOf d ≤ n) (ho : okN d) (w a b : Int) (m : Bool) : EB 68 [eN d, .int .i64 w, .int .i64 a, .int .i64 b, .bool m] := by
  refine eb_of m68 rfl (by simp [argOk_int, argOk_bool, eN_argOk]) ?_
  have hl : (d.kids.map eN).length ≤ maxLen := by
    obtain ⟨_, _, _, _, ks⟩ := d
    obtain ⟨_, _, _, _, hl, _⟩ := ho
    simpa [Nd.kids] using hl
  have h60 := f60 ft hl (es_kids hs ho)
  simp only [eN_agg]
  unfold v68
  simp only [go_sem, pe_regG]
  repeat' first
    | with_reducible exact bo_ex
    | (with_reducible refine pif_s (fun h => ?_) (fun h => ?_) <;> simp only [go_sem, h])
    | (with_reducible refine pg_s (fun h => ?_) (fun h => ?_) <;> simp only [go_sem, h])
    | (refine pcallE (by simp only [go_sem]; exact h60 _ _) (by simp [go_sem]) (fun b => ?_); simp only [go_sem])

theorem f56 (d : Nd) (ho : okN d) (w : Int) : EB 56 [eN d, .int .i64 w] := by
  refine eb_of m56 rfl (by simp [argOk_int, argOk_bool, eN_argOk]) ?_
  have h59 : EB 59 [.str d.text] := f59 _ (by obtain ⟨_, _, _, _, ks⟩ := d; exact ho.2.2.2.1)
  simp only [eN_agg]
  unfold v56
  simp only [go_sem, pe_regG]
  repeat' first
    | with_reducible exact bo_ex
    | (with_reducible refine pif_s (fun h => ?_) (fun h => ?_) <;> simp only [go_sem, pe_regG, h])
    | (with_reducible refine pg_s (fun h => ?_) (fun h => ?_) <;> simp only [go_sem, pe_regG, h])
    | (refine pcallE (by simp only [go_sem]; exact h59) (by simp [go_sem]) (fun b => ?_); simp only [go_sem, pe_regG])
end Go.Proofs
