/- V, proofs: expressions, declarations, statements of chapter 12's shapes answer with a bool. -/
import Derived.Test.YtfhkgkijljfcfaaB3
set_option linter.unusedVariables false
set_option linter.unusedSimpArgs false
namespace Go.Proofs
open Go.V Go.RowKit

theorem eN_mk (k : Int) (t : List UInt8) (a e : Int) (ks : List Nd) : eN (.mk k t a e ks) = .agg [.int .i64 k, .str t, .int .i64 a, .int .i64 e, .sl (ks.map eN) 0] := by
  simp [eN, eNs_map]

/-- a statement for all lists of kids, by their first members -/
theorem kids_cases {p : List Nd → Prop} {n : Nat} (h0 : p [])
    (h1 : ∀ k0, SizeOf.sizeOf k0 < n → okN k0 → p [k0])
    (h2 : ∀ k0 k1, SizeOf.sizeOf k0 < n → SizeOf.sizeOf k1 < n → okN k0 → okN k1 → p [k0, k1])
    (h3 : ∀ k0 k1 k2, SizeOf.sizeOf k0 < n → SizeOf.sizeOf k1 < n → SizeOf.sizeOf k2 < n → okN k0 → okN k1 → okN k2 → p [k0, k1, k2])
    (h4 : ∀ k0 k1 k2 k3 r, SizeOf.sizeOf k0 < n → SizeOf.sizeOf k1 < n → SizeOf.sizeOf k2 < n → SizeOf.sizeOf k3 < n → okN k0 → okN k1 → okN k2 → okN k3 → r.length + 4 ≤ maxLen → ES n (r.map eN) → p (k0 :: k1 :: k2 :: k3 :: r)) :
    ∀ ks : List Nd, SizeOf.sizeOf ks ≤ n → ks.length ≤ maxLen → okNs ks → p ks
  | [], _, _, _ => h0
  | [k0], hs, _, ho => by
    simp only [List.cons.sizeOf_spec, List.nil.sizeOf_spec] at hs
    simp only [okNs] at ho
    exact h1 _ (by omega) ho.1
  | [k0, k1], hs, _, ho => by
    simp only [List.cons.sizeOf_spec, List.nil.sizeOf_spec] at hs
    simp only [okNs] at ho
    exact h2 _ _ (by omega) (by omega) ho.1 ho.2.1
  | [k0, k1, k2], hs, _, ho => by
    simp only [List.cons.sizeOf_spec, List.nil.sizeOf_spec] at hs
    simp only [okNs] at ho
    exact h3 _ _ _ (by omega) (by omega) (by omega) ho.1 ho.2.1 ho.2.2.1
  | k0 :: k1 :: k2 :: k3 :: r, hs, hl, ho => by
    simp only [List.cons.sizeOf_spec] at hs
    simp only [okNs] at ho
    obtain ⟨o0, o1, o2, o3, orr⟩ := ho
    refine h4 _ _ _ _ _ (by omega) (by omega) (by omega) (by omega) o0 o1 o2 o3 (by simpa using hl) (es_map fun x hx => ⟨?_, okNs_iff.1 orr x hx⟩)
    have := List.sizeOf_lt_of_mem hx
    omega

set_option maxHeartbeats 4000000 in
theorem f57 {n : Nat} (ft : FT n) {d : Nd} (hs : SizeOf.sizeOf d ≤ n) (ho : okN d) (m : Bool) : EB 57 [eN d, .bool m] := by
  obtain ⟨k, t, a, e, ks⟩ := d
  obtain ⟨_, _, _, ht, hl, hk⟩ := ho
  refine eb_of m57 rfl (by simp [argOk_int, argOk_bool, eN_argOk]) ?_
  simp only [eN_mk]
  have hz : SizeOf.sizeOf ks ≤ n := by simp only [Nd.mk.sizeOf_spec] at hs; omega
  clear hs
  have e58 := f58 t ht
  have e59 := f59 t ht
  have e63 := f63 t ht
  have e64 := f64 t ht
  have e65 := f65 t
  have e66 := f66 t
  have hm : 4 ≤ maxLen := by decide
  unfold v57
  refine kids_cases (n := n) (p := fun ks => WpP Try.prog _ { env := envA 0 [.agg [.int .i64 k, .str t, .int .i64 a, .int .i64 e, .sl (ks.map eN) 0], .bool m], ob := [], base := 0 } (EndP _ isBo)) ?_ ?_ ?_ ?_ ?_ ks hz hl hk <;> intros <;>
  simp only [go_sem, pe_regG]
  all_goals
  repeat' first
    | with_reducible exact bo_ex
    | (with_reducible refine pif_s (fun h => ?_) (fun h => ?_) <;> simp only [go_sem, pe_regG, eN_cells, eN_fold, h])
    | (with_reducible refine pg_s (fun h => ?_) (fun h => ?_) <;> simp only [go_sem, pe_regG, eN_cells, eN_fold, h])
    | (refine pcallE (by
         simp only [go_sem]
         first | assumption
               | exact ft _ (by assumption) (by assumption) _ _
               | exact f60 ft (by simp; try omega) (by repeat first | exact es_nil | (refine es_cons (by assumption) (by assumption) ?_) | assumption) _ _) (by simp [go_sem]) (fun b => ?_); simp only [go_sem, pe_regG, eN_cells, eN_fold])

set_option maxHeartbeats 4000000 in
theorem f62 {n : Nat} (ft : FT n) {d : Nd} (hs : SizeOf.sizeOf d ≤ n) (ho : okN d) (w : Int) (m : Bool) : EB 62 [eN d, .int .i64 w, .bool m] := by
  obtain ⟨k, t, a, e, ks⟩ := d
  obtain ⟨_, _, _, ht, hl, hk⟩ := ho
  refine eb_of m62 rfl (by simp [argOk_int, argOk_bool, eN_argOk]) ?_
  simp only [eN_mk]
  have hz : SizeOf.sizeOf ks ≤ n := by simp only [Nd.mk.sizeOf_spec] at hs; omega
  clear hs
  have e58 := f58 t ht
  have e59 := f59 t ht
  have e63 := f63 t ht
  have e64 := f64 t ht
  have e65 := f65 t
  have e66 := f66 t
  have hm : 4 ≤ maxLen := by decide
  unfold v62
  refine kids_cases (n := n) (p := fun ks => WpP Try.prog _ { env := envA 0 [.agg [.int .i64 k, .str t, .int .i64 a, .int .i64 e, .sl (ks.map eN) 0], .int .i64 w, .bool m], ob := [], base := 0 } (EndP _ isBo)) ?_ ?_ ?_ ?_ ?_ ks hz hl hk <;> intros <;>
  simp only [go_sem, pe_regG]
  all_goals
  repeat' first
    | with_reducible exact bo_ex
    | (with_reducible refine pif_s (fun h => ?_) (fun h => ?_) <;> simp only [go_sem, pe_regG, eN_cells, eN_fold, h])
    | (with_reducible refine pg_s (fun h => ?_) (fun h => ?_) <;> simp only [go_sem, pe_regG, eN_cells, eN_fold, h])
    | (refine pcallE (by
         simp only [go_sem]
         first | assumption
               | exact ft _ (by assumption) (by assumption) _ _
               | exact f68 ft (Nat.le_of_lt (by assumption)) (by assumption) _ _ _ _
               | exact f60 ft (by simp; try omega) (by repeat first | exact es_nil | (refine es_cons (by assumption) (by assumption) ?_) | assumption) _ _) (by simp [go_sem]) (fun b => ?_); simp only [go_sem, pe_regG, eN_cells, eN_fold])

set_option maxHeartbeats 4000000 in
theorem f51b {n : Nat} (ft : FT n) {d : Nd} (hs : SizeOf.sizeOf d ≤ n) (ho : okN d) (m : Bool) : EB 51 [eN d, .int .i64 6, .bool m] := by
  have hl : (d.kids.map eN).length ≤ maxLen := by
    obtain ⟨_, _, _, _, ks⟩ := d
    obtain ⟨_, _, _, _, hl, _⟩ := ho
    simpa [Nd.kids] using hl
  have h60 := f60 ft hl (es_kids hs ho)
  have h56 := f56 d ho
  refine eb_of m51 rfl (by simp [argOk_int, argOk_bool, eN_argOk]) ?_
  simp only [eN_agg] at h56 ⊢
  unfold v51
  simp only [go_sem, pe_regG]
  repeat' first
    | with_reducible exact bo_ex
    | (with_reducible refine pif_s (fun h => ?_) (fun h => ?_) <;> simp only [go_sem, pe_regG, h])
    | (with_reducible refine pg_s (fun h => ?_) (fun h => ?_) <;> simp only [go_sem, pe_regG, h])
    | (refine pcallE (by simp only [go_sem]; first | exact h60 _ _ | exact h56 _) (by simp [go_sem]) (fun b => ?_); simp only [go_sem, pe_regG])

set_option maxHeartbeats 4000000 in
theorem f61 {n : Nat} (ft : FT n) {d : Nd} (hs : SizeOf.sizeOf d ≤ n) (ho : okN d) (m : Bool) : EB 61 [eN d, .bool m] := by
  obtain ⟨k, t, a, e, ks⟩ := d
  obtain ⟨_, _, _, ht, hl, hk⟩ := ho
  refine eb_of m61 rfl (by simp [argOk_int, argOk_bool, eN_argOk]) ?_
  simp only [eN_mk]
  have hz : SizeOf.sizeOf ks ≤ n := by simp only [Nd.mk.sizeOf_spec] at hs; omega
  have e62 := f62 ft hs ⟨‹_›, ‹_›, ‹_›, ht, hl, hk⟩ 7 m
  have f6 := f51b ft hs ⟨‹_›, ‹_›, ‹_›, ht, hl, hk⟩ m
  simp only [eN_mk] at e62 f6
  clear hs
  have e58 := f58 t ht
  have e59 := f59 t ht
  have e63 := f63 t ht
  have e64 := f64 t ht
  have e65 := f65 t
  have e66 := f66 t
  have hm : 4 ≤ maxLen := by decide
  unfold v61
  refine kids_cases (n := n) (p := fun ks => EB 62 [.agg [.int .i64 k, .str t, .int .i64 a, .int .i64 e, .sl (ks.map eN) 0], .int .i64 7, .bool m] → EB 51 [.agg [.int .i64 k, .str t, .int .i64 a, .int .i64 e, .sl (ks.map eN) 0], .int .i64 6, .bool m] → WpP Try.prog _ { env := envA 0 [.agg [.int .i64 k, .str t, .int .i64 a, .int .i64 e, .sl (ks.map eN) 0], .bool m], ob := [], base := 0 } (EndP _ isBo)) ?_ ?_ ?_ ?_ ?_ ks hz hl hk e62 f6 <;> intros <;>
  simp only [List.map_cons, List.map_nil] at * <;> simp only [go_sem, pe_regG]
  all_goals
  repeat' first
    | with_reducible exact bo_ex
    | (with_reducible refine pif_s (fun h => ?_) (fun h => ?_) <;> simp only [go_sem, pe_regG, eN_cells, eN_fold, h])
    | (with_reducible refine pg_s (fun h => ?_) (fun h => ?_) <;> simp only [go_sem, pe_regG, eN_cells, eN_fold, h])
    | (refine pcallE (by
         simp only [go_sem]
         first | assumption
               | exact ft _ (by assumption) (by assumption) _ _
               | exact f68 ft (Nat.le_of_lt (by assumption)) (by assumption) _ _ _ _
               | exact f60 ft (by simp; try omega) (by repeat first | exact es_nil | (refine es_cons (by assumption) (by assumption) ?_) | assumption) _ _) (by simp [go_sem]) (fun b => ?_); simp only [go_sem, pe_regG, eN_cells, eN_fold])

end Go.Proofs
