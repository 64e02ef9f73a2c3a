/- V, proofs: what a slice of pairs needs to become a row; the entries of a map of lists. Conditions: in each theorem. -/
import Derived.Test.YtglabjcjfjlkoaaGreatDoorEV1
import Derived.Test.YtglabjcjfjlkoaaGreatDoorEV2
import Derived.Test.YtglabjcjfjlkoaaGreatDoorEVt
set_option linter.unusedVariables false
set_option linter.unusedSimpArgs false
namespace Go.V
theorem hdClash_sub {out out' : List VV} (h : ∀ x ∈ out', x ∈ out) {es : List VV} (k : hdClash out es = true) : hdClash out' es = true := by
  cases es with
  | nil => rfl
  | cons e r =>
    unfold hdClash at k ⊢
    simp only at k ⊢
    generalize e.cells = cs at k ⊢
    cases cs with
    | nil => exact k
    | cons c cr => exact List.all_eq_true.2 fun x hx => List.all_eq_true.1 k x (h x hx)
mutual
theorem sepV_sub {out out' : List VV} (h : ∀ x ∈ out', x ∈ out) : ∀ v : VV, sepV out v = true → sepV out' v = true := by
  intro v k
  cases v with
  | sl es t =>
    simp only [sepV, Bool.and_eq_true] at k ⊢
    exact ⟨⟨k.1.1, hdClash_sub h k.1.2⟩, sepL_sub h es k.2⟩
  | agg cs =>
    simp only [sepV] at k ⊢
    exact sepL_sub h cs k
  | _ => first | rfl | (simp [sepV] at k)
theorem sepL_sub {out out' : List VV} (h : ∀ x ∈ out', x ∈ out) : ∀ l : List VV, sepL out l = true → sepL out' l = true := by
  intro l k
  match l, k with
  | [], _ => rfl
  | v :: r, k =>
    simp only [sepL, Bool.and_eq_true] at k ⊢
    exact ⟨sepV_sub h v k.1, sepL_sub h r k.2⟩
end
theorem sepC_sub {out out' : List VV} (h : ∀ x ∈ out', x ∈ out) {c : VV} (k : sepC out c = true) : sepC out' c = true := by
  simp only [sepC, Bool.and_eq_true] at k ⊢
  exact ⟨k.1, sepV_sub h c k.2⟩
end Go.V
namespace Go.Proofs
open Go.V Go.RowKit

def pr (g : Gm) : VV × VV := (.int .i64 (g.c.val : Int), .sl g.l 0)
theorem flG (L : List Gm) : (L.map eG).flatMap VV.cells = L.flatMap gc := by
  induction L with
  | nil => rfl
  | cons b r ih => simp only [List.map_cons, List.flatMap_cons, ih, eG, VV.cells]
theorem hdG (L : List Gm) : hdSz (L.map eG) 2 = true := by
  cases L <;> rfl
theorem eG_box (g : Gm) : VV.agg [.int .i64 (g.c.val : Int), .sl g.l 0] = eG g := byRfl rfl
theorem mapG (L : List Gm) (g : Gm) : L.map eG ++ [eG g] = (L ++ [g]).map eG := by simp
/-- every cell of the pairs is data apart from the row of all -/
def okE (M : List Gm) : Bool := M.all fun g => (gc g).all (sepC (M.flatMap gc))
theorem flat_sub {M L : List Gm} (hp : ∀ g ∈ L, g ∈ M) : ∀ x ∈ L.flatMap gc, x ∈ M.flatMap gc := fun x hx => by
  obtain ⟨g, hg, hx⟩ := List.mem_flatMap.1 hx
  exact List.mem_flatMap.2 ⟨g, hp g hg, hx⟩
theorem okE_sep {M L : List Gm} (h : okE M = true) (hp : ∀ g ∈ L, g ∈ M) : (L.map eG).all (fun v => v.cells.all (sepC ((L.map eG).flatMap VV.cells))) = true := by
  rw [flG, List.all_eq_true]
  intro v hv
  obtain ⟨g, hg, rfl⟩ := List.mem_map.1 hv
  have := List.all_eq_true.1 h g (hp g hg)
  rw [List.all_eq_true] at this ⊢
  exact fun c hc => sepC_sub (flat_sub hp) (this c hc)
theorem thawG {M L : List Gm} (h : okE M = true) (hp : ∀ g ∈ L, g ∈ M) : thawOk (L.map eG) = true := by
  unfold thawOk
  rw [okE_sep h hp, Bool.or_true]
theorem thG {x : Gm} {r : List Gm} {ob1 : List V.Obj} (hs : thawOk ((x :: r).map eG) = true) :
    thawW ⟨⟨[(3, .sl ((x :: r).map eG) 2)], .tok (r.length + 1) 2 :: ob1⟩, 0, [], true⟩ 3 = some ⟨⟨[(3, .row 0 0 (r.length + 1))], .cells ((x :: r).flatMap gc) :: ob1.map fun _ => Obj.gone⟩, 0, [], true⟩ := by
  have h1 := flG (x :: r)
  simp only [thawW, V.get, if_true, List.map_cons, List.isEmpty_cons, Bool.false_eq_true, if_false, nthO, List.getD_cons_succ, List.getD_cons_zero]
  simp only [List.map_cons] at h1 hs
  simp only [h1, hs, List.length_cons, List.length_map, and_self, if_true]
  rfl
theorem frzG (L : List Gm) : frzEs 2 0 L.length (L.flatMap gc) = L.map eG := by
  simp only [frzEs, if_neg (show ¬ (2 = 0) by omega)]
  apply List.ext_getElem
  · simp
  · intro i h1 h2
    have hi : i < L.length := by simpa using h2
    simp only [List.getElem_map, List.getElem_range, Nat.zero_add]
    rw [gc_at L i hi, getElem!_pos L i hi]
    rfl
theorem canG (L : List Gm) : (L.map eG).all VV.canon = true := by
  rw [List.all_eq_true]
  intro v hv
  obtain ⟨x, _, rfl⟩ := List.mem_map.1 hv
  rfl
theorem row0 : RowO [V.Obj.gone] 0 := ⟨by simp, fun D => by simp [Obj.idsB, gc_ids]⟩
theorem c_Len (n : Nat) (h : n = 4 ∨ n = 5 ∨ n = 7) : PureC PR n_math_bits_Len [.int .u64 (n : Int)] (.int .i64 3) := by
  rcases h with rfl | rfl | rfl
  · exact runF_ok (n := 200) (tabE_ok noXq_ok) (isV_eq (by decide +kernel))
  · exact runF_ok (n := 200) (tabE_ok noXq_ok) (isV_eq (by decide +kernel))
  · exact runF_ok (n := 200) (tabE_ok noXq_ok) (isV_eq (by decide +kernel))
end Go.Proofs
