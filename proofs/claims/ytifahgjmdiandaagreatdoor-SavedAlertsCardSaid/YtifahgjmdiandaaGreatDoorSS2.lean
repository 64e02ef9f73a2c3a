/- V, contracts: slices.SortFunc on keys and alerts. Conditions: the lists' lengths. -/
import Derived.Test.YtifahgjmdiandaaGreatDoorSS1
import Derived.Test.YtifahgjmdiandaaGreatDoorSA4
set_option linter.unusedVariables false
set_option linter.unusedSimpArgs false
namespace Go.Proofs
open Go.V Go.RowKit

def ac (k : Al) : List VV := [.int .i64 k.id, .int .i64 k.kind, .str k.repo, .str k.path]
theorem kc_scal : ∀ x, ∀ v ∈ kc x, scalO v = true := fun x v h => by
  simp only [kc, List.mem_cons, List.not_mem_nil, or_false] at h
  rcases h with rfl | rfl | rfl <;> rfl
theorem ac_scal : ∀ x, ∀ v ∈ ac x, scalO v = true := fun x v h => by
  simp only [ac, List.mem_cons, List.not_mem_nil, or_false] at h
  rcases h with rfl | rfl | rfl | rfl <;> rfl
theorem ac_len (k : Al) : (ac k).length = 4 := rfl
theorem eg_order : ∀ args w, (callFunc n_saved_order args).run PR w = .ok (.enter n_saved_order args) w := enters_of Tryz.func35 (by kernel_rfl) rfl
theorem eg_orderA : ∀ args w, (callFunc n_saved_Changes_1 args).run PR w = .ok (.enter n_saved_Changes_1 args) w := enters_of Tryz.func40 (by kernel_rfl) rfl
theorem eRv_len {α : Type} {eV : α → List VV} {k : Nat} (h : ∀ x, (eV x).length = k) (x : α) : (eRv eV x).length = k := by rw [eRv, List.length_map, h]
theorem eRv_cell {α : Type} {eV : α → List VV} (h : ∀ x, ∀ v ∈ eV x, scalO v = true) : ∀ x, ∀ v ∈ eRv eV x, v.oneCell' = true := fun x v hv => by
  obtain ⟨u, hu, rfl⟩ := List.mem_map.1 hv
  exact toR_cell (h x u hu)
theorem sorts_ky : SortsK PR n_slices_SortFunc_Key_Key n_saved_order kc 3 ordK := fun b cap d w hc hH hb hs =>
  AnyQ.slices_SortFunc Tryz.laysSF44 3 Tryz.isAgg46 Tryz.sizeOf46 (eRv kc) (eRv_len kc_len) (eRv_cell kc_scal) ordK swoK n_saved_order #[] b 0 cap d w eg_order hc hH hb hs
theorem sorts_al : SortsK PR n_slices_SortFunc_Alert_Alert n_saved_Changes_1 ac 4 ordA := fun b cap d w hc hH hb hs =>
  AnyQ.slices_SortFunc Tryz.laysSF39 4 Tryz.isAgg41 Tryz.sizeOf41 (eRv ac) (eRv_len ac_len) (eRv_cell ac_scal) ordA swoA n_saved_Changes_1 #[] b 0 cap d w eg_orderA hc hH hb hs
theorem ok_SortK : callOk PR n_slices_SortFunc_Key_Key = true := by decide +kernel
theorem ok_SortA : callOk PR n_slices_SortFunc_Alert_Alert = true := by decide +kernel
theorem c_SortFunc_ky {ob : List V.Obj} {o : Nat} {l : List Ky} (hn : l.length ≤ 1000000) (ho : nthO ob o = .cells (l.flatMap kc)) :
    ImpC PR n_slices_SortFunc_Key_Key [.row o 0 l.length, .fn n_saved_order []] ob fun r ob' => r = .tup [] ∧ ob' = ob.set o (.cells ((isort ltK l).flatMap kc)) :=
  (imp_sort ok_SortK (by omega) kc_len kc_scal (cf := ordK) (fun x y => c_order x y) sorts_ky (by omega) ho).mono fun r o ⟨h1, l', h2, h3, h4⟩ => ⟨h1, by rw [h4, sortedK h2 h3]⟩
theorem c_SortFunc_al {ob : List V.Obj} {o : Nat} {l : List Al} (hn : l.length ≤ 1000000) (ho : nthO ob o = .cells (l.flatMap ac)) :
    ImpC PR n_slices_SortFunc_Alert_Alert [.row o 0 l.length, .fn n_saved_Changes_1 []] ob fun r ob' => r = .tup [] ∧ ∃ l' : List Al, l'.Perm l ∧ l'.Pairwise (fun x y => ltA y x = false) ∧ ob' = ob.set o (.cells (l'.flatMap ac)) :=
  (imp_sort ok_SortA (by omega) ac_len ac_scal (cf := ordA) (fun x y => c_orderA x y) sorts_al (by omega) ho).mono fun r o ⟨h1, l', h2, h3, h4⟩ => ⟨h1, l', h2, h3.imp fun {a b} q => by rw [← ltOf_A]; exact q, h4⟩
end Go.Proofs
