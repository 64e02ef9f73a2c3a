/- V, proofs: the chapter's examples hold: the run of alive. Conditions: none. -/
import Derived.Test.YtifahgjmdiandaaGreatDoorSA8
set_option linter.unusedVariables false
set_option linter.unusedSimpArgs false
namespace Go.Proofs
open Go.V Go.RowKit

theorem c_Clone_Saved0 : PureC PR n_slices_Clone_Saved_Saved [.sl [] 0] (.sl [] 1) := by
  refine pure_of_wp m_slices_Clone_Saved_Saved rfl (by decide) ?_
  unfold FnW v_slices_Clone_Saved_Saved
  simp only [go_sem]
  intro b
  cases b
  · simp only [go_sem]
    rfl
  · simp only [go_sem]
    rfl
def isSl1 (r : Option VV) : Bool := match r with | some (.sl [] 1) => true | _ => false
theorem isSl1_eq {r : Option VV} (h : isSl1 r = true) : r = some (.sl [] 1) := by
  unfold isSl1 at h
  split at h
  · rfl
  · cases h
def tabG : Nat → Option VF := fun f => if f = n_slices_Grow_Saved_Saved then some v_slices_Grow_Saved_Saved else none
theorem tabG_ok : TabOk PR tabG (fun _ _ => none) := by
  refine ⟨fun f vf h => ?_, fun f args r h => by cases h⟩
  unfold tabG at h
  split at h
  · rename_i e; cases h; rw [e]; exact m_slices_Grow_Saved_Saved
  · cases h
theorem c_Grow0 : PureC PR n_slices_Grow_Saved_Saved [.nils, .int .i64 0] (.sl [] 1) := runF_ok (n := 60) tabG_ok (isSl1_eq (by decide +kernel))
theorem callN_own {P : Program} {st : St} {k : St → Prop} {d : Option Nat} {f sz : Nat} {args args' es : List VV} (hp : PureC P f args' (.sl es 1)) (ha : args.map VV.stripN = args') (hi : args'.all (fun v => v.ids 0 && v.noTup) = true) (hs : hdSz es (sz + 1) = true)
    (hk : k { st with env := putD st.env d (.sl es (st.ob.length + 2)), ob := st.ob ++ [.tok es.length (sz + 1)] }) : CallN P f args (some (none, sz + 1)) d st k := by
  subst ha
  refine ⟨hi, _, hp, ?_⟩
  have : takeR (some (none, sz + 1)) st.ob (.sl es 1) = some (.sl es (st.ob.length + 2), st.ob ++ [.tok es.length (sz + 1)]) := by
    simp only [takeR, freshOf, hs, adoptV, setTok, true_and, Nat.zero_lt_succ, if_true]
  rw [this]
  exact hk
theorem c_Concat0 : PureC PR n_slices_Concat_Saved_Saved [.sl [.sl [] 0, .sl [] 0] 0] (.sl [] 0) := by
  refine pure_of_wp m_slices_Concat_Saved_Saved rfl (by decide) ?_
  unfold FnW v_slices_Concat_Saved_Saved
  simp only [go_sem]
  refine v_for (α := Nat) (base := 0) (marks := []) (pu := true) (good := fun i => i ≤ 2) (m := fun i => 2 - i)
    (E := fun i => [(0, .sl [.sl [] 0, .sl [] 0] 0), (3, .int .i64 0), (9, .sl [.sl [] 0, .sl [] 0] 0), (10, .int .i64 2), (11, .int .i64 i)]) (O := fun _ => [])
    (by intro i _; simp [go_sem, Obj.idsB]) rfl ?_ 0 _ (by omega) rfl rfl rfl rfl rfl
  intro i hi
  have h012 : i = 0 ∨ i = 1 ∨ i = 2 := by omega
  have w0 : IntKind.i64.wrap 0 = 0 := by decide
  have d0 : decide ((0 : Int) < 0) = false := by decide
  have w1 : IntKind.i64.wrap 1 = 1 := by decide
  have w2 : IntKind.i64.wrap 2 = 2 := by decide
  rcases h012 with rfl | rfl | rfl
  · have t : decide (((0 : Nat) : Int) < 2) = true := by decide
    have w : IntKind.i64.wrap (((0 : Nat) : Int) + 1) = ((1 : Nat) : Int) := by decide
    have l : ((0 : Nat) : Int).toNat = 0 := rfl
    simp only [go_sem, t, l, w0, d0]
    exact ⟨1, by omega, by decide, by (try simp only [go_sem, w, w1, w2]) <;> rfl, rfl, rfl, rfl, rfl⟩
  · have t : decide (((1 : Nat) : Int) < 2) = true := by decide
    have w : IntKind.i64.wrap (((1 : Nat) : Int) + 1) = ((2 : Nat) : Int) := by decide
    simp only [go_sem, t, w0, d0]
    exact ⟨2, by omega, by decide, by (try simp only [go_sem, w, w1, w2]) <;> rfl, rfl, rfl, rfl, rfl⟩
  · have t : decide (((2 : Nat) : Int) < 2) = false := by decide
    simp only [go_sem, t]
    refine callN_own c_Grow0 rfl (by decide) rfl ?_
    simp only [go_sem]
    refine v_for (α := Nat) (base := 0) (marks := []) (pu := true) (good := fun i => i ≤ 2) (m := fun i => 2 - i)
      (E := fun i => [(6, .sl [] 2), (25, .sl [.sl [] 0, .sl [] 0] 0), (26, .int .i64 2), (27, .int .i64 i)]) (O := fun _ => [.tok 0 9])
      (by intro i _; simp [go_sem, Obj.idsB]) rfl ?_ 0 _ (by omega) rfl rfl rfl rfl rfl
    intro i hi
    have h012 : i = 0 ∨ i = 1 ∨ i = 2 := by omega
    rcases h012 with rfl | rfl | rfl
    · have t : decide (((0 : Nat) : Int) < 2) = true := by decide
      have w : IntKind.i64.wrap (((0 : Nat) : Int) + 1) = ((1 : Nat) : Int) := by decide
      simp only [go_sem, t]
      exact ⟨1, by omega, by decide, by (try simp only [go_sem, w, w1, w2]) <;> rfl, rfl, rfl, rfl, rfl⟩
    · have t : decide (((1 : Nat) : Int) < 2) = true := by decide
      have w : IntKind.i64.wrap (((1 : Nat) : Int) + 1) = ((2 : Nat) : Int) := by decide
      simp only [go_sem, t]
      exact ⟨2, by omega, by decide, by (try simp only [go_sem, w, w1, w2]) <;> rfl, rfl, rfl, rfl, rfl⟩
    · have t : decide (((2 : Nat) : Int) < 2) = false := by decide
      simp only [go_sem, t]
def decK : VV → Option Ky
  | .agg [.str a, .str b, .str c] => some ⟨a, b, c⟩
  | _ => none
theorem decK_eq {v : VV} {k : Ky} (h : decK v = some k) : v = eKy k := by
  unfold decK at h
  split at h
  · cases h; rfl
  · cases h
def decs : List VV → Option (List Ky)
  | [] => some []
  | v :: r => match decK v, decs r with
    | some k, some l => some (k :: l)
    | _, _ => none
theorem decs_eq : ∀ {es : List VV} {l : List Ky}, decs es = some l → es = l.map eKy
  | [], l, h => by cases h; rfl
  | v :: r, l, h => by
    unfold decs at h
    split at h
    · rename_i k m h1 h2
      cases h
      rw [decK_eq h1, decs_eq h2]; rfl
    · cases h
def extS (f : Nat) (args : List VV) : Option VV :=
  if f = n_slices_Clone_Saved_Saved then (match args with | [.sl [] 0] => some (.sl [] 1) | _ => none)
  else if f = n_slices_Concat_Saved_Saved then (match args with | [.sl [.sl [] 0, .sl [] 0] 0] => some (.sl [] 0) | _ => none)
  else if f = n_saved_Changes then (match args with
    | [.int .i64 id, .sl es 0, .sl fs 0] => match decs es, decs fs with
      | some o, some g => if o.length ≤ 100 ∧ g.length ≤ 100 then some (.sl ((changesS id o g).map eAl) 0) else none
      | _, _ => none
    | _ => none)
  else none
theorem extS_ok : ∀ f args r, extS f args = some r → PureC PR f args r := by
  intro f args r h
  unfold extS at h
  split at h
  · rename_i e
    subst e
    split at h
    · cases h; exact c_Clone_Saved0
    · cases h
  split at h
  · rename_i e
    subst e
    split at h
    · cases h; exact c_Concat0
    · cases h
  split at h
  · rename_i e
    subst e
    split at h
    · split at h
      · rename_i o g h1 h2
        split at h
        · rename_i hl
          cases h
          rw [decs_eq h1, decs_eq h2]
          exact c_Changes _ o g (by omega) (by omega)
        · cases h
      · cases h
    · cases h
  · cases h
def tabA : Nat → Option VF
  | 4 => some v_L48_SavedTurns
  | 5 => some v_L48_SavedPaths
  | 6 => some v_L48_SavedAlerts
  | 8 => some v_L48_alive
  | 11 => some v_saved_Add
  | 13 => some v_saved_Drop
  | 15 => some v_saved_Right
  | 18 => some v_saved_Changes
  | 19 => some v_L48_kindOf
  | 20 => some v_L48_on
  | 21 => some v_saved_Update
  | 22 => some v_R48_Update
  | 23 => some v_R48_SameKeys
  | 24 => some v_saved_Sort
  | 25 => some v_R48_Sort
  | 26 => some v_R48_SameAlerts
  | 27 => some v_R48_Changes
  | 28 => some v_R48_Same
  | 29 => some v_L48_key
  | 30 => some v_slices_Clone_Saved_Saved
  | 31 => some v_slices_IndexFunc_Saved_Saved
  | 32 => some v_saved_Drop_1
  | 33 => some v_slices_Concat_Saved_Saved
  | 34 => some v_query_Right
  | 35 => some v_saved_order
  | 37 => some v_R48_less
  | 38 => some v_saved_has
  | 39 => some v_slices_SortFunc_Alert_Alert
  | 40 => some v_saved_Changes_1
  | 41 => some v_cmp_Or_int
  | 42 => some v_cmp_Compare_string
  | 43 => some v_slices_Clone_Key_Key
  | 44 => some v_slices_SortFunc_Key_Key
  | 45 => some v_slices_Compact_Key_Key
  | 46 => some v_R48_has
  | 47 => some v_R48_differs
  | 48 => some v_R48_path
  | 49 => some v_R36_Same
  | 50 => some v_slices_Grow_Saved_Saved
  | 51 => some v_query_shapes
  | 52 => some v_query_leaves
  | 53 => some v_query_size
  | 59 => some v_slices_BinarySearchFunc_Key_Key_Key
  | 60 => some v_slices_pdqsortCmpFunc_Alert
  | 61 => some v_math_bits_Len
  | 62 => some v_cmp_isNaN_string
  | 63 => some v_slices_pdqsortCmpFunc_Key
  | 64 => some v_query_shape
  | 65 => some v_slices_ContainsFunc_Query_Query
  | 66 => some v_query_shapes_1
  | 67 => some v_query_inner
  | 68 => some v_query_leaf
  | 80 => some v_slices_insertionSortCmpFunc_Alert
  | 88 => some v_math_bits_Len32
  | 89 => some v_math_bits_Len64
  | 90 => some v_slices_insertionSortCmpFunc_Key
  | 98 => some v_slices_IndexFunc_Query_Query
  | 99 => some v_query_formed
  | _ => none
theorem tabA_ok {ext : Nat → List VV → Option VV} (he : ∀ f args r, ext f args = some r → PureC PR f args r) : TabOk PR tabA ext := by
  refine ⟨fun f vf h => ?_, he⟩
  unfold tabA at h
  split at h
  · cases h; exact m_L48_SavedTurns
  · cases h; exact m_L48_SavedPaths
  · cases h; exact m_L48_SavedAlerts
  · cases h; exact m_L48_alive
  · cases h; exact m_saved_Add
  · cases h; exact m_saved_Drop
  · cases h; exact m_saved_Right
  · cases h; exact m_saved_Changes
  · cases h; exact m_L48_kindOf
  · cases h; exact m_L48_on
  · cases h; exact m_saved_Update
  · cases h; exact m_R48_Update
  · cases h; exact m_R48_SameKeys
  · cases h; exact m_saved_Sort
  · cases h; exact m_R48_Sort
  · cases h; exact m_R48_SameAlerts
  · cases h; exact m_R48_Changes
  · cases h; exact m_R48_Same
  · cases h; exact m_L48_key
  · cases h; exact m_slices_Clone_Saved_Saved
  · cases h; exact m_slices_IndexFunc_Saved_Saved
  · cases h; exact m_saved_Drop_1
  · cases h; exact m_slices_Concat_Saved_Saved
  · cases h; exact m_query_Right
  · cases h; exact m_saved_order
  · cases h; exact m_R48_less
  · cases h; exact m_saved_has
  · cases h; exact m_slices_SortFunc_Alert_Alert
  · cases h; exact m_saved_Changes_1
  · cases h; exact m_cmp_Or_int
  · cases h; exact m_cmp_Compare_string
  · cases h; exact m_slices_Clone_Key_Key
  · cases h; exact m_slices_SortFunc_Key_Key
  · cases h; exact m_slices_Compact_Key_Key
  · cases h; exact m_R48_has
  · cases h; exact m_R48_differs
  · cases h; exact m_R48_path
  · cases h; exact m_R36_Same
  · cases h; exact m_slices_Grow_Saved_Saved
  · cases h; exact m_query_shapes
  · cases h; exact m_query_leaves
  · cases h; exact m_query_size
  · cases h; exact m_slices_BinarySearchFunc_Key_Key_Key
  · cases h; exact m_slices_pdqsortCmpFunc_Alert
  · cases h; exact m_math_bits_Len
  · cases h; exact m_cmp_isNaN_string
  · cases h; exact m_slices_pdqsortCmpFunc_Key
  · cases h; exact m_query_shape
  · cases h; exact m_slices_ContainsFunc_Query_Query
  · cases h; exact m_query_shapes_1
  · cases h; exact m_query_inner
  · cases h; exact m_query_leaf
  · cases h; exact m_slices_insertionSortCmpFunc_Alert
  · cases h; exact m_math_bits_Len32
  · cases h; exact m_math_bits_Len64
  · cases h; exact m_slices_insertionSortCmpFunc_Key
  · cases h; exact m_slices_IndexFunc_Query_Query
  · cases h; exact m_query_formed
  · cases h
def isTrue (r : Option VV) : Bool := match r with | some (.bool b) => b | _ => false
theorem isTrue_some {r : Option VV} (h : isTrue r = true) : r = some (.bool true) := by
  unfold isTrue at h
  split at h
  · rw [h]
  · cases h
theorem alive_run : isTrue (runF tabA extS 300 n_L48_alive []) = true := by decide +kernel
theorem alive : PureC PR n_L48_alive [] (.bool true) := runF_ok (tabA_ok extS_ok) (isTrue_some alive_run)
end Go.Proofs
