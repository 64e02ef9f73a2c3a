/- V, part 4: when an operation of V is the text of an operation of the machine; that it then does what V says: the operations that leave the objects alone. -/
import Derived.Test.YtfhkgkijljfcfaaV3
import Derived.ChangeKeysEq
import Derived.Laws.CopyRow
import Derived.Laws.Small
import Derived.Laws.StructEq
import Derived.Laws.Slices
set_option linter.unusedVariables false
set_option linter.unusedSimpArgs false
namespace Go.V
open Go.RowKit

def repC0 : VV → Value → Bool
  | .int k n, .int k' n' => decide (k = k') && decide (n = n')
  | .bool b, .bool b' => b == b'
  | .str s, .string b => b.data.toList == s
  | .nilp, .pointer none => true
  | .nils, .slice none 0 0 => true
  | .sl [] 0, .slice none 0 0 => true
  | .nilm, .map none => true
  | .nilf, .nilFunc => true
  | _, _ => false
def repCL : List VV → List Value → Bool
  | [], [] => true
  | v :: r, x :: s => repC0 v x && repCL r s
  | _, _ => false
def repC : VV → Value → Bool
  | .agg cs, .agg xs => repCL cs xs.toList
  | v, x => repC0 v x

def mO : Opd → Operand → Bool
  | .t s, .tmp t => decide (s = t)
  | .c v, .const x => repC v x
  | .f n, .func m => decide (n = m)
  | _, _ => false
def mOL : List Opd → List Operand → Bool
  | [], [] => true
  | x :: r, y :: s => mO x y && mOL r s
  | _, _ => false

/-- How the machine reads the operands, as far as they are named. -/
structure Reads (B : Nat) (ob : List Obj) (g : Gh) (w : World) (env : List (Nat × VV)) (ρ : Operand → Value) : Prop where
  c : ∀ v, ρ (.const v) = v
  f : ∀ n, ρ (.func n) = .func (.func n) #[] #[]
  t : ∀ s, GV B ob g w (get env s) (ρ (.tmp s))

section
variable {B : Nat} {w0 : W0} {ob : List Obj} {g : Gh} {w : World}

theorem GV.const0 {v : VV} {x : Value} (h : repC0 v x = true) : GV B ob g w v x := by
  cases v <;> cases x <;> simp only [repC0, Bool.and_eq_true, decide_eq_true_eq, beq_iff_eq, Bool.false_eq_true, reduceCtorEq] at h
  case int.int => obtain ⟨rfl, rfl⟩ := h; exact ⟨.int _ _, trivial, rfl⟩
  case bool.bool => subst h; exact ⟨.bool _, trivial, rfl⟩
  case str.string => exact ⟨.str h, trivial, rfl⟩
  case nilp.pointer a => cases a <;> simp [repC0] at h; exact ⟨.nilp, trivial, rfl⟩
  case nils.slice a n c =>
    cases a with
    | some a => simp [repC0] at h
    | none => cases n <;> cases c <;> simp [repC0] at h; exact ⟨.nils, trivial, rfl⟩
  case sl.slice es t a n c =>
    cases es with
    | cons e r => simp [repC0] at h
    | nil => cases t with
      | succ t => simp [repC0] at h
      | zero => cases a with
        | some a => simp [repC0] at h
        | none => cases n <;> cases c <;> simp [repC0] at h; exact ⟨.slE, Hnd.sl.2 trivial, by simp [VV.ids]⟩
  case nilm.map a => cases a <;> simp [repC0] at h; exact ⟨.nilm, trivial, rfl⟩
  case nilf.nilFunc => exact ⟨.nilf, trivial, rfl⟩

theorem repC0_cell {v : VV} {x : Value} (h : repC0 v x = true) : v.isCell = true := by
  cases v <;> cases x <;> simp_all [repC0, VV.isCell]

theorem Hnd.of_GV1 {v : VV} {x : Value} (hc : v.isCell = true) (h : GV B ob g w v x) : Hnd1 B ob g w v x := by
  have := h.hnd
  cases v <;> simp [VV.isCell] at hc <;> cases x <;> exact this

/-- A struct's cells, put together. -/
theorem GV.agg {cs : List VV} {xs : Array Value} (hl : xs.size = cs.length) (hc : cs.all VV.isCell = true) (h : ∀ j (hj : j < cs.length), GV B ob g w cs[j] (xs[j]'(hl ▸ hj))) : GV B ob g w (.agg cs) (.agg xs) := by
  refine ⟨.agg hl hc fun j hj => (h j hj).rep, ?_, ?_⟩
  · intro j v x hv hx
    obtain ⟨h1, rfl⟩ := List.getElem?_eq_some_iff.1 hv
    obtain ⟨h2, rfl⟩ := Array.getElem?_eq_some_iff.1 hx
    exact Hnd.of_GV1 (List.all_eq_true.1 hc _ (List.getElem_mem h1)) (h j h1)
  · simp only [VV.ids]
    refine idsL_of fun v hv => ?_
    obtain ⟨j, hj, rfl⟩ := List.getElem_of_mem hv
    exact (h j hj).ids

theorem GV.agg_inv {cs : List VV} {x : Value} (h : GV B ob g w (.agg cs) x) : ∃ xs : Array Value, x = .agg xs ∧ cs.all VV.isCell = true ∧ ∃ hl : xs.size = cs.length, ∀ j (hj : j < cs.length), GV B ob g w cs[j] (xs[j]'(hl ▸ hj)) := by
  cases x with
  | agg xs =>
    have hr := h.rep
    have hd := h.hnd
    have hi := h.ids
    cases hr with
    | agg hl hc hr =>
      refine ⟨xs, rfl, hc, hl, fun j hj => ⟨hr j hj, ?_, idsL_get (by simpa [VV.ids] using hi) j hj⟩⟩
      have h1 := hd j cs[j] (xs[j]'(hl ▸ hj)) (List.getElem?_eq_getElem hj) (Array.getElem?_eq_getElem (hl ▸ hj))
      have hcell := List.all_eq_true.1 hc _ (List.getElem_mem hj)
      revert h1 hcell
      generalize cs[j] = v
      generalize xs[j]'(hl ▸ hj) = y
      intro h1 hcell
      cases v <;> simp [VV.isCell] at hcell <;> cases y <;> exact h1
  | _ => have hr := h.rep; cases hr

theorem repCL_len : ∀ {l : List VV} {m : List Value}, repCL l m = true → m.length = l.length
  | [], [], _ => rfl
  | _ :: _, _ :: _, h => by simp only [repCL, Bool.and_eq_true] at h; simp [repCL_len h.2]
  | [], _ :: _, h => by simp [repCL] at h
  | _ :: _, [], h => by simp [repCL] at h
theorem repCL_get : ∀ {l : List VV} {m : List Value}, repCL l m = true → ∀ (j : Nat) (h : j < l.length) (h' : j < m.length), repC0 l[j] m[j] = true
  | _ :: _, _ :: _, h, 0, _, _ => by simp only [repCL, Bool.and_eq_true] at h; exact h.1
  | _ :: _, _ :: _, h, j + 1, h1, h2 => by simp only [repCL, Bool.and_eq_true] at h; exact repCL_get h.2 j (by simpa using h1) (by simpa using h2)
  | [], _, _, j, h1, _ => absurd h1 (by simp)
  | _ :: _, [], h, j, _, h2 => absurd h2 (by simp)
theorem repCL_cells {l : List VV} {m : List Value} (h : repCL l m = true) : l.all VV.isCell = true := by
  rw [List.all_eq_true]
  intro v hv
  obtain ⟨j, hj, rfl⟩ := List.getElem_of_mem hv
  exact repC0_cell (repCL_get h j hj (by rw [repCL_len h]; exact hj))

theorem GV.const {v : VV} {x : Value} (h : repC v x = true) : GV B ob g w v x := by
  unfold repC at h
  split at h
  · rename_i cs xs
    have hl : xs.size = cs.length := by simpa using repCL_len h
    exact GV.agg hl (repCL_cells h) fun j hj => GV.const0 (by have := repCL_get h j hj (by simpa using hl ▸ hj); rwa [Array.getElem_toList] at this)
  · exact GV.const0 h

theorem Reads.opd {env : List (Nat × VV)} {ρ : Operand → Value} (R : Reads B ob g w env ρ) {x : Opd} {y : Operand} (h : mO x y = true) : GV B ob g w (x.ev env) (ρ y) := by
  cases x <;> cases y <;> simp only [mO, decide_eq_true_eq, Bool.false_eq_true] at h
  · subst h; exact R.t _
  · rw [R.c]; exact GV.const h
  · subst h; rw [R.f]; exact ⟨.fn rfl rfl fun j hj => absurd hj (by simp), trivial, rfl⟩

theorem mOL_len : ∀ {l : List Opd} {m : List Operand}, mOL l m = true → m.length = l.length
  | [], [], _ => rfl
  | _ :: _, _ :: _, h => by simp only [mOL, Bool.and_eq_true] at h; simp [mOL_len h.2]
  | [], _ :: _, h => by simp [mOL] at h
  | _ :: _, [], h => by simp [mOL] at h
theorem mOL_get : ∀ {l : List Opd} {m : List Operand}, mOL l m = true → ∀ (j : Nat) (h : j < l.length) (h' : j < m.length), mO l[j] m[j] = true
  | _ :: _, _ :: _, h, 0, _, _ => by simp only [mOL, Bool.and_eq_true] at h; exact h.1
  | _ :: _, _ :: _, h, j + 1, h1, h2 => by simp only [mOL, Bool.and_eq_true] at h; exact mOL_get h.2 j (by simpa using h1) (by simpa using h2)
  | [], _, _, j, h1, _ => absurd h1 (by simp)
  | _ :: _, [], h, j, _, h2 => absurd h2 (by simp)

def OpOk (P : Program) (s : Sem Next) (w : World) (x : Value) (w' : World) : Prop :=
  s.run P w = .ok (.value x) w' ∨ (s.run P w = .ok .skip w' ∧ x = undef)

/-- What is to be shown of each operation. -/
def Out (P : Program) (B : Nat) (w0 : W0) (ob : List Obj) (g : Gh) (w : World) (s : Sem Next) (v : VV) (ob' : List Obj) : Prop :=
  ∃ x g' w', OpOk P s w x w' ∧ HInv B w0 ob' g' w' ∧ GV B ob' g' w' v x ∧ Pres B ob g w ob' g' w'

theorem Out.quiet {P : Program} (H : HInv B w0 ob g w) {s : Sem Next} {v : VV} {x : Value} (h : s.run P w = .ok (.value x) w) (hv : GV B ob g w v x) : Out P B w0 ob g w s v ob :=
  ⟨x, g, w, .inl h, H, hv, Pres.refl _ _ _ _⟩

/-- Numbers, strings and the like have one form. -/
theorem GV.int {k : IntKind} {n : Int} : GV B ob g w (.int k n) (.int k n) := ⟨.int _ _, trivial, rfl⟩
theorem GV.bool {b : Bool} : GV B ob g w (.bool b) (.bool b) := ⟨.bool _, trivial, rfl⟩
theorem GV.str {s : List UInt8} {b : ByteArray} (h : b.data.toList = s) : GV B ob g w (.str s) (.string b) := ⟨.str h, trivial, rfl⟩
theorem GV.dead {x : Value} : GV B ob g w .dead x := ⟨.dead, by cases x <;> trivial, rfl⟩
theorem GV.int_inv {k : IntKind} {n : Int} {x : Value} (h : GV B ob g w (.int k n) x) : x = .int k n := by have := h.rep; cases this; rfl
theorem GV.bool_inv {b : Bool} {x : Value} (h : GV B ob g w (.bool b) x) : x = .bool b := by have := h.rep; cases this; rfl
theorem GV.str_inv {s : List UInt8} {x : Value} (h : GV B ob g w (.str s) x) : ∃ b : ByteArray, x = .string b ∧ b.data.toList = s := by have := h.rep; cases this; exact ⟨_, rfl, ‹_›⟩
theorem GV.ptr_inv {o off : Nat} {x : Value} (h : GV B ob g w (.ptr o off) x) : ∃ b, x = .pointer (some ⟨b, off, none⟩) ∧ g.tb o = some b := by have := h.rep; cases this; exact ⟨_, rfl, ‹_›⟩
theorem GV.ptr {o off b : Nat} (h : g.tb o = some b) (H : HInv B w0 ob g w) : GV B ob g w (.ptr o off) (.pointer (some ⟨b, off, none⟩)) :=
  ⟨.ptr h, trivial, by simpa [VV.ids] using (H.tbl o b h).1⟩

end
end Go.V
