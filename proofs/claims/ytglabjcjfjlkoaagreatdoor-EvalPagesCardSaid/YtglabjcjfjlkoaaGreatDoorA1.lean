/- V, part 0: the package's variables: in how many blocks they lie, and what is known of them; of this seat alone. Conditions: none. -/
import Derived.Below
import Derived.CallsIn
import Derived.Laws.Strings
import Derived.Laws.Cells
import Derived.ChangeKeysEq
import Derived.Laws.CopyRow
import Derived.Laws.Small
import Derived.Laws.StructEq
import Derived.Laws.Slices
import Derived.Laws.Panics
import Derived.Laws.OwnMore
import Derived.Lib.ConvBytes
import Derived.Laws.BytesString
namespace Go.V
open Go.RowKit

/-- the blocks of the package's variables that are looked at -/
def glow : Nat := 1
/-- what they hold -/
def GlobOk (w : World) : Prop := glow ≤ w.heap.size ∧ ∃ m, w.cell? ⟨0, 0, none⟩ = some (.int .i64 m)

/-- 'Below', and no draw is taken back -/
structure BelowD (B : Nat) (w w' : World) : Prop where
  b : Below B w w'
  d : w.drawn ≤ w'.drawn
theorem BelowD.refl (B : Nat) (w : World) : BelowD B w w := ⟨Below.refl _ _, Nat.le_refl _⟩
theorem BelowD.trans {B : Nat} {a b c : World} (h : BelowD B a b) (k : BelowD B b c) : BelowD B a c := ⟨h.b.trans k.b, Nat.le_trans h.d k.d⟩
theorem BelowD.mono {B B' : Nat} {w w' : World} (h : BelowD B w w') (hB : B' ≤ B) : BelowD B' w w' := ⟨h.b.mono hB, h.d⟩
theorem BelowD.drew {B : Nat} {a w : World} (h : BelowD B a w) : BelowD B a w.drew := ⟨h.b.drew, Nat.le_trans h.d (Nat.le_succ _)⟩
theorem BelowD.alloc {B : Nat} {a w : World} (h : BelowD B a w) (hB : B ≤ w.heap.size) (o : Obj) : BelowD B a (w.alloc o) := ⟨h.b.alloc hB o, h.d⟩
theorem BelowD.size {B : Nat} {w w' : World} (h : BelowD B w w') : w.heap.size ≤ w'.heap.size := h.b.size
theorem BelowD.block {B : Nat} {w w' : World} (h : BelowD B w w') : ∀ k, k < B → w'.heap[k]? = w.heap[k]? := h.b.block
theorem BelowD.cell {B : Nat} {w w' : World} (h : BelowD B w w') {p : Addr} (hp : p.block < B) : w'.cell? p = w.cell? p := h.b.cell hp
/-- such a world is the old one, so many draws on, with blocks behind -/
theorem BelowD.grow {w w' : World} (h : BelowD w.heap.size w w') : ∃ q os, w' = { w with drawn := w.drawn + q, heap := w.heap ++ os } := by
  refine ⟨w'.drawn - w.drawn, w'.heap.extract w.heap.size w'.heap.size, ?_⟩
  obtain ⟨⟨h1, h2, h3, h4, h5⟩, h6⟩ := h
  have e : w'.heap = w.heap ++ w'.heap.extract w.heap.size w'.heap.size := by
    apply Array.ext_getElem?
    intro k
    by_cases hk : k < w.heap.size
    · rw [h5 k hk, Array.getElem?_append_left hk]
    · rw [Array.getElem?_append_right (by omega), Array.getElem?_extract]
      by_cases hk2 : k < w'.heap.size
      · rw [if_pos (by omega)]; congr 1; omega
      · rw [if_neg (by omega), Array.getElem?_eq_none (by omega)]
  cases w'
  cases w
  simp only [World.mk.injEq] at *
  refine ⟨e, h2, by omega, h1, h3⟩

theorem GlobOk.mono {B : Nat} {w w' : World} (h : GlobOk w) (hb : BelowD B w w') (hB : glow ≤ B) : GlobOk w' := by
  obtain ⟨h1, m, h2⟩ := h
  refine ⟨Nat.le_trans h1 hb.size, m, ?_⟩
  have h3 : w'.heap[0]? = w.heap[0]? := hb.block 0 hB
  rw [← h2]
  simp only [World.cell?, h3]

end Go.V

/- V, part 1: a value-level language over the model's code trees: values, states, operations, code. Plain definitions: nothing of the machine is stated here. -/
namespace Go.V

/-- Values as data. 'sl es tok': a slice with elements es; tok 0: no handle; 1: a fresh handle; i+2: the handle that token object i counts. 'nils': a slice without capacity. 'dead': nothing is known. -/
inductive VV where
  | int (k : IntKind) (n : Int)
  | bool (b : Bool)
  | str (s : List UInt8)
  | nilp
  | ptr (o off : Nat)
  | pim (cs : List VV) (off : Nat)
  | nils
  | sl (es : List VV) (tok : Nat)
  | row (o off len : Nat)
  /-- an interface's value: a row, with its type -/
  | ifr (t o off len : Nat)
  /-- the same of an empty slice -/
  | ife (t : Nat)
  | nilm
  | mp (o : Nat)
  | nilf
  | fn (f : Nat) (cap : List VV)
  | yld (o : Nat)
  | it (o : Nat)
  | agg (cs : List VV)
  | tup (vs : List VV)
  | dead
  deriving Inhabited

def get : List (Nat × VV) → Nat → VV
  | [], _ => .dead
  | (k, v) :: r, s => if k = s then v else get r s

def put : List (Nat × VV) → Nat → VV → List (Nat × VV)
  | [], s, v => [(s, v)]
  | (k, u) :: r, s, v => if s = k then (s, v) :: r else if s < k then (s, v) :: (k, u) :: r else (k, u) :: put r s v

def del : List (Nat × VV) → List Nat → List (Nat × VV)
  | [], _ => []
  | (k, u) :: r, l => if l.contains k then del r l else (k, u) :: del r l

/-- It fills one cell of memory. -/
def VV.isCell : VV → Bool
  | .agg _ | .tup _ | .dead => false
  | _ => true

def VV.noTup : VV → Bool
  | .tup _ => false
  | _ => true

def VV.cells : VV → List VV
  | .agg cs => cs
  | v => [v]

/-- What is stored in an element of a slice: no handles, no nil slices. -/
def VV.strip0 : VV → VV
  | .sl es _ => .sl es 0
  | .nils => .sl [] 0
  | v => v
def VV.strip : VV → VV
  | .agg cs => .agg (cs.map VV.strip0)
  | v => v.strip0

/-- the same, but a nil slice stays one -/
def VV.stripN : VV → VV
  | .nils => .nils
  | v => v.strip

/-- One cell's data: nothing that leads to an object. -/
def VV.canon0 : VV → Bool
  | .int _ _ | .bool _ | .str _ | .nilp | .nilm | .nilf => true
  | .sl _ t => t == 0
  | .fn _ cap => cap.isEmpty
  | _ => false
def VV.canon : VV → Bool
  | .agg cs => cs.all VV.canon0
  | v => v.canon0

/-- what a map keeps of a value: a slice keeps its handle -/
def VV.keepH : VV → VV
  | .sl es (t + 2) => .sl es (t + 2)
  | v => v.strip
def VV.canonH : VV → Bool
  | .sl _ _ => true
  | v => v.canon

def VV.isNils : VV → Bool
  | .nils => true
  | _ => false

def VV.noHnd0 : VV → Bool
  | .sl _ t => t == 0
  | .tup _ => false
  | _ => true
def VV.noHnd : VV → Bool
  | .agg cs => cs.all VV.noHnd0
  | v => v.noHnd0

mutual
/-- All objects that a value names lie below n. -/
def VV.ids (n : Nat) : VV → Bool
  | .ptr o _ => o < n
  | .row o _ _ => o < n
  | .ifr _ o _ _ => o < n
  | .mp o => o < n
  | .yld o => o < n
  | .it o => o < n
  | .sl _ t => t < n + 2
  | .agg cs => idsL n cs
  | .tup cs => idsL n cs
  | .fn _ cs => idsL n cs
  | _ => true
def idsL (n : Nat) : List VV → Bool
  | [] => true
  | v :: r => VV.ids n v && idsL n r
end

inductive Opd where
  | t (s : Nat)
  | c (v : VV)
  | f (n : Nat)

def Opd.ev (env : List (Nat × VV)) : Opd → VV
  | .t s => get env s
  | .c v => v
  | .f n => .fn n []

/-- The kinds of scalars; what a comparison compares: numbers or strings, bools, structs of scalars. -/
inductive Kd where
  | i | b | s
  deriving DecidableEq
inductive Ty where
  | sc (k : Kd) | st (l : List Kd)

def Kd.fits : Kd → VV → Bool
  | .i, .int _ _ => true
  | .b, .bool _ => true
  | .s, .str _ => true
  | _, _ => false
def fitsL : List Kd → List VV → Bool
  | [], [] => true
  | k :: r, v :: s => k.fits v && fitsL r s
  | _, _ => false
def Ty.fits : Ty → VV → Bool
  | .sc q, v => q.fits v
  | .st l, .agg cs => fitsL l cs
  | _, _ => false

/-- The operations, their types resolved: n cells of a variable (0: one cell that is no struct), sz cells of an element, off a field's place. -/
inductive VOp where
  | mov (x : Opd)
  | pick (c a b : Opd)
  | alloc (zero : List VV)
  | box (x : Opd)
  | build (zero : List VV) (parts : List (Nat × Nat × Opd))
  | bsl (own : Bool) (sz : Nat) (zero : VV) (len : Nat) (parts : List (Nat × Opd))
  | load (n : Nat) (a : Opd)
  /-- a load, in a region that draws, from another object than those that the addresses in these slots name -/
  | load2 (ss : List Nat) (n : Nat) (a : Opd)
  /-- a load, in a region that draws, from another object than the last k -/
  | load3 (k n : Nat) (a : Opd)
  /-- a store, in a region that draws, into one of the last k objects -/
  | store3 (k n : Nat) (a x : Opd)
  /-- a store, in a region that draws, into another object than those that the addresses in these slots name -/
  | store2 (ss : List Nat) (n : Nat) (a x : Opd)
  /-- a variable that is made in a region that draws: the j-th of the last k objects was kept for it -/
  | fill (k j : Nat) (zero : List VV)
  /-- the elements of a row become zero values -/
  | clr (zero : List VV) (x : Opd)
  /-- the room of a nil slice -/
  | capo (x : Opd)
  /-- an operation of which V says nothing -/
  | dark
  /-- the bytes of a string in a row of its own; the string of a row of bytes -/
  | s2b (x : Opd)
  /-- an interface's value is made of a row -/
  | mkif (t : Nat) (x : Opd)
  | b2s (x : Opd)
  | store (n : Nat) (a x : Opd)
  | nilck (x : Opd)
  | bin (op : BinOp) (ty : Ty) (x y : Opd)
  | un (op : UnOp) (x : Opd)
  | cvi (k : IntKind) (x : Opd)
  | faddr (off : Nat) (x : Opd)
  | fld (off n : Nat) (x : Opd)
  | iaddr (sz : Nat) (x i : Opd)
  | idx (x i : Opd)
  | slc (sz : Nat) (x : Opd) (lo hi mx : Option Opd)
  | ext (x : Opd) (i : Nat)
  | len (kind : Nat) (x : Opd)
  | app (sz bytes : Nat) (x y : Opd)
  /-- append to nil: a row of its own -/
  | appr (sz bytes : Nat) (x y : Opd)
  | mm (isMax : Bool) (x y : Opd)
  /-- a slice that is made: the bytes of an element, its zero (of one cell), how many -/
  | mks (bytes : Nat) (zero : VV) (x : Opd)
  /-- a place in an array of n elements -/
  | aaddr (n sz : Nat) (x i : Opd)
  /-- a range over a map: its beginning, a step, the entry of the step -/
  | mrng (x : Opd)
  | mnext (x : Opd)
  | mentry (x : Opd)
  /-- is a slice nil (neg: is it not); of an empty one V does not know -/
  | isnil (neg : Bool) (x : Opd)
  | mkfn (f : Nat) (cap : List Opd)
  | mkmap
  | lkp (ty : Ty) (zero : VV) (ok : Bool) (m k : Opd)
  | mset (ty : Ty) (m k v : Opd)
  | mdel (ty : Ty) (m k : Opd)
  /-- own: the component of the result that is a fresh slice gets a handle: which, and the size of its elements -/
  | call (f : Nat) (args : List Opd) (own : Option (Option Nat × Nat))
  | callv (x : Opd) (args : List Opd) (own : Option (Option Nat × Nat))
  /-- a call that hands a nil slice on as one -/
  | calln (f : Nat) (args : List Opd) (own : Option (Option Nat × Nat))

structure VI where
  dst : Option Nat
  g : Option (Nat × Bool)
  op : VOp

inductive Ex where
  | nrm
  | ext (id : Nat)
  | ret
  deriving DecidableEq

inductive VC where
  | skip
  /-- draw: a region that draws its order; V takes it in this one -/
  | reg (ops : List VI) (draw : Option (List Nat))
  | seq (a b : VC)
  | cond (c : Opd) (a b : VC)
  | block (id : Nat) (c : VC)
  | loop (c : VC)
  | exit (id : Nat)
  | ret
  | scope (c : VC)
  /-- a range over a function; nest: within a round of another -/
  | rfn (nest : Bool) (nt : Nat) (f : Opd) (ps : List Nat) (a b : VC)
  /-- of the text alone: these slots are not read again; the objects from the call's k-th on are given up -/
  | drop (slots : List Nat) (k : Option Nat) (c : VC)
  /-- of the text alone: the slice in a slot (in the cell c of its object) gets a handle -/
  | own (s : Nat) (f : Option Nat) (sz : Nat) (c : VC)

instance : Inhabited VC := ⟨.skip⟩

/-- Objects of the running call: rows of cells; the count of a slice's handle; maps; iterators; a loop over a function: how many temporaries, what they were at its start, who takes the values, its code, its state (0 ready, 1 busy, 2 done, 3 exhausted) and its jump; the block of deferred calls beside it. -/
inductive Obj where
  | cells (cs : List VV)
  | tok (n sz : Nat)
  | map (es : List (VV × VV))
  | siter (s : List UInt8) (pos : Nat)
  | loop (nt : Nat) (env : List (Nat × VV)) (ps : List Nat) (a b : VC) (st : Nat) (pend : Ex)
  | dfr
  /-- a range over the map m, which is its alone meanwhile: what is left; what came last -/
  | miter (m : Nat) (left : List (VV × VV)) (cur : Option (VV × VV))
  | gone
  /-- kept for a variable that is to be made -/
  | resv
  deriving Inhabited

structure S0 where
  env : List (Nat × VV)
  ob : List Obj
/-- base: the objects of the caller; marks: the marks among the deferred calls -/
structure St extends S0 where
  base : Nat := 0
  marks : List Nat := []
  /-- the running call was handed data alone -/
  pure : Bool := false

structure VF where
  params : Nat
  ntmps : Nat
  /-- slots; or slots of addresses, and the cells behind them -/
  results : List (Nat × Option Nat)
  fresh : Option Nat
  body : VC

def byteInt (b : UInt8) : VV := .int .u8 b.toNat

/-- the bytes of a row -/
def bytesOf : List VV → Option (List UInt8)
  | [] => some []
  | .int .u8 n :: r => (bytesOf r).map (UInt8.ofNat n.toNat :: ·)
  | _ :: _ => none

def asI : VV → Option Int | .int _ n => some n | _ => none
def asB : VV → Option Bool | .bool b => some b | _ => none

def strLess : List UInt8 → List UInt8 → Bool
  | _, [] => false
  | [], _ :: _ => true
  | a :: x, b :: y => a < b || (a == b && strLess x y)

/-- == of scalars of one type -/
def eq0 : VV → VV → Option Bool
  | .int k a, .int k' b => if k = k' then some (a == b) else none
  | .bool a, .bool b => some (a == b)
  | .str a, .str b => some (a == b)
  | _, _ => none
def eqL : List VV → List VV → Option Bool
  | [], [] => some true
  | a :: x, b :: y => match eq0 a b with
    | some true => eqL x y
    | some false => some false
    | none => none
  | _, _ => none
def eqV : VV → VV → Option Bool
  | .agg a, .agg b => eqL a b
  | a, b => eq0 a b

/-- shifts: the count may be of another kind -/
def shI (op : BinOp) (k : IntKind) (a b : Int) : Option VV :=
  if b < 0 then none else match op with
  | .shl => some (.int k (k.wrap (a * 2 ^ min b.toNat k.bits)))
  | .shr => some (.int k (a.fdiv (2 ^ min b.toNat k.bits)))
  | _ => none
def bitI (k : IntKind) (r : BitVec k.bits) : VV := .int k (k.wrap r.toNat)

def binI (op : BinOp) (k : IntKind) (a b : Int) : Option VV :=
  match op with
  | .add => some (.int k (k.wrap (a + b)))
  | .sub => some (.int k (k.wrap (a - b)))
  | .mul => some (.int k (k.wrap (a * b)))
  | .quo => if b = 0 then none else some (.int k (k.wrap (a.tdiv b)))
  | .rem => if b = 0 then none else some (.int k (a.tmod b))
  | .eql => some (.bool (a == b))
  | .neq => some (.bool (a != b))
  | .lss => some (.bool (a < b))
  | .leq => some (.bool (a ≤ b))
  | .gtr => some (.bool (a > b))
  | .geq => some (.bool (a ≥ b))
  | .and => some (bitI k (BitVec.ofInt k.bits a &&& BitVec.ofInt k.bits b))
  | .or => some (bitI k (BitVec.ofInt k.bits a ||| BitVec.ofInt k.bits b))
  | .xor => some (bitI k (BitVec.ofInt k.bits a ^^^ BitVec.ofInt k.bits b))
  | .andNot => some (bitI k (BitVec.ofInt k.bits a &&& ~~~BitVec.ofInt k.bits b))
  | .shl => shI .shl k a b
  | .shr => shI .shr k a b

def binS (op : BinOp) (a b : List UInt8) : Option VV :=
  match op with
  | .add => if a.length + b.length ≤ 1000000000000000 then some (.str (a ++ b)) else none
  | .eql => some (.bool (a == b))
  | .neq => some (.bool (!(a == b)))
  | .lss => some (.bool (strLess a b))
  | .leq => some (.bool (strLess a b || a == b))
  | .gtr => some (.bool (!(strLess a b || a == b)))
  | .geq => some (.bool (!strLess a b))
  | _ => none

def binV (op : BinOp) : VV → VV → Option VV
  | .int k a, .int k' b => if k = k' then binI op k a b else shI op k a b
  | .str a, .str b => binS op a b
  | .bool a, .bool b => match op with
    | .eql => some (.bool (a == b))
    | .neq => some (.bool (!(a == b)))
    | _ => none
  | .agg a, .agg b => match op with
    | .eql => (eqL a b).map .bool
    | .neq => (eqL a b).map fun r => .bool !r
    | _ => none
  | _, _ => none

def setCells (cs : List VV) (off : Nat) : List VV → List VV
  | [] => cs
  | v :: r => setCells (cs.set off v) (off + 1) r

/-- the parts of a struct laid into its zero -/
def fillV (env : List (Nat × VV)) (cs : List VV) : List (Nat × Nat × Opd) → Option (List VV)
  | [] => some cs
  | (off, sz, x) :: r =>
    let v := (x.ev env).cells
    if v.length = sz ∧ off + sz ≤ cs.length ∧ v.all VV.isCell = true then fillV env (setCells cs off v) r else none

def fillE (env : List (Nat × VV)) (sz : Nat) (es : List VV) : List (Nat × Opd) → Option (List VV)
  | [] => some es
  | (i, x) :: r =>
    let v := (x.ev env).strip
    if v.cells.length = sz ∧ i < es.length ∧ v.canon = true then fillE env sz (es.set i v) r else none

def nthO (ob : List Obj) (i : Nat) : Obj := ob.getD i .gone

/-- the cells behind a pointer, and where in them it points -/
def deref (ob : List Obj) : VV → Option (List VV × Nat)
  | .ptr o off => match nthO ob o with
    | .cells cs => some (cs, off)
    | _ => none
  | .pim cs off => some (cs, off)
  | _ => none

def loadV (n : Nat) (cs : List VV) (off : Nat) : Option VV :=
  if n = 0 then cs[off]? else if off + n ≤ cs.length then some (.agg ((cs.drop off).take n)) else none

def hdSz : List VV → Nat → Bool
  | [], _ => true
  | e :: _, sz => e.cells.length == sz
def bound (env : List (Nat × VV)) (y : Nat) (x : Opd) : Option Nat :=
  match x.ev env with
  | .int _ i => if 0 ≤ i ∧ i ≤ y then some i.toNat else none
  | _ => none
def bo (env : List (Nat × VV)) (y d : Nat) : Option Opd → Option Nat
  | none => some d
  | some x => bound env y x

def mfind (k : VV) : List (VV × VV) → Option (Option VV)
  | [] => some none
  | (k', v) :: r => match eqV k k' with
    | some true => some (some v)
    | some false => mfind k r
    | none => none
def mput (k v : VV) : List (VV × VV) → Option (List (VV × VV))
  | [] => some [(k, v)]
  | (k', u) :: r => match eqV k k' with
    | some true => some ((k, v) :: r)
    | some false => (mput k v r).map ((k', u) :: ·)
    | none => none
def mrem (k : VV) : List (VV × VV) → Option (List (VV × VV))
  | [] => some []
  | (k', u) :: r => match eqV k k' with
    | some true => some r
    | some false => (mrem k r).map ((k', u) :: ·)
    | none => none

/-- each element, and the others -/
def picks {α : Type} : List α → List (α × List α)
  | [] => []
  | x :: r => (x, r) :: (picks r).map fun p => (p.1, x :: p.2)

/-- an address that names no object of those in these slots -/
def sepO (env : List (Nat × VV)) (a : VV) : List Nat → Bool
  | [] => true
  | s :: r => (match get env s, a with
    | .ptr o _, .ptr o' _ => !(o == o')
    | .ptr _ _, .pim _ _ => true
    | _, _ => false) && sepO env a r

/-- the cells of ln zero values -/
def zeroRow (zero : List VV) (ln : Nat) : List VV := (List.range (ln * zero.length)).map fun i => zero.getD (i % zero.length) .dead
/-- an address of an object below the m-th, or of data -/
def oldO (m : Nat) : VV → Bool
  | .ptr o _ => decide (o < m)
  | .pim _ _ => true
  | _ => false
/-- an address of the m-th object or a later one -/
def newO (m : Nat) : VV → Bool
  | .ptr o _ => decide (m ≤ o)
  | _ => false

/-- a slice without room -/
def emptyO (ob : List Obj) : VV → Bool
  | .nils => true
  | .sl [] (t + 2) => match nthO ob t with
    | .tok 0 _ => true
    | _ => false
  | _ => false

/-- One operation: its value, and the objects behind it. 'none': V does not say. -/
def VOp.ev (st : S0) : VOp → Option (VV × List Obj)
  | .mov x => some (x.ev st.env, st.ob)
  | .pick c a b => match c.ev st.env with
    | .bool t => some (if t then a.ev st.env else b.ev st.env, st.ob)
    | _ => none
  | .alloc zero => some (.ptr st.ob.length 0, st.ob ++ [.cells zero])
  | .box x => match x.ev st.env with
    | .dead | .tup _ => none
    | v => some (.ptr st.ob.length 0, st.ob ++ [.cells v.cells])
  | .build zero parts => (fillV st.env zero parts).map fun cs => (.agg cs, st.ob)
  | .bsl own sz zero ln parts =>
    match fillE st.env sz (List.replicate ln zero) parts with
    | none => none
    | some es => if own then some (.sl es (st.ob.length + 2), st.ob ++ [.tok ln sz]) else some (.sl es 0, st.ob)
  | .load n a => match deref st.ob (a.ev st.env) with
    | some (cs, off) => (loadV n cs off).map fun v => (v, st.ob)
    | none => none
  | .load2 ss n a => if sepO st.env (a.ev st.env) ss then match deref st.ob (a.ev st.env) with
    | some (cs, off) => (loadV n cs off).map fun v => (v, st.ob)
    | none => none
    else none
  | .load3 k n a => if oldO (st.ob.length - k) (a.ev st.env) then match deref st.ob (a.ev st.env) with
    | some (cs, off) => (loadV n cs off).map fun v => (v, st.ob)
    | none => none
    else none
  | .store n a x => match a.ev st.env with
    | .ptr o off => match nthO st.ob o with
      | .cells cs => let v := (x.ev st.env).cells
        if v.length = n ∧ off + n ≤ cs.length ∧ v.all VV.isCell = true then some (.dead, st.ob.set o (.cells (setCells cs off v))) else none
      | _ => none
    | _ => none
  | .store3 k n a x => if newO (st.ob.length - k) (a.ev st.env) then match a.ev st.env with
    | .ptr o off => match nthO st.ob o with
      | .cells cs => let v := (x.ev st.env).cells
        if v.length = n ∧ off + n ≤ cs.length ∧ v.all VV.isCell = true then some (.dead, st.ob.set o (.cells (setCells cs off v))) else none
      | _ => none
    | _ => none
    else none
  | .store2 ss n a x => if sepO st.env (a.ev st.env) ss then match a.ev st.env with
    | .ptr o off => match nthO st.ob o with
      | .cells cs => let v := (x.ev st.env).cells
        if v.length = n ∧ off + n ≤ cs.length ∧ v.all VV.isCell = true then some (.dead, st.ob.set o (.cells (setCells cs off v))) else none
      | _ => none
    | _ => none
    else none
  | .fill k j zero => match nthO st.ob (st.ob.length - k + j) with
    | .resv => some (.ptr (st.ob.length - k + j) 0, st.ob.set (st.ob.length - k + j) (.cells zero))
    | _ => none
  | .nilck x => match x.ev st.env with
    | .ptr o off => some (.ptr o off, st.ob)
    | .pim cs off => some (.pim cs off, st.ob)
    | .fn f cap => some (.fn f cap, st.ob)
    | .yld o => some (.yld o, st.ob)
    | _ => none
  | .bin op ty x y => if ty.fits (x.ev st.env) then (binV op (x.ev st.env) (y.ev st.env)).map fun v => (v, st.ob) else none
  | .un op x => match op, x.ev st.env with
    | .neg, .int k n => some (.int k (k.wrap (0 - n)), st.ob)
    | .not, .bool b => some (.bool (!b), st.ob)
    | _, _ => none
  | .cvi k x => match x.ev st.env with
    | .int _ n => some (.int k (k.wrap n), st.ob)
    | _ => none
  | .faddr off x => match x.ev st.env with
    | .ptr o f => some (.ptr o (f + off), st.ob)
    | .pim cs f => some (.pim cs (f + off), st.ob)
    | _ => none
  | .fld off n x => match x.ev st.env with
    | .agg cs => (loadV n cs off).map fun v => (v, st.ob)
    | _ => none
  | .iaddr sz x i => match x.ev st.env, i.ev st.env with
    | .sl es _, .int _ k => match (if 0 ≤ k then es[k.toNat]? else none) with
      | some e => if e.cells.length = sz then some (.pim e.cells 0, st.ob) else none
      | none => none
    | .row o off ln, .int _ k => if 0 ≤ k ∧ k < ln then some (.ptr o (off + k.toNat * sz), st.ob) else none
    | _, _ => none
  | .idx x i => match x.ev st.env, i.ev st.env with
    | .str s, .int _ k => match (if 0 ≤ k then s[k.toNat]? else none) with
      | some b => some (byteInt b, st.ob)
      | none => none
    | _, _ => none
  | .slc 0 x lo hi mx => match x.ev st.env with
    | .str s => if mx.isSome then none else
      (bo st.env s.length s.length hi).bind fun h => (bo st.env h 0 lo).bind fun l => some (.str ((s.take h).drop l), st.ob)
    | _ => none
  | .slc (sz + 1) x lo hi mx => match x.ev st.env with
    | .sl es _ => if (mx.isSome ∧ hi.isNone) ∨ hdSz es (sz + 1) = false then none else
      (bo st.env es.length es.length mx).bind fun m => (bo st.env m es.length hi).bind fun h => (bo st.env h 0 lo).bind fun l =>
        some (if mx.isSome ∧ m = l then .nils else .sl ((es.take h).drop l) 0, st.ob)
    | .row o off ln => if mx.isSome then none else
      (bo st.env ln ln hi).bind fun h => (bo st.env h 0 lo).bind fun l => some (if h = l then .sl [] 0 else .row o (off + l * (sz + 1)) (h - l), st.ob)
    | .nils => if mx.isSome ∧ hi.isNone then none else
      (bo st.env 0 0 mx).bind fun m => (bo st.env m 0 hi).bind fun h => (bo st.env h 0 lo).bind fun _ => some (.nils, st.ob)
    | _ => none
  | .ext x i => match x.ev st.env with
    | .tup vs => match vs[i]? with
      | some v => some (v, st.ob)
      | none => none
    | _ => none
  | VOp.len 0 x => match x.ev st.env with
    | .str s => some (.int .i64 s.length, st.ob)
    | _ => none
  | VOp.len 1 x => match x.ev st.env with
    | .sl es _ => some (.int .i64 es.length, st.ob)
    | .nils => some (.int .i64 0, st.ob)
    | .row _ _ ln => some (.int .i64 ln, st.ob)
    | _ => none
  | VOp.len _ x => match x.ev st.env with
    | .nilm => some (.int .i64 0, st.ob)
    | .mp o => match nthO st.ob o with
      | .map es => some (.int .i64 es.length, st.ob)
      | _ => none
    | _ => none
  | .app sz bytes x y => match (match y.ev st.env with | .sl ys _ => some ys | .nils => some [] | _ => none) with
    | none => none
    | some ys => if hdSz ys sz = false then none else match x.ev st.env with
      | .sl es (t + 2) => match nthO st.ob t with
        | .tok n s => if es.length = n ∧ s = sz ∧ (es.length + ys.length) * bytes ≤ 35184372088832 then some (.sl (es ++ ys) (t + 2), st.ob.set t (.tok (n + ys.length) s)) else none
        | _ => none
      | .nils => if ys.length * bytes ≤ 35184372088832 then some (.sl ys (st.ob.length + 2), st.ob ++ [.tok ys.length sz]) else none
      | _ => none
  | .appr sz bytes x y => match emptyO st.ob (x.ev st.env), y.ev st.env with
    | true, .sl ys _ => if ys.isEmpty = true then some (.nils, st.ob) else if hdSz ys sz = true ∧ ys.length * bytes ≤ 35184372088832 then some (.row st.ob.length 0 ys.length, st.ob ++ [.cells (ys.flatMap VV.cells)]) else none
    | _, _ => none
  | .mm isMax x y => match x.ev st.env, y.ev st.env with
    | .int k a, .int k' b => if k = k' then some (.int k (if isMax then (if a ≥ b then a else b) else (if a ≤ b then a else b)), st.ob) else none
    | _, _ => none
  | .mkif t x => match x.ev st.env with
    | .row o off ln => some (.ifr t o off ln, st.ob)
    | .nils => some (.ife t, st.ob)
    | .sl es _ => if es.isEmpty = true then some (.ife t, st.ob) else none
    | _ => none
  | .s2b x => match x.ev st.env with
    | .str s => some (.row st.ob.length 0 s.length, st.ob ++ [.cells (s.map byteInt)])
    | _ => none
  | .b2s x => match x.ev st.env with
    | .row o off ln => match nthO st.ob o with
      | .cells cs => if off + ln ≤ cs.length then (bytesOf ((cs.drop off).take ln)).map fun s => (.str s, st.ob) else none
      | _ => none
    | _ => none
  | .mks bytes zero x => match x.ev st.env with
    | .int _ n => if 0 ≤ n ∧ n * bytes ≤ 281474976710656 then some (.row st.ob.length 0 n.toNat, st.ob ++ [.cells (List.replicate n.toNat zero)]) else none
    | _ => none
  | .aaddr n sz x i => match x.ev st.env, i.ev st.env with
    | .ptr o f, .int _ k => if 0 ≤ k ∧ k < n then some (.ptr o (f + k.toNat * sz), st.ob) else none
    | .pim cs f, .int _ k => if 0 ≤ k ∧ k < n then some (.pim cs (f + k.toNat * sz), st.ob) else none
    | _, _ => none
  | .mkfn f cap => if (cap.map fun x => (x.ev st.env).strip).all VV.noHnd then some (.fn f (cap.map fun x => (x.ev st.env).strip), st.ob) else none
  | .mkmap => some (.mp st.ob.length, st.ob ++ [.map []])
  | .lkp ty zero ok m k => if !ty.fits (k.ev st.env) then none else match (match m.ev st.env with
      | .nilm => some none
      | .mp o => match nthO st.ob o with
        | .map es => mfind (k.ev st.env) es
        | _ => none
      | _ => none) with
    | none => none
    | some r => some (if ok then .tup [r.getD zero, .bool r.isSome] else r.getD zero, st.ob)
  | .mset ty m k v => if !ty.fits (k.ev st.env) then none else match m.ev st.env with
    | .mp o => match nthO st.ob o with
      | .map es => if (k.ev st.env).canon then match mput (k.ev st.env) (v.ev st.env).keepH es with
        | some es' => if (v.ev st.env).keepH.canonH then some (.dead, st.ob.set o (.map es')) else none
        | none => none
        else none
      | _ => none
    | _ => none
  | .mdel ty m k => if !ty.fits (k.ev st.env) then none else match m.ev st.env with
    | .mp o => match nthO st.ob o with
      | .map es => match mrem (k.ev st.env) es with
        | some es' => some (.dead, st.ob.set o (.map es'))
        | none => none
      | _ => none
    | _ => none
  | .mrng x => match x.ev st.env with
    | .mp o => match nthO st.ob o with
      | .map es => some (.it st.ob.length, st.ob.set o .gone ++ [.miter o (es.map fun e => (e.1, e.2.strip)) none])
      | _ => none
    | _ => none
  | .mentry x => match x.ev st.env with
    | .it o => match nthO st.ob o with
      | .miter _ _ (some e) => some (.tup [e.1, e.2], st.ob)
      | _ => none
    | _ => none
  | .clr zero x => match x.ev st.env with
    | .nils => some (.dead, st.ob)
    | .sl [] _ => some (.dead, st.ob)
    | .row o off ln => match nthO st.ob o with
      | .cells cs => if 0 < ln ∧ off + ln * zero.length ≤ cs.length then some (.dead, st.ob.set o (.cells (setCells cs off (zeroRow zero ln)))) else none
      | _ => none
    | _ => none
  | .capo x => match x.ev st.env with
    | .nils => some (.int .i64 0, st.ob)
    | _ => none
  | .dark => none
  | .call .. | .callv .. | .calln .. | .mnext _ | .isnil .. => none

end Go.V

/- V, part 2: what it means that a value of V stands for a value of the machine, in a world. -/
namespace Go.V
open Go.RowKit

/-- Beside a state: F: how many cells of a block are data that nobody turns; tb: the blocks of the objects; kb: the blocks at whose data's end a handle stands. -/
structure Gh where
  F : Nat → Nat
  tb : Nat → Option Nat
  kb : Nat → Option Nat
  cm : VC → Nat → Code → Prop

inductive Rep (w : World) (F : Nat → Nat) (tb : Nat → Option Nat) : VV → Value → Prop
  | int (k : IntKind) (n : Int) : Rep w F tb (.int k n) (.int k n)
  | bool (b : Bool) : Rep w F tb (.bool b) (.bool b)
  | str {s : List UInt8} {b : ByteArray} (h : b.data.toList = s) : Rep w F tb (.str s) (.string b)
  | nilp : Rep w F tb .nilp (.pointer none)
  | ptr {o off b : Nat} (h : tb o = some b) : Rep w F tb (.ptr o off) (.pointer (some ⟨b, off, none⟩))
  | pim {cs : List VV} {off b o : Nat} (vals : Nat → Value) (hc : cs.all VV.canon0 = true)
      (h : ∀ j, j < cs.length → w.cell? ⟨b, o + j, none⟩ = some (vals j))
      (hr : ∀ j (h : j < cs.length), Rep w F tb cs[j] (vals j)) (hF : o + cs.length ≤ F b) : Rep w F tb (.pim cs off) (.pointer (some ⟨b, o + off, none⟩))
  | nils {a : Option Addr} : Rep w F tb .nils (.slice a 0 0)
  | slE {t : Nat} {a : Option Addr} {cap : Nat} : Rep w F tb (.sl [] t) (.slice a 0 cap)
  | sl {es : List VV} {t b o cap sz : Nat} (vals : Nat → Nat → Value) (hne : es ≠ []) (hcap : es.length ≤ cap) (hsz : 0 < sz)
      (hc : ∀ i (h : i < es.length), es[i].canon = true ∧ es[i].cells.length = sz)
      (h : ∀ i (h : i < es.length) j, j < es[i].cells.length → w.cell? ⟨b, o + i * sz + j, none⟩ = some (vals i j))
      (hr : ∀ i (h : i < es.length) j (h' : j < es[i].cells.length), Rep w F tb es[i].cells[j] (vals i j))
      (hF : o + es.length * sz ≤ F b) : Rep w F tb (.sl es t) (.slice (some ⟨b, o, none⟩) es.length cap)
  | row {o off ln cap b : Nat} (h : tb o = some b) (hl : ln ≤ cap) : Rep w F tb (.row o off ln) (.slice (some ⟨b, off, none⟩) ln cap)
  | ifr {t o off ln cap b : Nat} (h : tb o = some b) (hl : ln ≤ cap) : Rep w F tb (.ifr t o off ln) (.iface t (.slice (some ⟨b, off, none⟩) ln cap))
  | ife {t cap : Nat} {a : Option Addr} : Rep w F tb (.ife t) (.iface t (.slice a 0 cap))
  | nilm : Rep w F tb .nilm (.map none)
  | mp {o b : Nat} (h : tb o = some b) : Rep w F tb (.mp o) (.map (some b))
  | nilf : Rep w F tb .nilf .nilFunc
  | fn {f : Nat} {cap : List VV} {xs : Array Value} (hcn : cap.all VV.noHnd = true) (hl : xs.size = cap.length) (hr : ∀ j (h : j < cap.length), Rep w F tb cap[j] (xs[j]'(hl ▸ h))) :
      Rep w F tb (.fn f cap) (.func (.func f) #[] xs)
  | yld {o b : Nat} (h : tb o = some b) : Rep w F tb (.yld o) (.func (.yield b) #[] #[])
  | it {o b : Nat} (h : tb o = some b) : Rep w F tb (.it o) (.pointer (some ⟨b, 0, none⟩))
  | agg {cs : List VV} {xs : Array Value} (hl : xs.size = cs.length) (hc : cs.all VV.isCell = true) (hr : ∀ j (h : j < cs.length), Rep w F tb cs[j] (xs[j]'(hl ▸ h))) :
      Rep w F tb (.agg cs) (.agg xs)
  | tup {cs : List VV} {xs : Array Value} (hl : xs.size = cs.length) (hc : cs.all VV.noTup = true) (hr : ∀ j (h : j < cs.length), Rep w F tb cs[j] (xs[j]'(hl ▸ h))) :
      Rep w F tb (.tup cs) (.tuple xs)
  | dead {x : Value} : Rep w F tb .dead x

theorem idsL_get {n : Nat} : ∀ {l : List VV}, idsL n l = true → ∀ j (h : j < l.length), l[j].ids n = true
  | [], _, j, h => absurd h (by simp)
  | v :: r, hl, 0, _ => by simp only [idsL, Bool.and_eq_true] at hl; exact hl.1
  | v :: r, hl, j + 1, h => by
    simp only [idsL, Bool.and_eq_true] at hl
    exact idsL_get hl.2 j (by simpa using h)

theorem idsL_of {n : Nat} : ∀ {l : List VV}, (∀ v ∈ l, v.ids n = true) → idsL n l = true
  | [], _ => rfl
  | v :: r, h => by simp only [idsL, Bool.and_eq_true]; exact ⟨h v (by simp), idsL_of fun u hu => h u (by simp [hu])⟩

theorem canon0_ids {v : VV} (n : Nat) (h : v.canon0 = true) : v.ids n = true := by
  cases v with
  | sl es t => simp only [VV.canon0, beq_iff_eq] at h; subst h; simp [VV.ids]
  | fn f cap => simp only [VV.canon0, List.isEmpty_iff] at h; subst h; simp [VV.ids, idsL]
  | _ => first | rfl | (simp [VV.canon0] at h)

theorem canon_cells {v : VV} (h : v.canon = true) : v.cells.all VV.canon0 = true := by
  cases v <;> simp_all [VV.canon, VV.cells]

theorem canon0_isCell {v : VV} (h : v.canon0 = true) : v.isCell = true := by
  cases v <;> simp_all [VV.canon0, VV.isCell]

/-- What a value stands for outlives what turns elsewhere in memory. -/
theorem Rep.mono {w w' : World} {F F' : Nat → Nat} {tb tb' : Nat → Option Nat} {n : Nat}
    (hw : ∀ b o, o < F b → w'.cell? ⟨b, o, none⟩ = w.cell? ⟨b, o, none⟩) (hF : ∀ b, F b ≤ F' b) (ht : ∀ i b, i < n → tb i = some b → tb' i = some b)
    {v : VV} {x : Value} (h : Rep w F tb v x) : v.ids n = true → Rep w' F' tb' v x := by
  induction h with
  | int k n => exact fun _ => .int k n
  | bool b => exact fun _ => .bool b
  | str h => exact fun _ => .str h
  | nilp => exact fun _ => .nilp
  | ptr h => intro hi; simp only [VV.ids, decide_eq_true_eq] at hi; exact .ptr (ht _ _ hi h)
  | pim vals hc h hr hFb ih =>
    intro _
    refine .pim vals hc (fun j hj => ?_) (fun j hj => ih j hj (canon0_ids n (List.all_eq_true.1 hc _ (List.getElem_mem hj)))) (Nat.le_trans hFb (hF _))
    rw [hw _ _ (by omega)]; exact h j hj
  | nils => exact fun _ => .nils
  | slE => exact fun _ => .slE
  | @sl es t b o cap sz vals hne hcap hsz hc h hr hFb ih =>
    intro _
    refine .sl vals hne hcap hsz hc (fun i hi j hj => ?_) (fun i hi j hj => ih i hi j hj (canon0_ids n (List.all_eq_true.1 (canon_cells (hc i hi).1) _ (List.getElem_mem hj)))) (Nat.le_trans hFb (hF _))
    rw [hw]
    · exact h i hi j hj
    · have h1 := (hc i hi).2
      have h2 : (i + 1) * sz ≤ es.length * sz := Nat.mul_le_mul_right _ hi
      rw [Nat.add_mul, Nat.one_mul] at h2
      omega
  | row h hl => intro hi; simp only [VV.ids, decide_eq_true_eq] at hi; exact .row (ht _ _ hi h) hl
  | ifr h hl => intro hi; simp only [VV.ids, decide_eq_true_eq] at hi; exact .ifr (ht _ _ hi h) hl
  | ife => exact fun _ => .ife
  | nilm => exact fun _ => .nilm
  | mp h => intro hi; simp only [VV.ids, decide_eq_true_eq] at hi; exact .mp (ht _ _ hi h)
  | nilf => exact fun _ => .nilf
  | fn hcn hl hr ih => intro hi; exact .fn hcn hl fun j hj => ih j hj (idsL_get (by simpa [VV.ids] using hi) j hj)
  | yld h => intro hi; simp only [VV.ids, decide_eq_true_eq] at hi; exact .yld (ht _ _ hi h)
  | it h => intro hi; simp only [VV.ids, decide_eq_true_eq] at hi; exact .it (ht _ _ hi h)
  | agg hl hc hr ih => intro hi; exact .agg hl hc fun j hj => ih j hj (idsL_get (by simpa [VV.ids] using hi) j hj)
  | tup hl hc hr ih => intro hi; exact .tup hl hc fun j hj => ih j hj (idsL_get (by simpa [VV.ids] using hi) j hj)
  | dead => exact fun _ => .dead

/-- A handle that is up to date: the slice ends where its block's data end. -/
def CurSl (B : Nat) (g : Gh) (w : World) (t sz n : Nat) (x : Value) : Prop :=
  (∃ a, x = .slice a 0 0 ∧ n = 0) ∨
  ∃ b o cap arr ty, g.kb t = some b ∧ x = .slice (some ⟨b, o, none⟩) n cap ∧ n ≤ cap ∧ w.heap[b]? = some (.cells arr ty (0, 0)) ∧ o + cap * sz ≤ arr.size ∧ g.F b = o + n * sz ∧ B ≤ b ∧ 0 < n ∧ o = 0

def Hnd1 (B : Nat) (ob : List Obj) (g : Gh) (w : World) : VV → Value → Prop
  | .sl es (t + 2), x => ∃ n sz, nthO ob t = .tok n sz ∧ 0 < sz ∧ es.length ≤ n ∧ (es.length = n → CurSl B g w t sz n x) ∧ (∀ i (h : i < es.length), es[i].cells.length = sz)
  | _, _ => True

def Hnd (B : Nat) (ob : List Obj) (g : Gh) (w : World) : VV → Value → Prop
  | .agg cs, .agg xs => ∀ (j : Nat) v x, cs[j]? = some v → xs[j]? = some x → Hnd1 B ob g w v x
  | .tup cs, .tuple xs => ∀ (j : Nat) v x, cs[j]? = some v → xs[j]? = some x → Hnd1 B ob g w v x ∧
      ∀ ds ys, v = .agg ds → x = .agg ys → ∀ (k : Nat) u y, ds[k]? = some u → ys[k]? = some y → Hnd1 B ob g w u y
  | v, x => Hnd1 B ob g w v x

theorem Hnd.sl {B : Nat} {ob : List Obj} {g : Gh} {w : World} {es : List VV} {t : Nat} {x : Value} : Hnd B ob g w (.sl es t) x ↔ Hnd1 B ob g w (.sl es t) x := by
  cases x <;> exact Iff.rfl

/-- A good value: it stands for x; its handles are as told; it names objects that are there. -/
structure GV (B : Nat) (ob : List Obj) (g : Gh) (w : World) (v : VV) (x : Value) : Prop where
  rep : Rep w g.F g.tb v x
  hnd : Hnd B ob g w v x
  ids : v.ids ob.length = true

def stOf : Nat → Option LoopState
  | 0 => some .ready
  | 1 => some .busy
  | 2 => some .done
  | 3 => some .exhausted
  | _ => none
def pendOf : Ex → Option Code
  | .nrm => none
  | .ext id => some (.exit id)
  | .ret => some .ret

/-- the stamps of a map's entries -/
def Born (arr : Array MapEntry) (clock : Nat) : Prop := (∀ x ∈ arr.toList, x.born < clock) ∧ (arr.toList.map (·.born)).Nodup

def EntR (w : World) (F : Nat → Nat) (tb : Nat → Option Nat) (e : VV × VV) (x : MapEntry) : Prop := e.1.canon = true ∧ e.2.canon = true ∧ Rep w F tb e.1 x.key ∧ Rep w F tb e.2 x.val

/-- the entries that an iterator has not handed out -/
def leftM (arr : Array MapEntry) (seen : Array Nat) : List MapEntry := arr.toList.filter fun x => !seen.contains x.born

/-- a row of cells of which nothing is frozen -/
def Cel (w : World) (b : Nat) (arr : Array Value) (ty : TypeId) : Prop := ∃ fr : Nat × Nat, (fr = (0, 0) ∨ arr.size ≤ fr.1) ∧ w.heap[b]? = some (.cells arr ty fr)
theorem Cel.new {w : World} {b : Nat} {arr : Array Value} {ty : TypeId} (h : w.heap[b]? = some (.cells arr ty (0, 0))) : Cel w b arr ty := ⟨_, .inl rfl, h⟩
theorem Cel.keep {w w' : World} {b : Nat} {arr : Array Value} {ty : TypeId} (h : Cel w b arr ty) (k : w'.heap[b]? = w.heap[b]?) : Cel w' b arr ty := by
  obtain ⟨fr, h1, h2⟩ := h
  exact ⟨fr, h1, k.trans h2⟩

def ObR (B : Nat) (ob : List Obj) (g : Gh) (w : World) (i : Nat) : Obj → Prop
  | .cells cs => ∃ b arr ty, g.tb i = some b ∧ B ≤ b ∧ g.F b = 0 ∧ Cel w b arr ty ∧ ∃ hl : cs.length ≤ arr.size,
      ∀ j (h : j < cs.length), cs[j].isCell = true ∧ GV B ob g w cs[j] (arr[j]'(Nat.lt_of_lt_of_le h hl))
  | .map es => ∃ b arr clock, g.tb i = some b ∧ (B ≤ b ∧ Born arr clock) ∧ g.F b = 0 ∧ w.heap[b]? = some (.map arr clock) ∧ ∃ hl : arr.size = es.length,
      ∀ j (h : j < es.length), es[j].1.canon = true ∧ es[j].2.canonH = true ∧ Rep w g.F g.tb es[j].1 (arr[j]'(hl ▸ h)).key ∧ GV B ob g w es[j].2 (arr[j]'(hl ▸ h)).val
  | .siter s pos => ∃ b bs, g.tb i = some b ∧ B ≤ b ∧ g.F b = 0 ∧ w.heap[b]? = some (.stringIter bs pos) ∧ bs.data.toList = s
  | .tok _ sz => 0 < sz ∧ g.tb i = none
  | .loop nt env ps a b st pend => ∃ blk r, g.tb i = some blk ∧ B ≤ blk ∧ g.F blk = 0 ∧ w.heap[blk]? = some (.loop r) ∧ r.tmps.size = nt ∧ (∀ s, GV B ob g w (get env s) (r.tmps.getD s Go.undef)) ∧
      r.params.toList = ps ∧ g.cm a nt r.assign ∧ g.cm b nt r.body ∧ stOf st = some r.state ∧ r.pending = pendOf pend
  | .dfr => ∃ b, g.tb i = some b ∧ B ≤ b ∧ g.F b = 0 ∧ w.heap[b]? = some (.deferred (some []))
  | .miter m left cur => ∃ b bm arr clock since seen c0, g.tb i = some b ∧ B ≤ b ∧ g.F b = 0 ∧ w.heap[b]? = some (.mapIter (some bm) since seen c0) ∧ nthO ob m = .gone ∧ g.tb m = some bm ∧ w.heap[bm]? = some (.map arr clock) ∧
      (∀ x ∈ arr.toList, x.born < since) ∧ since ≤ c0 ∧ (arr.toList.map (·.born)).Nodup ∧ c0 = clock ∧ (∃ hl : (leftM arr seen).length = left.length, ∀ j (h : j < left.length), EntR w g.F g.tb left[j] ((leftM arr seen)[j]'(hl ▸ h))) ∧
      ∀ e, cur = some e → ∃ x ∈ arr.toList, seen.back? = some x.born ∧ EntR w g.F g.tb e x
  | .gone => True
  | .resv => g.tb i = none

/-- Where the call began: its world; what was data then. -/
structure W0 where
  w : World
  F : Nat → Nat
  keep : VV → Value → Prop := fun _ _ => False
  cm : VC → Nat → Code → Prop

structure HInv (B : Nat) (w0 : W0) (ob : List Obj) (g : Gh) (w : World) : Prop where
  below : BelowD B w0.w w
  hB : B ≤ w.heap.size
  fz : ∀ b, w.heap.size ≤ b → g.F b = 0
  f0 : ∀ b, b < B → g.F b = w0.F b
  /-- and: what the package's variables hold -/
  c0 : g.cm = w0.cm ∧ glow ≤ B ∧ GlobOk w0.w
  tbl : ∀ i b, g.tb i = some b → i < ob.length ∧ b < w.heap.size
  kbl : ∀ i b, g.kb i = some b → i < ob.length ∧ b < w.heap.size
  inj : ∀ i j b, g.tb i = some b → g.tb j = some b → i = j
  injk : ∀ i j b, g.kb i = some b → g.kb j = some b → i = j
  apart : ∀ i j b, g.tb i = some b → g.kb j = some b → False
  obs : ∀ i (h : i < ob.length), ObR B ob g w i ob[i]

theorem HInv.glob {B : Nat} {w0 : W0} {ob : List Obj} {g : Gh} {w : World} (H : HInv B w0 ob g w) : GlobOk w := H.c0.2.2.mono H.below H.c0.2.1

/-- What is known of every good value when memory turns from (ob, g, w) to (ob', g', w'). -/
def Pres (B : Nat) (ob : List Obj) (g : Gh) (w : World) (ob' : List Obj) (g' : Gh) (w' : World) : Prop :=
  ∀ v x, GV B ob g w v x → GV B ob' g' w' v x

theorem Pres.refl (B : Nat) (ob : List Obj) (g : Gh) (w : World) : Pres B ob g w ob g w := fun _ _ h => h
theorem Pres.trans {B : Nat} {o1 o2 o3 : List Obj} {g1 g2 g3 : Gh} {w1 w2 w3 : World} (h : Pres B o1 g1 w1 o2 g2 w2) (k : Pres B o2 g2 w2 o3 g3 w3) : Pres B o1 g1 w1 o3 g3 w3 :=
  fun v x hv => k v x (h v x hv)

theorem ids_mono {n m : Nat} (hn : n ≤ m) : (∀ v : VV, v.ids n = true → v.ids m = true) ∧ ∀ l : List VV, idsL n l = true → idsL m l = true := by
  constructor
  · intro v
    induction v using VV.rec (motive_2 := fun l => idsL n l = true → idsL m l = true) with
    | _ => simp_all [VV.ids, idsL] <;> omega
  · intro l
    induction l with
    | nil => simp [idsL]
    | cons v r ih =>
      simp only [idsL, Bool.and_eq_true]
      rintro ⟨h1, h2⟩
      refine ⟨?_, ih h2⟩
      clear ih h2
      induction v using VV.rec (motive_2 := fun l => idsL n l = true → idsL m l = true) with
      | _ => simp_all [VV.ids, idsL] <;> omega

/-- The one lemma for every change of memory. 'hh': each handle that is told after the change was told before it, and the block at whose end it stands has kept its size and its data's end, unless its count has grown. -/
theorem Pres.of {B : Nat} {ob ob' : List Obj} {g g' : Gh} {w w' : World} (hlen : ob.length ≤ ob'.length)
    (hw : ∀ b o, o < g.F b → w'.cell? ⟨b, o, none⟩ = w.cell? ⟨b, o, none⟩) (hF : ∀ b, g.F b ≤ g'.F b) (ht : ∀ i b, i < ob.length → g.tb i = some b → g'.tb i = some b)
    (hh : ∀ t n sz, nthO ob t = .tok n sz → ∃ n', nthO ob' t = .tok n' sz ∧ n ≤ n' ∧ (n' = n → ∀ x, CurSl B g w t sz n x → CurSl B g' w' t sz n x)) :
    Pres B ob g w ob' g' w' := by
  have h1 : ∀ v x, Hnd1 B ob g w v x → Hnd1 B ob' g' w' v x := by
    intro v x h
    unfold Hnd1 at h ⊢
    split at h
    · obtain ⟨n, sz, ho, hs, hle, hcur, hcl⟩ := h
      obtain ⟨n', ho', hn', hc'⟩ := hh _ _ _ ho
      refine ⟨n', sz, ho', hs, by omega, fun e => ?_, hcl⟩
      have e1 : n' = n := by omega
      subst e1
      exact hc' rfl x (hcur e)
    · trivial
  intro v x h
  refine ⟨h.rep.mono hw hF ht h.ids, ?_, (ids_mono hlen).1 v h.ids⟩
  have hd := h.hnd
  unfold Hnd at hd ⊢
  split at hd
  · exact fun j v x hv hx => h1 v x (hd j v x hv hx)
  · exact fun j v x hv hx => ⟨h1 v x (hd j v x hv hx).1, fun ds ys hv' hx' k u y hu hy => h1 u y ((hd j v x hv hx).2 ds ys hv' hx' k u y hu hy)⟩
  · exact h1 _ _ hd

end Go.V

/- V, part 3: memory grows by a block, an object; the changes of memory that operations make, and that the invariant outlives them. -/
set_option linter.unusedVariables false
set_option linter.unusedSimpArgs false
namespace Go.V
open Go.RowKit

theorem nthO_lt {ob : List Obj} {i : Nat} (h : i < ob.length) : nthO ob i = ob[i] := by simp [nthO, List.getD_eq_getElem?_getD, List.getElem?_eq_getElem h]
theorem nthO_ge {ob : List Obj} {i : Nat} (h : ob.length ≤ i) : nthO ob i = .gone := by simp [nthO, List.getD_eq_getElem?_getD, List.getElem?_eq_none h]
theorem nthO_app {ob : List Obj} {X : Obj} {i : Nat} (h : i < ob.length) : nthO (ob ++ [X]) i = nthO ob i := by
  simp [nthO, List.getD_eq_getElem?_getD, List.getElem?_append_left h]
theorem nthO_new (ob : List Obj) (X : Obj) : nthO (ob ++ [X]) ob.length = X := by simp [nthO]
theorem nthO_set (ob : List Obj) (X : Obj) (j i : Nat) : nthO (ob.set j X) i = if i = j ∧ j < ob.length then X else nthO ob i := by
  simp only [nthO, List.getD_eq_getElem?_getD, List.getElem?_set]
  by_cases h : j = i
  · subst h
    by_cases hl : j < ob.length <;> simp [hl]
  · have h' : ¬ i = j := fun e => h e.symm
    simp [h, h']
theorem nthO_ne_gone {ob : List Obj} {i : Nat} (h : nthO ob i ≠ .gone) : i < ob.length := by
  rcases Nat.lt_or_ge i ob.length with h' | h'
  · exact h'
  · exact absurd (nthO_ge h') h

def upd (f : Nat → Option Nat) (i : Nat) (b : Nat) : Nat → Option Nat := fun j => if j = i then some b else f j
def updF (f : Nat → Nat) (i : Nat) (b : Nat) : Nat → Nat := fun j => if j = i then b else f j
@[simp] theorem upd_same (f : Nat → Option Nat) (i b : Nat) : upd f i b i = some b := by simp [upd]
theorem upd_ne (f : Nat → Option Nat) {i j : Nat} (b : Nat) (h : j ≠ i) : upd f i b j = f j := by simp [upd, h]
@[simp] theorem updF_same (f : Nat → Nat) (i b : Nat) : updF f i b i = b := by simp [updF]
theorem updF_ne (f : Nat → Nat) {i j : Nat} (b : Nat) (h : j ≠ i) : updF f i b j = f j := by simp [updF, h]

theorem heap_alloc_lt (w : World) (o : _root_.Go.Obj) {k : Nat} (h : k < w.heap.size) : (w.alloc o).heap[k]? = w.heap[k]? := Below.heap_alloc w o k h
theorem heap_alloc_at (w : World) (o : _root_.Go.Obj) : (w.alloc o).heap[w.heap.size]? = some o := by show (w.heap.push o)[w.heap.size]? = some o; simp
theorem lt_of_heap {w : World} {b : Nat} {o : _root_.Go.Obj} (h : w.heap[b]? = some o) : b < w.heap.size := (Array.getElem?_eq_some_iff.1 h).1

section
variable {B : Nat} {w0 : W0} {ob : List Obj} {g : Gh} {w : World}

theorem HInv.F_pos (H : HInv B w0 ob g w) {b o : Nat} (h : o < g.F b) : b < w.heap.size := by
  rcases Nat.lt_or_ge b w.heap.size with h' | h'
  · exact h'
  · rw [H.fz b h'] at h; omega
theorem HInv.tb_none (H : HInv B w0 ob g w) {i : Nat} (h : ob.length ≤ i) : g.tb i = none := by
  cases e : g.tb i with
  | none => rfl
  | some b => have := (H.tbl i b e).1; omega
theorem HInv.kb_none (H : HInv B w0 ob g w) {i : Nat} (h : ob.length ≤ i) : g.kb i = none := by
  cases e : g.kb i with
  | none => rfl
  | some b => have := (H.kbl i b e).1; omega
theorem HInv.get (H : HInv B w0 ob g w) {i : Nat} {X : Obj} (h : nthO ob i = X) (hX : X ≠ .gone) : i < ob.length ∧ ObR B ob g w i X := by
  have hi := nthO_ne_gone (h ▸ hX)
  refine ⟨hi, ?_⟩
  have := H.obs i hi
  rwa [← nthO_lt hi, h] at this

/-- An object's data outlives what keeps its block. -/
theorem ObR.keep {ob' : List Obj} {g' : Gh} {w' : World} {i : Nat} {X : Obj} (h : ObR B ob g w i X) (hp : Pres B ob g w ob' g' w')
    (hr : ∀ v x, v.canon = true → Rep w g.F g.tb v x → Rep w' g'.F g'.tb v x)
    (hb : ∀ b, g.tb i = some b → g'.tb i = some b ∧ g'.F b = g.F b ∧ w'.heap[b]? = w.heap[b]?) (hn : g.tb i = none → g'.tb i = none) (hg : ∀ m b, nthO ob m = .gone → g.tb m = some b → g'.tb m = some b ∧ nthO ob' m = .gone ∧ w'.heap[b]? = w.heap[b]?) (hcm : g'.cm = g.cm := by rfl) : ObR B ob' g' w' i X := by
  cases X with
  | cells cs =>
    obtain ⟨b, arr, ty, h1, h2, h3, h4, hl, h5⟩ := h
    obtain ⟨k1, k2, k3⟩ := hb b h1
    exact ⟨b, arr, ty, k1, h2, k2.trans h3, h4.keep k3, hl, fun j hj => ⟨(h5 j hj).1, hp _ _ (h5 j hj).2⟩⟩
  | map es =>
    obtain ⟨b, arr, ty, h1, h2, h3, h4, hl, h5⟩ := h
    obtain ⟨k1, k2, k3⟩ := hb b h1
    exact ⟨b, arr, ty, k1, h2, k2.trans h3, k3.trans h4, hl, fun j hj => ⟨(h5 j hj).1, (h5 j hj).2.1, hr _ _ (h5 j hj).1 (h5 j hj).2.2.1, hp _ _ (h5 j hj).2.2.2⟩⟩
  | siter s pos =>
    obtain ⟨b, bs, h1, h2, h3, h4, h5⟩ := h
    obtain ⟨k1, k2, k3⟩ := hb b h1
    exact ⟨b, bs, k1, h2, k2.trans h3, k3.trans h4, h5⟩
  | tok n sz => exact ⟨h.1, hn h.2⟩
  | loop nt env ps a b' st pend =>
    obtain ⟨b, r, h1, h2, h3, h4, h5, h6, h7, h8, h9, h10⟩ := h
    obtain ⟨k1, k2, k3⟩ := hb b h1
    exact ⟨b, r, k1, h2, k2.trans h3, k3.trans h4, h5, fun s => hp _ _ (h6 s), h7, by rw [hcm]; exact h8, by rw [hcm]; exact h9, h10⟩
  | dfr =>
    obtain ⟨b, h1, h2, h3, h4⟩ := h
    obtain ⟨k1, k2, k3⟩ := hb b h1
    exact ⟨b, k1, h2, k2.trans h3, k3.trans h4⟩
  | miter m left cur =>
    obtain ⟨b, bm, arr, clock, since, seen, c0, h1, h2, h3, h4, h5, h6, h7, h8, h9, h10, h11, ⟨hl, h12⟩, h13⟩ := h
    obtain ⟨k1, k2, k3⟩ := hb b h1
    obtain ⟨k4, k5, k6⟩ := hg m bm h5 h6
    have he : ∀ e x, EntR w g.F g.tb e x → EntR w' g'.F g'.tb e x := fun e x h => ⟨h.1, h.2.1, hr _ _ h.1 h.2.2.1, hr _ _ h.2.1 h.2.2.2⟩
    exact ⟨b, bm, arr, clock, since, seen, c0, k1, h2, k2.trans h3, k3.trans h4, k5, k4, k6.trans h7, h8, h9, h10, h11, ⟨hl, fun j hj => he _ _ (h12 j hj)⟩, fun e q => by obtain ⟨x, y1, y2, y3⟩ := h13 e q; exact ⟨x, y1, y2, he _ _ y3⟩⟩
  | gone => trivial
  | resv => exact hn h

theorem canon_ids {v : VV} (n : Nat) (h : v.canon = true) : v.ids n = true := by
  cases v with
  | agg cs =>
    simp only [VV.canon, List.all_eq_true] at h
    simp only [VV.ids]
    exact idsL_of fun u hu => canon0_ids n (h u hu)
  | _ => exact canon0_ids n h

theorem rep_keep {w w' : World} {F F' : Nat → Nat} {tb tb' : Nat → Option Nat}
    (hw : ∀ b o, o < F b → w'.cell? ⟨b, o, none⟩ = w.cell? ⟨b, o, none⟩) (hF : ∀ b, F b ≤ F' b) : ∀ v x, v.canon = true → Rep w F tb v x → Rep w' F' tb' v x :=
  fun v x hc h => h.mono (n := 0) hw hF (fun i b hi => absurd hi (by omega)) (canon_ids 0 hc)

/-! ### A block is laid that is nobody's object, and F tells how much of it is data -/
theorem Pres.alloc (H : HInv B w0 ob g w) (o : _root_.Go.Obj) (d : Nat) : Pres B ob g w ob { g with F := updF g.F w.heap.size d } (w.alloc o) := by
  refine Pres.of (Nat.le_refl _) (fun b o' h => World.cell?_alloc_lt w o _ (H.F_pos h)) (fun b => ?_) (fun _ _ _ h => h) (fun t n sz h => ⟨n, h, Nat.le_refl _, fun _ x hc => ?_⟩)
  · by_cases e : b = w.heap.size
    · subst e; rw [H.fz _ (Nat.le_refl _)]; exact Nat.zero_le _
    · simp [updF_ne _ _ e]
  · rcases hc with ⟨a, rfl, rfl⟩ | ⟨b, o1, cap, arr, ty, h1, rfl, h3, h4, h5, h6, h7⟩
    · exact .inl ⟨a, rfl, rfl⟩
    · have hb := lt_of_heap h4
      exact .inr ⟨b, o1, cap, arr, ty, h1, rfl, h3, (heap_alloc_lt w o hb).trans h4, h5, by show updF _ _ _ _ = _; rw [updF_ne _ _ (by omega)]; exact h6, h7⟩

theorem HInv.alloc (H : HInv B w0 ob g w) (o : _root_.Go.Obj) (d : Nat) : HInv B w0 ob { g with F := updF g.F w.heap.size d } (w.alloc o) where
  below := H.below.alloc H.hB o
  hB := by have := H.hB; simp; omega
  fz := fun b hb => by simp at hb; show updF _ _ _ _ = _; rw [updF_ne _ _ (by omega)]; exact H.fz b (by omega)
  f0 := fun b hb => by have := H.hB; show updF _ _ _ _ = _; rw [updF_ne _ _ (by omega)]; exact H.f0 b hb
  c0 := H.c0
  tbl := fun i b h => by have := H.tbl i b h; exact ⟨this.1, by simp; omega⟩
  kbl := fun i b h => by have := H.kbl i b h; exact ⟨this.1, by simp; omega⟩
  inj := H.inj
  injk := H.injk
  apart := H.apart
  obs := fun i hi => (H.obs i hi).keep (Pres.alloc H o d) (rep_keep (fun b o' h => World.cell?_alloc_lt w o _ (H.F_pos h)) fun b => by
      by_cases e : b = w.heap.size
      · subst e; rw [H.fz _ (Nat.le_refl _)]; exact Nat.zero_le _
      · simp [updF_ne _ _ e])
    (fun b hb => by
      have := (H.tbl i b hb).2
      exact ⟨hb, updF_ne _ _ (by omega), heap_alloc_lt w o this⟩) (fun h => h) (fun m b h1 h2 => ⟨h2, h1, heap_alloc_lt w o (H.tbl m b h2).2⟩)

theorem updF_zero (H : HInv B w0 ob g w) : updF g.F w.heap.size 0 = g.F := by
  funext b
  by_cases e : b = w.heap.size
  · subst e; simp [H.fz]
  · exact updF_ne _ _ e

theorem Pres.alloc0 (H : HInv B w0 ob g w) (o : _root_.Go.Obj) : Pres B ob g w ob g (w.alloc o) := by
  have := Pres.alloc H o 0
  rw [updF_zero H] at this
  exact this
theorem HInv.alloc0 (H : HInv B w0 ob g w) (o : _root_.Go.Obj) : HInv B w0 ob g (w.alloc o) := by
  have := HInv.alloc H o 0
  rw [updF_zero H] at this
  exact this

/-! ### A draw -/
theorem Pres.drew (H : HInv B w0 ob g w) : Pres B ob g w ob g w.drew :=
  Pres.of (Nat.le_refl _) (fun _ _ _ => rfl) (fun _ => Nat.le_refl _) (fun _ _ _ h => h) (fun _ n _ h => ⟨n, h, Nat.le_refl _, fun _ _ hc => hc⟩)
theorem HInv.drew (H : HInv B w0 ob g w) : HInv B w0 ob g w.drew where
  below := H.below.drew
  hB := H.hB
  fz := H.fz
  f0 := H.f0
  c0 := H.c0
  tbl := H.tbl
  kbl := H.kbl
  inj := H.inj
  injk := H.injk
  apart := H.apart
  obs := fun i hi => (H.obs i hi).keep (Pres.drew H) (rep_keep (fun _ _ _ => rfl) fun _ => Nat.le_refl _) (fun _ hb => ⟨hb, rfl, rfl⟩) (fun h => h) (fun _ _ h1 h2 => ⟨h2, h1, rfl⟩)

/-! ### An object more -/
theorem Pres.push (H : HInv B w0 ob g w) (X : Obj) {b : Nat} (hn : ∀ n sz, X ≠ .tok n sz) : Pres B ob g w (ob ++ [X]) { g with tb := upd g.tb ob.length b } w := by
  refine Pres.of (by simp) (fun _ _ _ => rfl) (fun _ => Nat.le_refl _) (fun i b' hi h => ?_) (fun t n sz h => ⟨n, ?_, Nat.le_refl _, fun _ x hc => hc⟩)
  · show upd g.tb ob.length b i = some b'
    rw [upd_ne _ _ (by omega)]; exact h
  · rw [nthO_app (nthO_ne_gone (by rw [h]; simp))]; exact h

/-- A new block that is an object. -/
theorem HInv.push (H : HInv B w0 ob g w) (o : _root_.Go.Obj) (X : Obj) (hn : ∀ n sz, X ≠ .tok n sz)
    (hX : ObR B (ob ++ [X]) { g with tb := upd g.tb ob.length w.heap.size } (w.alloc o) ob.length X) :
    HInv B w0 (ob ++ [X]) { g with tb := upd g.tb ob.length w.heap.size } (w.alloc o) ∧ Pres B ob g w (ob ++ [X]) { g with tb := upd g.tb ob.length w.heap.size } (w.alloc o) := by
  have H1 := H.alloc0 o
  have hp : Pres B ob g (w.alloc o) (ob ++ [X]) { g with tb := upd g.tb ob.length w.heap.size } (w.alloc o) := Pres.push H1 X hn
  refine ⟨?_, (Pres.alloc0 H o).trans hp⟩
  have htb : ∀ i b, upd g.tb ob.length w.heap.size i = some b → (i = ob.length ∧ b = w.heap.size) ∨ (i ≠ ob.length ∧ g.tb i = some b) := fun i b h => by
    by_cases e : i = ob.length
    · subst e; simp at h; exact .inl ⟨rfl, h.symm⟩
    · rw [upd_ne _ _ e] at h; exact .inr ⟨e, h⟩
  refine ⟨H1.below, H1.hB, H1.fz, H1.f0, H1.c0, fun i b h => ?_, fun i b h => ?_, fun i j b h h' => ?_, H1.injk, fun i j b h h' => ?_, fun i hi => ?_⟩
  · rcases htb i b h with ⟨rfl, rfl⟩ | ⟨_, h⟩
    · simp
    · have := H.tbl i b h; simp; omega
  · have := H.kbl i b h; simp; omega
  · rcases htb i b h with ⟨rfl, rfl⟩ | ⟨_, h⟩ <;> rcases htb j _ h' with ⟨rfl, e⟩ | ⟨_, h'⟩
    · rfl
    · have := (H.tbl _ _ h').2; omega
    · subst e; have := (H.tbl _ _ h).2; omega
    · exact H.inj _ _ _ h h'
  · rcases htb i b h with ⟨rfl, rfl⟩ | ⟨_, h⟩
    · have := (H.kbl _ _ h').2; omega
    · exact H.apart _ _ _ h h'
  · by_cases e : i = ob.length
    · subst e; simpa using hX
    · have hi' : i < ob.length := by simp at hi; omega
      have hold := H1.obs i hi'
      rw [List.getElem_append_left hi']
      exact hold.keep hp (rep_keep (fun _ _ _ => rfl) fun _ => Nat.le_refl _) (fun b hb => ⟨by show upd g.tb ob.length _ i = _; rw [upd_ne _ _ e]; exact hb, rfl, rfl⟩)
        (fun h => by show upd g.tb ob.length _ i = _; rw [upd_ne _ _ e]; exact h) (fun m b h1 h2 => by
          have hm := (H.tbl m b h2).1
          exact ⟨by show upd g.tb ob.length _ m = _; rw [upd_ne _ _ (by omega)]; exact h2, by rw [nthO_app hm]; exact h1, rfl⟩)

/-- An object more that is kept for a variable to be made. -/
theorem HInv.pushResv (H : HInv B w0 ob g w) : HInv B w0 (ob ++ [.resv]) g w ∧ Pres B ob g w (ob ++ [.resv]) g w := by
  have hp : Pres B ob g w (ob ++ [.resv]) g w := by
    refine Pres.of (by simp) (fun _ _ _ => rfl) (fun _ => Nat.le_refl _) (fun i b hi h => h) (fun t m s h => ⟨m, ?_, Nat.le_refl _, fun _ x hc => hc⟩)
    rw [nthO_app (nthO_ne_gone (by rw [h]; simp))]; exact h
  refine ⟨⟨H.below, H.hB, H.fz, H.f0, H.c0, fun i b h => by have := H.tbl i b h; simp; omega, fun i b h => by have := H.kbl i b h; simp; omega, H.inj, H.injk, H.apart, fun i hi => ?_⟩, hp⟩
  by_cases e : i = ob.length
  · subst e
    simp only [List.getElem_concat_length]
    exact H.tb_none (Nat.le_refl _)
  · have hi' : i < ob.length := by simp at hi; omega
    rw [List.getElem_append_left hi']
    exact (H.obs i hi').keep hp (rep_keep (fun _ _ _ => rfl) fun _ => Nat.le_refl _) (fun b hb => ⟨hb, rfl, rfl⟩) (fun h => h) (fun m b q1 q2 => ⟨q2, by rw [nthO_app (H.tbl m b q2).1]; exact q1, rfl⟩)
theorem HInv.pushResvs (H : HInv B w0 ob g w) : ∀ j, HInv B w0 (ob ++ List.replicate j .resv) g w ∧ Pres B ob g w (ob ++ List.replicate j .resv) g w
  | 0 => by simpa using ⟨H, Pres.refl B ob g w⟩
  | j + 1 => by
    obtain ⟨H1, p1⟩ := HInv.pushResvs H j
    obtain ⟨H2, p2⟩ := H1.pushResv
    rw [List.replicate_succ', ← List.append_assoc]
    exact ⟨H2, p1.trans p2⟩

theorem Pres.fill {i b : Nat} {X : Obj} (hr : nthO ob i = .resv) (ht : g.tb i = none) : Pres B ob g w (ob.set i X) { g with tb := upd g.tb i b } w := by
  refine Pres.of (by simp) (fun _ _ _ => rfl) (fun _ => Nat.le_refl _) (fun i' b' hi h => ?_) (fun t n sz h => ⟨n, ?_, Nat.le_refl _, fun _ x hc => hc⟩)
  · show upd g.tb i b i' = some b'
    rw [upd_ne _ _ (fun q => by subst q; rw [ht] at h; cases h)]; exact h
  · rw [nthO_set, if_neg]
    · exact h
    · rintro ⟨rfl, _⟩; rw [hr] at h; cases h

/-- The block of a variable whose object was kept. -/
theorem HInv.fill (H : HInv B w0 ob g w) (o : _root_.Go.Obj) (X : Obj) {i : Nat} (hr : nthO ob i = .resv)
    (hX : ObR B (ob.set i X) { g with tb := upd g.tb i w.heap.size } (w.alloc o) i X) :
    HInv B w0 (ob.set i X) { g with tb := upd g.tb i w.heap.size } (w.alloc o) ∧ Pres B ob g w (ob.set i X) { g with tb := upd g.tb i w.heap.size } (w.alloc o) := by
  obtain ⟨hlt, htn⟩ := H.get hr (by simp)
  have htn : g.tb i = none := htn
  have H1 := H.alloc0 o
  have hp : Pres B ob g (w.alloc o) (ob.set i X) { g with tb := upd g.tb i w.heap.size } (w.alloc o) := Pres.fill hr htn
  refine ⟨?_, (Pres.alloc0 H o).trans hp⟩
  have htb : ∀ k b, upd g.tb i w.heap.size k = some b → (k = i ∧ b = w.heap.size) ∨ (k ≠ i ∧ g.tb k = some b) := fun k b h => by
    by_cases e : k = i
    · subst e; simp at h; exact .inl ⟨rfl, h.symm⟩
    · rw [upd_ne _ _ e] at h; exact .inr ⟨e, h⟩
  refine ⟨H1.below, H1.hB, H1.fz, H1.f0, H1.c0, fun k b h => ?_, fun k b h => ?_, fun k j b h h' => ?_, H1.injk, fun k j b h h' => ?_, fun k hk => ?_⟩
  · rcases htb k b h with ⟨e1, e2⟩ | ⟨_, q⟩
    · simp; omega
    · have := H.tbl k b q; simp; omega
  · have := H.kbl k b h; simp; omega
  · rcases htb k b h with ⟨e1, e2⟩ | ⟨_, q⟩ <;> rcases htb j _ h' with ⟨e3, e4⟩ | ⟨_, q'⟩
    · rw [e1, e3]
    · have := (H.tbl _ _ q').2; omega
    · have := (H.tbl _ _ q).2; omega
    · exact H.inj _ _ _ q q'
  · rcases htb k b h with ⟨e1, e2⟩ | ⟨_, q⟩
    · have := (H.kbl _ _ h').2; omega
    · exact H.apart _ _ _ q h'
  · by_cases e : k = i
    · subst e; simpa using hX
    · rw [List.getElem_set_ne (fun q => e q.symm)]
      have hk' : k < ob.length := by simpa using hk
      exact (H1.obs k hk').keep hp (rep_keep (fun _ _ _ => rfl) fun _ => Nat.le_refl _) (fun b hb => ⟨by show upd g.tb i _ k = _; rw [upd_ne _ _ e]; exact hb, rfl, rfl⟩)
        (fun h => by show upd g.tb i _ k = _; rw [upd_ne _ _ e]; exact h) (fun m b h1 h2 => by
          have hm : m ≠ i := fun q => by subst q; rw [htn] at h2; cases h2
          exact ⟨by show upd g.tb i _ m = _; rw [upd_ne _ _ hm]; exact h2, by rw [nthO_set, if_neg (fun q => hm q.1)]; exact h1, rfl⟩)

end
end Go.V

/- V, part 4: when an operation of V is the text of an operation of the machine; that it then does what V says: the operations that leave the objects alone. -/
set_option linter.unusedVariables false
set_option linter.unusedSimpArgs false
namespace Go.V
open Go.RowKit

def repC0 : VV → Value → Bool
  | .int k n, .int k' n' => decide (k = k') && decide (n = n')
  | .bool b, .bool b' => b == b'
  | .str s, .string b => b.data.toList == s
  | .nilp, .pointer none => true
  | .nils, .slice none 0 0 => true
  | .sl [] 0, .slice none 0 0 => true
  | .nilm, .map none => true
  | .nilf, .nilFunc => true
  | _, _ => false
def repCL : List VV → List Value → Bool
  | [], [] => true
  | v :: r, x :: s => repC0 v x && repCL r s
  | _, _ => false
def repC : VV → Value → Bool
  | .agg cs, .agg xs => repCL cs xs.toList
  | v, x => repC0 v x

def mO : Opd → Operand → Bool
  | .t s, .tmp t => decide (s = t)
  | .c v, .const x => repC v x
  | .f n, .func m => decide (n = m)
  | _, _ => false
def mOL : List Opd → List Operand → Bool
  | [], [] => true
  | x :: r, y :: s => mO x y && mOL r s
  | _, _ => false

/-- How the machine reads the operands, as far as they are named. -/
structure Reads (B : Nat) (ob : List Obj) (g : Gh) (w : World) (env : List (Nat × VV)) (ρ : Operand → Value) : Prop where
  c : ∀ v, ρ (.const v) = v
  f : ∀ n, ρ (.func n) = .func (.func n) #[] #[]
  t : ∀ s, GV B ob g w (get env s) (ρ (.tmp s))

section
variable {B : Nat} {w0 : W0} {ob : List Obj} {g : Gh} {w : World}

theorem GV.const0 {v : VV} {x : Value} (h : repC0 v x = true) : GV B ob g w v x := by
  cases v <;> cases x <;> simp only [repC0, Bool.and_eq_true, decide_eq_true_eq, beq_iff_eq, Bool.false_eq_true, reduceCtorEq] at h
  case int.int => obtain ⟨rfl, rfl⟩ := h; exact ⟨.int _ _, trivial, rfl⟩
  case bool.bool => subst h; exact ⟨.bool _, trivial, rfl⟩
  case str.string => exact ⟨.str h, trivial, rfl⟩
  case nilp.pointer a => cases a <;> simp [repC0] at h; exact ⟨.nilp, trivial, rfl⟩
  case nils.slice a n c =>
    cases a with
    | some a => simp [repC0] at h
    | none => cases n <;> cases c <;> simp [repC0] at h; exact ⟨.nils, trivial, rfl⟩
  case sl.slice es t a n c =>
    cases es with
    | cons e r => simp [repC0] at h
    | nil => cases t with
      | succ t => simp [repC0] at h
      | zero => cases a with
        | some a => simp [repC0] at h
        | none => cases n <;> cases c <;> simp [repC0] at h; exact ⟨.slE, Hnd.sl.2 trivial, by simp [VV.ids]⟩
  case nilm.map a => cases a <;> simp [repC0] at h; exact ⟨.nilm, trivial, rfl⟩
  case nilf.nilFunc => exact ⟨.nilf, trivial, rfl⟩

theorem repC0_cell {v : VV} {x : Value} (h : repC0 v x = true) : v.isCell = true := by
  cases v <;> cases x <;> simp_all [repC0, VV.isCell]

theorem Hnd.of_GV1 {v : VV} {x : Value} (hc : v.isCell = true) (h : GV B ob g w v x) : Hnd1 B ob g w v x := by
  have := h.hnd
  cases v <;> simp [VV.isCell] at hc <;> cases x <;> exact this

/-- A struct's cells, put together. -/
theorem GV.agg {cs : List VV} {xs : Array Value} (hl : xs.size = cs.length) (hc : cs.all VV.isCell = true) (h : ∀ j (hj : j < cs.length), GV B ob g w cs[j] (xs[j]'(hl ▸ hj))) : GV B ob g w (.agg cs) (.agg xs) := by
  refine ⟨.agg hl hc fun j hj => (h j hj).rep, ?_, ?_⟩
  · intro j v x hv hx
    obtain ⟨h1, rfl⟩ := List.getElem?_eq_some_iff.1 hv
    obtain ⟨h2, rfl⟩ := Array.getElem?_eq_some_iff.1 hx
    exact Hnd.of_GV1 (List.all_eq_true.1 hc _ (List.getElem_mem h1)) (h j h1)
  · simp only [VV.ids]
    refine idsL_of fun v hv => ?_
    obtain ⟨j, hj, rfl⟩ := List.getElem_of_mem hv
    exact (h j hj).ids

theorem GV.agg_inv {cs : List VV} {x : Value} (h : GV B ob g w (.agg cs) x) : ∃ xs : Array Value, x = .agg xs ∧ cs.all VV.isCell = true ∧ ∃ hl : xs.size = cs.length, ∀ j (hj : j < cs.length), GV B ob g w cs[j] (xs[j]'(hl ▸ hj)) := by
  cases x with
  | agg xs =>
    have hr := h.rep
    have hd := h.hnd
    have hi := h.ids
    cases hr with
    | agg hl hc hr =>
      refine ⟨xs, rfl, hc, hl, fun j hj => ⟨hr j hj, ?_, idsL_get (by simpa [VV.ids] using hi) j hj⟩⟩
      have h1 := hd j cs[j] (xs[j]'(hl ▸ hj)) (List.getElem?_eq_getElem hj) (Array.getElem?_eq_getElem (hl ▸ hj))
      have hcell := List.all_eq_true.1 hc _ (List.getElem_mem hj)
      revert h1 hcell
      generalize cs[j] = v
      generalize xs[j]'(hl ▸ hj) = y
      intro h1 hcell
      cases v <;> simp [VV.isCell] at hcell <;> cases y <;> exact h1
  | _ => have hr := h.rep; cases hr

theorem repCL_len : ∀ {l : List VV} {m : List Value}, repCL l m = true → m.length = l.length
  | [], [], _ => rfl
  | _ :: _, _ :: _, h => by simp only [repCL, Bool.and_eq_true] at h; simp [repCL_len h.2]
  | [], _ :: _, h => by simp [repCL] at h
  | _ :: _, [], h => by simp [repCL] at h
theorem repCL_get : ∀ {l : List VV} {m : List Value}, repCL l m = true → ∀ (j : Nat) (h : j < l.length) (h' : j < m.length), repC0 l[j] m[j] = true
  | _ :: _, _ :: _, h, 0, _, _ => by simp only [repCL, Bool.and_eq_true] at h; exact h.1
  | _ :: _, _ :: _, h, j + 1, h1, h2 => by simp only [repCL, Bool.and_eq_true] at h; exact repCL_get h.2 j (by simpa using h1) (by simpa using h2)
  | [], _, _, j, h1, _ => absurd h1 (by simp)
  | _ :: _, [], h, j, _, h2 => absurd h2 (by simp)
theorem repCL_cells {l : List VV} {m : List Value} (h : repCL l m = true) : l.all VV.isCell = true := by
  rw [List.all_eq_true]
  intro v hv
  obtain ⟨j, hj, rfl⟩ := List.getElem_of_mem hv
  exact repC0_cell (repCL_get h j hj (by rw [repCL_len h]; exact hj))

theorem GV.const {v : VV} {x : Value} (h : repC v x = true) : GV B ob g w v x := by
  unfold repC at h
  split at h
  · rename_i cs xs
    have hl : xs.size = cs.length := by simpa using repCL_len h
    exact GV.agg hl (repCL_cells h) fun j hj => GV.const0 (by have := repCL_get h j hj (by simpa using hl ▸ hj); rwa [Array.getElem_toList] at this)
  · exact GV.const0 h

theorem Reads.opd {env : List (Nat × VV)} {ρ : Operand → Value} (R : Reads B ob g w env ρ) {x : Opd} {y : Operand} (h : mO x y = true) : GV B ob g w (x.ev env) (ρ y) := by
  cases x <;> cases y <;> simp only [mO, decide_eq_true_eq, Bool.false_eq_true] at h
  · subst h; exact R.t _
  · rw [R.c]; exact GV.const h
  · subst h; rw [R.f]; exact ⟨.fn rfl rfl fun j hj => absurd hj (by simp), trivial, rfl⟩

theorem mOL_len : ∀ {l : List Opd} {m : List Operand}, mOL l m = true → m.length = l.length
  | [], [], _ => rfl
  | _ :: _, _ :: _, h => by simp only [mOL, Bool.and_eq_true] at h; simp [mOL_len h.2]
  | [], _ :: _, h => by simp [mOL] at h
  | _ :: _, [], h => by simp [mOL] at h
theorem mOL_get : ∀ {l : List Opd} {m : List Operand}, mOL l m = true → ∀ (j : Nat) (h : j < l.length) (h' : j < m.length), mO l[j] m[j] = true
  | _ :: _, _ :: _, h, 0, _, _ => by simp only [mOL, Bool.and_eq_true] at h; exact h.1
  | _ :: _, _ :: _, h, j + 1, h1, h2 => by simp only [mOL, Bool.and_eq_true] at h; exact mOL_get h.2 j (by simpa using h1) (by simpa using h2)
  | [], _, _, j, h1, _ => absurd h1 (by simp)
  | _ :: _, [], h, j, _, h2 => absurd h2 (by simp)

def OpOk (P : Program) (s : Sem Next) (w : World) (x : Value) (w' : World) : Prop :=
  s.run P w = .ok (.value x) w' ∨ (s.run P w = .ok .skip w' ∧ x = undef)

/-- What is to be shown of each operation. -/
def Out (P : Program) (B : Nat) (w0 : W0) (ob : List Obj) (g : Gh) (w : World) (s : Sem Next) (v : VV) (ob' : List Obj) : Prop :=
  ∃ x g' w', OpOk P s w x w' ∧ HInv B w0 ob' g' w' ∧ GV B ob' g' w' v x ∧ Pres B ob g w ob' g' w'

theorem Out.quiet {P : Program} (H : HInv B w0 ob g w) {s : Sem Next} {v : VV} {x : Value} (h : s.run P w = .ok (.value x) w) (hv : GV B ob g w v x) : Out P B w0 ob g w s v ob :=
  ⟨x, g, w, .inl h, H, hv, Pres.refl _ _ _ _⟩

/-- Numbers, strings and the like have one form. -/
theorem GV.int {k : IntKind} {n : Int} : GV B ob g w (.int k n) (.int k n) := ⟨.int _ _, trivial, rfl⟩
theorem GV.bool {b : Bool} : GV B ob g w (.bool b) (.bool b) := ⟨.bool _, trivial, rfl⟩
theorem GV.str {s : List UInt8} {b : ByteArray} (h : b.data.toList = s) : GV B ob g w (.str s) (.string b) := ⟨.str h, trivial, rfl⟩
theorem GV.dead {x : Value} : GV B ob g w .dead x := ⟨.dead, by cases x <;> trivial, rfl⟩
theorem GV.int_inv {k : IntKind} {n : Int} {x : Value} (h : GV B ob g w (.int k n) x) : x = .int k n := by have := h.rep; cases this; rfl
theorem GV.bool_inv {b : Bool} {x : Value} (h : GV B ob g w (.bool b) x) : x = .bool b := by have := h.rep; cases this; rfl
theorem GV.str_inv {s : List UInt8} {x : Value} (h : GV B ob g w (.str s) x) : ∃ b : ByteArray, x = .string b ∧ b.data.toList = s := by have := h.rep; cases this; exact ⟨_, rfl, ‹_›⟩
theorem GV.ptr_inv {o off : Nat} {x : Value} (h : GV B ob g w (.ptr o off) x) : ∃ b, x = .pointer (some ⟨b, off, none⟩) ∧ g.tb o = some b := by have := h.rep; cases this; exact ⟨_, rfl, ‹_›⟩
theorem GV.ptr {o off b : Nat} (h : g.tb o = some b) (H : HInv B w0 ob g w) : GV B ob g w (.ptr o off) (.pointer (some ⟨b, off, none⟩)) :=
  ⟨.ptr h, trivial, by simpa [VV.ids] using (H.tbl o b h).1⟩

end
end Go.V

/- V, part 5: operations that only compute or read: V's text and the machine's. -/
set_option linter.unusedVariables false
set_option linter.unusedSimpArgs false
namespace Go.V
open Go.RowKit

def isAggB (P : Program) (t : TypeId) : Bool := match P.underlying t with | some (.struct _) | some (.array _ _) => true | _ => false
def sizeIs (P : Program) (t : TypeId) (n : Nat) : Bool := match P.info? t with | some i => i.size == n | none => false
/-- a variable of this type: n cells of a struct, or one cell (n = 0) -/
def varIs (P : Program) (t : TypeId) (n : Nat) : Bool :=
  match P.underlying t with
  | none => false
  | some (.struct _) | some (.array _ _) => 0 < n && sizeIs P t n
  | some _ => n == 0 && sizeIs P t 1
def sliceIs (P : Program) (t : TypeId) (sz : Nat) : Bool := match P.underlying t with | some (.slice e) => 0 < sz && sizeIs P e sz | _ => false
def fieldIs (P : Program) (t : TypeId) (f off : Nat) : Bool :=
  match P.underlying t with
  | some (.struct fs) => match fs[f]? with
    | some x => x.offset == off && (match P.info? x.type with | some i => 0 < i.size | none => false)
    | none => false
  | _ => false
def fieldVar (P : Program) (t : TypeId) (f off n : Nat) : Bool :=
  match P.underlying t with
  | some (.struct fs) => match fs[f]? with
    | some x => x.offset == off && varIs P x.type n
    | none => false
  | _ => false

section
variable {P : Program} {B : Nat} {w0 : W0} {ob : List Obj} {g : Gh} {w : World} {env : List (Nat × VV)} {ρ : Operand → Value}

theorem run_size {t : TypeId} {n : Nat} (h : sizeIs P t n = true) (w : World) : (sizeOf t).run P w = .ok n w := by
  unfold sizeIs at h
  cases hi : P.info? t with
  | none => simp [hi] at h
  | some i => simp [hi] at h; simp [sizeOf, typeInfo, hi, h]

theorem run_loadCells_at (w : World) (b o : Nat) (n : Nat) (xs : List Value) (hl : xs.length = n) (h : ∀ j (hj : j < xs.length), w.cell? ⟨b, o + j, none⟩ = some xs[j]) :
    (loadCells ⟨b, o, none⟩ n).run P w = .ok xs.toArray w := by
  subst hl
  refine run_loadCells_list w _ xs fun j v hv => ?_
  obtain ⟨hj, rfl⟩ := List.getElem?_eq_some_iff.1 hv
  have : (⟨b, o, none⟩ : Addr).add j = ⟨b, o + j, none⟩ := by unfold Addr.add; split <;> simp_all
  rw [this]; exact h j hj

theorem add_at (b o j : Nat) : (⟨b, o, none⟩ : Addr).add j = ⟨b, o + j, none⟩ := by unfold Addr.add; split <;> simp_all

/-- What is read behind an address whose cells are told. -/
theorem run_loadVar_vals {t : TypeId} {n : Nat} (hm : varIs P t n = true) (b o : Nat) (f : Nat → Value) (h : ∀ j, j < max n 1 → w.cell? ⟨b, o + j, none⟩ = some (f j)) :
    (loadVar t ⟨b, o, none⟩).run P w = .ok (if n = 0 then f 0 else .agg ((List.range n).map f).toArray) w := by
  unfold varIs at hm
  cases hu : P.underlying t with
  | none => simp [hu] at hm
  | some d =>
    have key : ∀ (hn : 0 < n) (hs : sizeIs P t n = true), (loadCells ⟨b, o, none⟩ n).run P w = .ok ((List.range n).map f).toArray w := fun hn hs =>
      run_loadCells w _ n f fun j hj => by rw [add_at]; exact h j (by omega)
    cases d <;> simp only [hu] at hm
    case struct fs =>
      simp only [Bool.and_eq_true, decide_eq_true_eq] at hm
      simp [loadVar, isAgg, run_underlying hu, run_size hm.2, key hm.1 hm.2, Nat.pos_iff_ne_zero.1 hm.1]
    case array k e =>
      simp only [Bool.and_eq_true, decide_eq_true_eq] at hm
      simp [loadVar, isAgg, run_underlying hu, run_size hm.2, key hm.1 hm.2, Nat.pos_iff_ne_zero.1 hm.1]
    all_goals
      simp only [Bool.and_eq_true, beq_iff_eq] at hm
      have h0 := h 0 (by omega)
      simp only [Nat.add_zero] at h0
      simp [loadVar, isAgg, run_underlying hu, h0, hm.1]

theorem loadV_inv {n : Nat} {cs : List VV} {off : Nat} {v : VV} (h : loadV n cs off = some v) :
    off + max n 1 ≤ cs.length ∧ ((n = 0 ∧ ∃ hl : off < cs.length, v = cs[off]) ∨ (0 < n ∧ v = .agg ((cs.drop off).take n))) := by
  unfold loadV at h
  split at h
  · rename_i h0
    subst h0
    obtain ⟨hl, rfl⟩ := List.getElem?_eq_some_iff.1 h
    exact ⟨by simp; omega, .inl ⟨rfl, hl, rfl⟩⟩
  · split at h
    · rename_i h0 hl
      cases h
      exact ⟨by omega, .inr ⟨by omega, rfl⟩⟩
    · cases h

/-- A part of a row of good cells is good. -/
theorem GV.loadV {n : Nat} {cs : List VV} {off : Nat} {v : VV} (h : loadV n cs off = some v) (hc : cs.all VV.isCell = true) (f : Nat → Value) (hv : ∀ j (hj : j < cs.length), GV B ob g w cs[j] (f j)) :
    GV B ob g w v (if n = 0 then f off else .agg ((List.range n).map fun j => f (off + j)).toArray) := by
  obtain ⟨hl, ⟨rfl, h1, rfl⟩ | ⟨hn, rfl⟩⟩ := loadV_inv h
  · simpa using hv off h1
  · rw [if_neg (by omega)]
    have hlen : ((cs.drop off).take n).length = n := by simp; omega
    refine GV.agg (by simp [hlen]) ?_ fun j hj => ?_
    · rw [List.all_eq_true] at hc ⊢
      exact fun u hu => hc u (List.mem_of_mem_drop (List.mem_of_mem_take hu))
    · have hj' : j < n := by rw [hlen] at hj; exact hj
      have := hv (off + j) (by omega)
      simpa using this

theorem op_load (H : HInv B w0 ob g w) (R : Reads B ob g w env ρ) {n : Nat} {a : Opd} {a' : Operand} {t : TypeId} (ha : mO a a' = true) (ht : varIs P t n = true) {cs : List VV} {off : Nat} {v : VV}
    (hd : deref ob (a.ev env) = some (cs, off)) (hl : loadV n cs off = some v) : Out P B w0 ob g w (do pure (.value (← Instr.loadAt t (ρ a')))) v ob := by
  have hg := R.opd ha
  obtain ⟨hoff, _⟩ := loadV_inv hl
  unfold deref at hd
  split at hd
  · rename_i o f he
    rw [he] at hg
    obtain ⟨b, hx, htb⟩ := hg.ptr_inv
    split at hd
    · rename_i cs' ho
      cases hd
      obtain ⟨_, b', arr, ty, h1, h2, h3, ⟨fr, hfr, h4⟩, hsz, h5⟩ := H.get ho (by simp)
      rw [htb] at h1; cases h1
      have hcell : ∀ j (hj : j < cs.length), w.cell? ⟨b, j, none⟩ = some (arr[j]'(Nat.lt_of_lt_of_le hj hsz)) := fun j hj => by simp [World.cell?, h4, Nat.lt_of_lt_of_le hj hsz]
      have hr := run_loadVar_vals (w := w) ht b off (fun j => arr.getD (off + j) undef) fun j hj => by
        rw [hcell (off + j) (by omega)]; simp [show off + j < arr.size by omega]
      refine Out.quiet H (x := if n = 0 then arr.getD (off + 0) undef else .agg ((List.range n).map fun j => arr.getD (off + j) undef).toArray) ?_ ?_
      · simp only [Instr.loadAt, hx, Instr.sureAddr, Sem.run_bind, Sem.run_pure, Result.andThen_ok, hr]
      · have := GV.loadV (B := B) (ob := ob) (g := g) (w := w) hl (List.all_eq_true.2 fun u hu => by obtain ⟨j, hj, rfl⟩ := List.getElem_of_mem hu; exact (h5 j hj).1) (fun j => arr.getD j undef)
          fun j hj => by have := (h5 j hj).2; simpa [Nat.lt_of_lt_of_le hj hsz] using this
        simpa using this
    · cases hd
  · rename_i cs' off' he
    cases hd
    rw [he] at hg
    have hrep := hg.rep
    revert hrep
    generalize ρ a' = x
    intro hrep
    cases hrep with
    | @pim _ _ b o vals hc h hr hF =>
      have hr' := run_loadVar_vals (w := w) ht b (o + off) (fun j => vals (off + j)) fun j hj => by
        rw [show o + off + j = o + (off + j) by omega]; exact h (off + j) (by omega)
      refine Out.quiet H (x := if n = 0 then vals (off + 0) else .agg ((List.range n).map fun j => vals (off + j)).toArray) ?_ ?_
      · simp only [Instr.loadAt, Instr.sureAddr, Sem.run_bind, Sem.run_pure, Result.andThen_ok, hr']
      · have := GV.loadV (B := B) (ob := ob) (g := g) (w := w) hl (List.all_eq_true.2 fun u hu => canon0_isCell (List.all_eq_true.1 hc u hu)) vals fun j hj =>
          ⟨hr j hj, ?_, canon0_ids _ (List.all_eq_true.1 hc _ (List.getElem_mem hj))⟩
        · simpa using this
        · have hc0 := List.all_eq_true.1 hc _ (List.getElem_mem hj)
          have hrj := hr j hj
          revert hc0 hrj
          generalize cs[j] = u
          generalize vals j = y
          intro hc0 hrj
          cases u <;> simp only [VV.canon0, Bool.false_eq_true, beq_iff_eq] at hc0 <;> first | trivial | (subst hc0; cases y <;> trivial)
  · cases hd

end
end Go.V

/- V, part 6: more operations that only compute. -/
set_option linter.unusedVariables false
set_option linter.unusedSimpArgs false
namespace Go.V
open Go.RowKit

theorem strLess_eq : ∀ a b : List UInt8, strLess a b = Op.bytesLess a b
  | [], [] => rfl
  | [], _ :: _ => rfl
  | _ :: _, [] => rfl
  | a :: x, b :: y => by simp [strLess, Op.bytesLess, strLess_eq x y]

section
variable {P : Program} {B : Nat} {w0 : W0} {ob : List Obj} {g : Gh} {w : World} {env : List (Nat × VV)} {ρ : Operand → Value}

theorem op_mov (H : HInv B w0 ob g w) (R : Reads B ob g w env ρ) {x : Opd} {x' : Operand} (hx : mO x x' = true) : Out P B w0 ob g w (pure (.value (ρ x'))) (x.ev env) ob :=
  Out.quiet H (by simp) (R.opd hx)

theorem op_pick (H : HInv B w0 ob g w) (R : Reads B ob g w env ρ) {c a b : Opd} {c' a' b' : Operand} (hc : mO c c' = true) (ha : mO a a' = true) (hb : mO b b' = true) {t : Bool} (he : c.ev env = .bool t) :
    Out P B w0 ob g w (do pure (.value (if ← asBool (ρ c') then ρ a' else ρ b'))) (if t then a.ev env else b.ev env) ob := by
  have h1 := R.opd hc
  rw [he] at h1
  refine Out.quiet H (x := if t then ρ a' else ρ b') (by simp [h1.bool_inv, asBool]) ?_
  cases t
  · exact R.opd hb
  · exact R.opd ha

theorem op_nilck (H : HInv B w0 ob g w) (R : Reads B ob g w env ρ) {x : Opd} {x' : Operand} (hx : mO x x' = true) {v : VV} (hv : (VOp.nilck x).ev ⟨env, ob⟩ = some (v, ob)) (o : Oper) (ho : o.op = .nilCheck x') :
    Out P B w0 ob g w (execOp ρ o) v ob := by
  have h1 := R.opd hx
  simp only [VOp.ev] at hv
  unfold execOp
  simp only [ho]
  revert h1 hv
  generalize x.ev env = u
  generalize ρ x' = y
  intro hv h1
  have hr := h1.rep
  cases u <;> simp only [Option.some.injEq, Prod.mk.injEq, and_true, reduceCtorEq] at hv <;> subst hv <;> cases hr
  all_goals exact Out.quiet H (by simp) h1

def kdTy (P : Program) (k : Kd) (t : TypeId) : Bool := match k, P.underlying t with
  | .i, some (.int _) => true
  | .b, some .bool => true
  | .s, some .string => true
  | _, _ => false
/-- a struct whose fields are numbers, bools and strings, in its cells' order -/
def stTy (P : Program) : List Kd → List Field → Nat → Bool
  | [], [], _ => true
  | k :: l, f :: r, n => f.name != "_" && f.offset == n && kdTy P k f.type && stTy P l r (n + 1)
  | _, _, _ => false
def tyIs (P : Program) (t : TypeId) : Ty → Bool
  | .sc k => kdTy P k t
  | .st l => match P.underlying t with | some (.struct fs) => stTy P l fs.toList 0 && !P.stoodInHeld t && !P.eqGuardType P.depth t | _ => false

theorem run_eq0 {t : TypeId} {u v : VV} {x y : Value} {r : Bool} {k : Kd} (hk : kdTy P k t = true) (hf : k.fits u = true) (hx : GV B ob g w u x) (hy : GV B ob g w v y) (h : eq0 u v = some r) (d : Nat) :
    (Op.equalIn (d + 1) t x y).run P w = .ok r w := by
  unfold kdTy at hk
  cases hu : P.underlying t with
  | none => cases k <;> simp [hu] at hk
  | some dd =>
    unfold eq0 at h
    split at h
    · split at h
      · rename_i ka a kb b hkk
        subst hkk; cases h
        cases k <;> simp [Kd.fits] at hf
        cases dd <;> simp [hu] at hk
        rw [hx.int_inv, hy.int_inv]
        exact run_equalIn_int w d t _ _ _ _ hu
      · cases h
    · cases h
      cases k <;> simp [Kd.fits] at hf
      cases dd <;> simp [hu] at hk
      rw [hx.bool_inv, hy.bool_inv]
      exact run_equalIn_bool w d t _ _ hu
    · cases h
      cases k <;> simp [Kd.fits] at hf
      cases dd <;> simp [hu] at hk
      obtain ⟨a, rfl, rfl⟩ := hx.str_inv
      obtain ⟨b, rfl, rfl⟩ := hy.str_inv
      rw [run_equalIn_string w d t _ _ hu, ByteArray.toList_eq, ByteArray.toList_eq]
    · cases h

theorem run_eqL : ∀ (l : List Kd) (fs : List Field) (us vs : List VV) (xs ys : Array Value) (n d : Nat) (r : Bool), stTy P l fs n = true → fitsL l us = true →
    (∀ j (h : j < us.length), ∃ x, xs[n + j]? = some x ∧ GV B ob g w us[j] x) → (∀ j (h : j < vs.length), ∃ x, ys[n + j]? = some x ∧ GV B ob g w vs[j] x) → eqL us vs = some r →
    (Op.eqFields (d + 1) xs ys fs).run P w = .ok r w
  | [], [], [], vs, xs, ys, n, d, r, _, _, _, _, h => by
    cases vs with
    | nil => simp [eqL] at h; subst h; simp [Op.eqFields]
    | cons => simp [eqL] at h
  | [], _ :: _, _, _, _, _, _, _, _, hf, _, _, _, _ => by simp [stTy] at hf
  | _ :: _, [], _, _, _, _, _, _, _, hf, _, _, _, _ => by simp [stTy] at hf
  | [], [], _ :: _, _, _, _, _, _, _, _, hf, _, _, _ => by simp [fitsL] at hf
  | _ :: _, _ :: _, [], _, _, _, _, _, _, _, hf, _, _, _ => by simp [fitsL] at hf
  | k :: l, f :: fs, u :: us, vs, xs, ys, n, d, r, he, hf, hx, hy, h => by
    cases vs with
    | nil => simp [eqL] at h
    | cons v vs =>
      simp only [stTy, Bool.and_eq_true, bne_iff_ne, ne_eq, beq_iff_eq] at he
      obtain ⟨⟨⟨h1, h2⟩, h3⟩, h4⟩ := he
      simp only [fitsL, Bool.and_eq_true] at hf
      obtain ⟨x, hx0, hxg⟩ := hx 0 (by simp)
      obtain ⟨y, hy0, hyg⟩ := hy 0 (by simp)
      simp only [Nat.add_zero] at hx0 hy0
      simp only [List.getElem_cons_zero] at hxg hyg
      have hp : ∀ (zs : Array Value) (z : Value), zs[n]? = some z → (part f.type zs f.offset).run P w = .ok z w := fun zs z hz => by
        unfold kdTy at h3
        cases hu : P.underlying f.type with
        | none => cases k <;> simp [hu] at h3
        | some dd => cases k <;> cases dd <;> simp [hu] at h3 <;> simp [part, isAgg, run_underlying hu, h2, hz]
      have hrest : ∀ r', eqL us vs = some r' → (Op.eqFields (d + 1) xs ys fs).run P w = .ok r' w := fun r' hr' =>
        run_eqL l fs us vs xs ys (n + 1) d r' h4 hf.2 (fun j hj => by have := hx (j + 1) (by simpa using hj); rwa [show n + (j + 1) = n + 1 + j by omega] at this)
          (fun j hj => by have := hy (j + 1) (by simpa using hj); rwa [show n + (j + 1) = n + 1 + j by omega] at this) hr'
      simp only [eqL] at h
      cases e0 : eq0 u v with
      | none => simp [e0] at h
      | some q =>
        have hq := run_eq0 h3 hf.1 hxg hyg e0 d
        simp only [Op.eqFields, ne_eq, h1, not_false_eq_true, if_true, Sem.run_bind, hp _ _ hx0, hp _ _ hy0, Result.andThen_ok, hq]
        cases q
        · simp [e0] at h; subst h; simp
        · simp [e0] at h; simp [hrest r h]

/-- == of two good values of a told type. -/
theorem run_eqV {t : TypeId} {ty : Ty} {u v : VV} {x y : Value} {r : Bool} (ht : tyIs P t ty = true) (hf : ty.fits u = true) (hx : GV B ob g w u x) (hy : GV B ob g w v y) (h : eqV u v = some r) :
    (Op.equal t x y).run P w = .ok r w := by
  show (Op.equalIn (9999 + 1) t x y).run P w = _
  cases ty with
  | sc k =>
    simp only [Ty.fits] at hf
    have h' : eq0 u v = some r := by
      cases u <;> cases k <;> simp [Kd.fits] at hf <;> exact h
    exact run_eq0 ht hf hx hy h' _
  | st l =>
    cases u <;> simp only [Ty.fits, Bool.false_eq_true] at hf
    rename_i us
    cases v <;> simp only [eqV, eq0, reduceCtorEq] at h
    rename_i vs
    simp only [tyIs] at ht
    cases hu : P.underlying t with
    | none => simp [hu] at ht
    | some dd =>
      cases dd <;> simp only [hu, Bool.false_eq_true] at ht
      rename_i fs
      simp only [Bool.and_eq_true, Bool.not_eq_true'] at ht
      obtain ⟨xs, rfl, _, hl, hx'⟩ := hx.agg_inv
      obtain ⟨ys, rfl, _, hl', hy'⟩ := hy.agg_inv
      have hfs : P.fieldsOf t = fs := by simp [Program.fieldsOf, hu]
      rw [run_equalIn_struct w 9999 t xs ys (by rw [hfs]; exact hu) ht.1.2, hfs]
      exact run_eqL l fs.toList us vs xs ys 0 9998 r ht.1.1 hf (fun j hj => ⟨_, by simp [hl, hj], hx' j hj⟩) (fun j hj => ⟨_, by simp [hl', hj], hy' j hj⟩) h

theorem run_guard {t : TypeId} {ty : Ty} {u v : VV} {x y : Value} (ht : tyIs P t ty = true) (hf : ty.fits u = true) (hx : GV B ob g w u x) (hy : GV B ob g w v y) (op : BinOp) (a b : Operand) :
    (eqGuard op t a b x y).run P w = .ok () w := by
  have hno : ∀ q : Value, x ≠ .nilIface := fun _ => by
    cases ty with
    | sc k =>
      cases u <;> cases k <;> simp [Ty.fits, Kd.fits] at hf
      · rw [hx.int_inv]; simp
      · rw [hx.bool_inv]; simp
      · obtain ⟨s, rfl, _⟩ := hx.str_inv; simp
    | st l =>
      cases u <;> simp only [Ty.fits, Bool.false_eq_true] at hf
      obtain ⟨xs, rfl, _⟩ := hx.agg_inv; simp
  have hag : ∀ xs, x = .agg xs → P.eqGuardType P.depth t = false := fun xs e => by
    subst e
    cases ty with
    | sc k =>
      cases u <;> cases k <;> simp [Ty.fits, Kd.fits] at hf
      · have := hx.int_inv; cases this
      · have := hx.bool_inv; cases this
      · obtain ⟨s, h, _⟩ := hx.str_inv; cases h
    | st l =>
      simp only [tyIs] at ht
      cases hu : P.underlying t with
      | none => simp [hu] at ht
      | some dd =>
        cases dd <;> simp only [hu, Bool.false_eq_true] at ht
        simp only [Bool.and_eq_true, Bool.not_eq_true'] at ht
        exact ht.2
  unfold eqGuard
  cases op <;> first
    | (simp; done)
    | (cases x <;> first
        | (exact absurd rfl (hno .nilIface))
        | (cases y <;> simp [hag _ rfl])
        | (cases y <;> simp))

theorem op_bin (H : HInv B w0 ob g w) (R : Reads B ob g w env ρ) {op : BinOp} {ty : Ty} {x y : Opd} {x' y' : Operand} {t t' : TypeId} (hx : mO x x' = true) (hy : mO y y' = true) (ht : tyIs P t ty = true)
    (hf : ty.fits (x.ev env) = true) {v : VV} (hv : binV op (x.ev env) (y.ev env) = some v) :
    Out P B w0 ob g w (do pure (.value (← (do eqGuard op t x' y' (ρ x') (ρ y'); binOp op t (ρ x') (ρ y'))))) v ob := by
  have h1 := R.opd hx
  have h2 := R.opd hy
  have hgd := run_guard ht hf h1 h2 op x' y'
  revert h1 h2 hf hv hgd
  generalize x.ev env = u
  generalize y.ev env = q
  generalize ρ x' = a
  generalize ρ y' = b
  intro hf hv h1 h2 hgd
  have key : ∀ z, (binOp op t a b).run P w = .ok z w → GV B ob g w v z → Out P B w0 ob g w (do pure (.value (← (do eqGuard op t x' y' a b; binOp op t a b)))) v ob := fun z hz hg =>
    Out.quiet H (x := z) (by simp only [Sem.run_bind, hgd, Result.andThen_ok, hz, Sem.run_pure]) hg
  unfold binV at hv
  split at hv
  · rename_i k m k' n
    obtain rfl := h1.int_inv
    obtain rfl := h2.int_inv
    split at hv
    · rename_i hk
      subst hk
      cases op <;> simp only [binI, Option.some.injEq, reduceCtorEq] at hv
      case quo => split at hv <;> cases hv; exact key _ (by simp [binOp, Op.intDiv, *]) .int
      case rem => split at hv <;> cases hv; exact key _ (by simp [binOp, Op.intDiv, *]) .int
      case and => subst hv; exact key (.int k _) (by simp only [binOp, ne_eq, not_true_eq_false, if_false]; rfl) .int
      case or => subst hv; exact key (.int k _) (by simp only [binOp, ne_eq, not_true_eq_false, if_false]; rfl) .int
      case xor => subst hv; exact key (.int k _) (by simp only [binOp, ne_eq, not_true_eq_false, if_false]; rfl) .int
      case andNot => subst hv; exact key (.int k _) (by simp only [binOp, ne_eq, not_true_eq_false, if_false]; rfl) .int
      case shl => unfold shI at hv; split at hv <;> cases hv; exact key _ (by simp [binOp, Op.shift, *]) .int
      case shr => unfold shI at hv; split at hv <;> cases hv; exact key _ (by simp [binOp, Op.shift, *]) .int
      all_goals subst hv
      all_goals first
        | exact key _ (by simp [binOp, Op.intArith]) .int
        | exact key _ (by simp [binOp, Op.intCmp]) .bool
    · unfold shI at hv
      split at hv
      · cases hv
      · cases op <;> simp only [reduceCtorEq, Option.some.injEq] at hv
        case shl => subst hv; exact key _ (by simp [binOp, Op.shift, *]) .int
        case shr => subst hv; exact key _ (by simp [binOp, Op.shift, *]) .int
  · rename_i s r
    obtain ⟨a', rfl, rfl⟩ := h1.str_inv
    obtain ⟨b', rfl, rfl⟩ := h2.str_inv
    cases op <;> simp only [binS, Option.some.injEq, reduceCtorEq] at hv
    case add =>
      split at hv <;> cases hv
      rename_i hl
      have hs : ¬ (((a'.size + b'.size : Nat) : Int) > IntKind.i64.max) := by
        simp only [Array.length_toList] at hl
        have : a'.size = a'.data.size := rfl
        have : b'.size = b'.data.size := rfl
        simp [IntKind.max, IntKind.bits, IntKind.signed]; omega
      refine key (.string (a' ++ b')) (by simp only [binOp, Op.stringOp]; rw [if_neg hs]; rfl) (.str (by simp))
    all_goals subst hv
    all_goals
      refine key _ (by simp only [binOp, Op.stringOp, ByteArray.toList_eq]; rfl) ?_
      try simp only [strLess_eq]
      exact .bool
  · rename_i m n
    obtain rfl := h1.bool_inv
    obtain rfl := h2.bool_inv
    have he := run_eqV ht hf h1 h2 (r := m == n) rfl
    cases op <;> simp only [Option.some.injEq, reduceCtorEq] at hv <;> subst hv <;> exact key _ (by simp [binOp, he]) .bool
  · rename_i m n
    cases op <;> simp only [Option.map_eq_some_iff, reduceCtorEq] at hv
    all_goals
      obtain ⟨r, hr, rfl⟩ := hv
      have he := run_eqV ht hf h1 h2 (r := r) hr
      obtain ⟨xs, rfl, _⟩ := h1.agg_inv
      obtain ⟨ys, rfl, _⟩ := h2.agg_inv
      exact key _ (by simp [binOp, he]) .bool
  · cases hv

end
end Go.V

/- V, part 7: more operations that only compute: places, parts, cuts. -/
set_option linter.unusedVariables false
set_option linter.unusedSimpArgs false
namespace Go.V
open Go.RowKit

section
variable {P : Program} {B : Nat} {w0 : W0} {ob : List Obj} {g : Gh} {w : World} {env : List (Nat × VV)} {ρ : Operand → Value}

theorem op_un (H : HInv B w0 ob g w) (R : Reads B ob g w env ρ) {op : UnOp} {x : Opd} {x' : Operand} (hx : mO x x' = true) {v : VV} (hv : (VOp.un op x).ev ⟨env, ob⟩ = some (v, ob)) :
    Out P B w0 ob g w (do pure (.value (← Op.unary op (ρ x')))) v ob := by
  have h1 := R.opd hx
  simp only [VOp.ev] at hv
  revert hv h1
  generalize x.ev env = u
  generalize ρ x' = y
  intro hv h1
  split at hv
  · cases hv
    obtain rfl := h1.int_inv
    exact Out.quiet H (by simp [Op.unary, Op.intArith]) .int
  · cases hv
    obtain rfl := h1.bool_inv
    exact Out.quiet H (by simp [Op.unary]) .bool
  · cases hv

def intTy (P : Program) (t : TypeId) (k : IntKind) : Bool := match P.underlying t with | some (.int k') => decide (k = k') | _ => false
def someTy (P : Program) (t : TypeId) : Bool := (P.underlying t).isSome

theorem op_cvi (H : HInv B w0 ob g w) (R : Reads B ob g w env ρ) {k : IntKind} {x : Opd} {x' : Operand} {s d : TypeId} (hx : mO x x' = true) (hs : someTy P s = true) (hd : intTy P d k = true) {v : VV}
    (hv : (VOp.cvi k x).ev ⟨env, ob⟩ = some (v, ob)) : Out P B w0 ob g w (do pure (.value (← convert s d (ρ x')))) v ob := by
  have h1 := R.opd hx
  simp only [VOp.ev] at hv
  revert hv h1
  generalize x.ev env = u
  generalize ρ x' = y
  intro hv h1
  split at hv
  · cases hv
    obtain rfl := h1.int_inv
    obtain ⟨ds, hs⟩ := Option.isSome_iff_exists.1 hs
    unfold intTy at hd
    cases hu : P.underlying d with
    | none => simp [hu] at hd
    | some dd =>
      cases dd <;> simp only [hu, decide_eq_true_eq, Bool.false_eq_true] at hd
      subst hd
      exact Out.quiet H (by simp [convert, run_underlying hs, run_underlying hu, Conv.intToInt]) .int
  · cases hv

theorem op_faddr (H : HInv B w0 ob g w) (R : Reads B ob g w env ρ) {off f : Nat} {x : Opd} {x' : Operand} {t : TypeId} (hx : mO x x' = true) (ht : fieldIs P t f off = true) {v : VV}
    (hv : (VOp.faddr off x).ev ⟨env, ob⟩ = some (v, ob)) : Out P B w0 ob g w (do pure (.value (← Instr.fieldAt t (ρ x') f))) v ob := by
  have h1 := R.opd hx
  simp only [VOp.ev] at hv
  revert hv h1
  generalize x.ev env = u
  generalize ρ x' = y
  intro hv h1
  unfold fieldIs at ht
  cases hu : P.underlying t with
  | none => simp [hu] at ht
  | some d =>
    cases d <;> simp only [hu, Bool.false_eq_true] at ht
    rename_i fs
    cases hf : fs[f]? with
    | none => simp [hf] at ht
    | some fl =>
      simp only [hf, Bool.and_eq_true, beq_iff_eq] at ht
      obtain ⟨rfl, hsz⟩ := ht
      cases hi : P.info? fl.type with
      | none => simp [hi] at hsz
      | some i =>
        simp only [hi, decide_eq_true_eq] at hsz
        have hsize : (sizeOf fl.type).run P w = .ok i.size w := by simp [sizeOf, typeInfo, hi]
        have key : ∀ b o, (Instr.fieldAt t (.pointer (some ⟨b, o, none⟩)) f).run P w = .ok (.pointer (some ⟨b, o + fl.offset, none⟩)) w := fun b o => by
          simp [Instr.fieldAt, run_underlying hu, hf, Instr.sureAddr, fieldPlace, hsize, Nat.pos_iff_ne_zero.1 hsz, add_at]
        split at hv
        · cases hv
          obtain ⟨b, rfl, htb⟩ := h1.ptr_inv
          exact Out.quiet H (by simp [key]) (.ptr htb H)
        · cases hv
          have hr := h1.rep
          cases hr with
          | @pim _ _ b o vals hc h hr hF =>
            exact Out.quiet H (by simp [key]; rfl) ⟨by rw [Nat.add_assoc]; exact .pim vals hc h hr hF, trivial, rfl⟩
        · cases hv

theorem op_fld (H : HInv B w0 ob g w) (R : Reads B ob g w env ρ) {off n f : Nat} {x : Opd} {x' : Operand} {t : TypeId} (hx : mO x x' = true) (ht : fieldVar P t f off n = true) {cs : List VV} {v : VV}
    (he : x.ev env = .agg cs) (hl : loadV n cs off = some v) : Out P B w0 ob g w (do pure (.value (← Instr.field t (ρ x') f))) v ob := by
  have h1 := R.opd hx
  rw [he] at h1
  obtain ⟨xs, hx', hc, hsz, hg⟩ := h1.agg_inv
  unfold fieldVar at ht
  cases hu : P.underlying t with
  | none => simp [hu] at ht
  | some d =>
    cases d <;> simp only [hu, Bool.false_eq_true] at ht
    rename_i fs
    cases hf : fs[f]? with
    | none => simp [hf] at ht
    | some fl =>
      simp only [hf, Bool.and_eq_true, beq_iff_eq] at ht
      obtain ⟨rfl, hvar⟩ := ht
      have hgood := GV.loadV hl hc (fun j => xs.getD j undef) fun j hj => by have := hg j hj; simpa [hsz, hj] using this
      obtain ⟨hoff, _⟩ := loadV_inv hl
      refine Out.quiet H ?_ hgood
      have hpart : (part fl.type xs fl.offset).run P w = .ok (if n = 0 then xs.getD fl.offset undef else .agg ((List.range n).map fun j => xs.getD (fl.offset + j) undef).toArray) w := by
        unfold varIs at hvar
        cases hu' : P.underlying fl.type with
        | none => simp [hu'] at hvar
        | some dd =>
          have hagg : ∀ (hn : 0 < n) (hs : sizeIs P fl.type n = true), (xs.extract fl.offset (fl.offset + n)) = ((List.range n).map fun j => xs.getD (fl.offset + j) undef).toArray := fun hn hs => by
            apply Array.ext
            · simp; omega
            · intro i h1 h2
              simp at h1 h2
              have : fl.offset + i < xs.size := by omega
              simp [this]
          cases dd <;> simp only [hu'] at hvar
          case struct =>
            simp only [Bool.and_eq_true, decide_eq_true_eq] at hvar
            simp [part, isAgg, run_underlying hu', run_size hvar.2, hagg hvar.1 hvar.2, Nat.pos_iff_ne_zero.1 hvar.1]
          case array =>
            simp only [Bool.and_eq_true, decide_eq_true_eq] at hvar
            simp [part, isAgg, run_underlying hu', run_size hvar.2, hagg hvar.1 hvar.2, Nat.pos_iff_ne_zero.1 hvar.1]
          all_goals
            simp only [Bool.and_eq_true, beq_iff_eq] at hvar
            have : fl.offset < xs.size := by omega
            simp [part, isAgg, run_underlying hu', hvar.1, this]
      simp only [Instr.field, hx', asAgg, Sem.run_bind, run_underlying hu, Result.andThen_ok, hf, Sem.run_pure, hpart]

theorem canon_hnd {v : VV} (h : v.canon = true) (x : Value) : Hnd B ob g w v x := by
  cases v with
  | agg cs =>
    simp only [VV.canon, List.all_eq_true] at h
    cases x <;> try trivial
    intro j v x hv _
    have hc := h v (List.mem_of_getElem? hv)
    cases v <;> simp only [VV.canon0, Bool.false_eq_true, beq_iff_eq] at hc <;> first | trivial | (subst hc; trivial)
  | sl es t =>
    simp only [VV.canon, VV.canon0, beq_iff_eq] at h
    subst h
    cases x <;> trivial
  | tup vs => simp [VV.canon, VV.canon0] at h
  | _ => cases x <;> trivial

/-- What holds data alone is good wherever it stands for something. -/
theorem GV.canon {v : VV} {x : Value} (h : v.canon = true) (hr : Rep w g.F g.tb v x) : GV B ob g w v x := ⟨hr, canon_hnd h x, canon_ids _ h⟩

theorem op_iaddr (H : HInv B w0 ob g w) (R : Reads B ob g w env ρ) {sz : Nat} {x i : Opd} {x' i' : Operand} {t : TypeId} (hx : mO x x' = true) (hi : mO i i' = true) (ht : sliceIs P t sz = true) {v : VV}
    (hv : (VOp.iaddr sz x i).ev ⟨env, ob⟩ = some (v, ob)) : Out P B w0 ob g w (do pure (.value (← Instr.indexAt t (ρ x') (ρ i')))) v ob := by
  have h1 := R.opd hx
  have h2 := R.opd hi
  simp only [VOp.ev] at hv
  revert hv h1 h2
  generalize x.ev env = u
  generalize i.ev env = q
  generalize ρ x' = y
  generalize ρ i' = z
  intro h1 h2 hv
  unfold sliceIs at ht
  cases hu : P.underlying t with
  | none => simp [hu] at ht
  | some d =>
    cases d <;> simp only [hu, Bool.false_eq_true, Bool.and_eq_true, decide_eq_true_eq] at ht
    rename_i e
    split at hv
    · rename_i es tk ki k
      obtain rfl := h2.int_inv
      split at hv
      · rename_i el hel
        split at hel
        · rename_i hk
          obtain ⟨hlt, rfl⟩ := List.getElem?_eq_some_iff.1 hel
          split at hv
          · rename_i hcl
            cases hv
            have hr := h1.rep
            cases hr with
            | slE => exact absurd hlt (by simp)
            | @sl _ _ b o cap sz' vals hne hcap hsz hc h hr hF =>
              obtain ⟨hca, hcs⟩ := hc _ hlt
              have hs : sz' = sz := by omega
              subst hs
              refine Out.quiet H (x := .pointer (some ⟨b, o + k.toNat * sz', none⟩)) ?_ ?_
              · have hk' : 0 ≤ k ∧ k < (es.length : Int) := ⟨hk, by omega⟩
                simp [Instr.indexAt, asIntOf, run_underlying hu, hk', run_size ht.2, add_at]
              · refine ⟨.pim (vals k.toNat) (canon_cells hca) (fun j hj => h _ hlt j hj) (fun j hj => hr _ hlt j hj) ?_, trivial, rfl⟩
                have h2 : (k.toNat + 1) * sz' ≤ es.length * sz' := Nat.mul_le_mul_right _ hlt
                rw [Nat.add_mul, Nat.one_mul] at h2
                show o + k.toNat * sz' + es[k.toNat].cells.length ≤ g.F b
                omega
          · cases hv
        · cases hel
      · cases hv
    · rename_i o off ln ki k
      obtain rfl := h2.int_inv
      split at hv
      · rename_i hk
        cases hv
        have hr := h1.rep
        cases hr with
        | @row _ _ _ cap b htb hl =>
          refine Out.quiet H (x := .pointer (some ⟨b, off + k.toNat * sz, none⟩)) ?_ (.ptr htb H)
          simp [Instr.indexAt, asIntOf, run_underlying hu, hk, run_size ht.2, add_at]
      · cases hv
    · cases hv

/-- an array of n elements of sz cells -/
def arrIs (P : Program) (t : TypeId) (n sz : Nat) : Bool := match P.underlying t with | some (.array m e) => m == n && sizeIs P e sz | _ => false

theorem op_aaddr (H : HInv B w0 ob g w) (R : Reads B ob g w env ρ) {n sz : Nat} {x i : Opd} {x' i' : Operand} {t : TypeId} (hx : mO x x' = true) (hi : mO i i' = true) (ht : arrIs P t n sz = true) {v : VV}
    (hv : (VOp.aaddr n sz x i).ev ⟨env, ob⟩ = some (v, ob)) : Out P B w0 ob g w (do pure (.value (← Instr.indexAt t (ρ x') (ρ i')))) v ob := by
  have h1 := R.opd hx
  have h2 := R.opd hi
  unfold arrIs at ht
  simp only [VOp.ev] at hv
  revert hv h1 h2
  generalize x.ev env = u
  generalize i.ev env = q
  generalize ρ x' = y
  generalize ρ i' = z
  intro h1 h2 hv
  cases hu : P.underlying t with
  | none => simp [hu] at ht
  | some d =>
    cases d <;> simp only [hu, Bool.false_eq_true, Bool.and_eq_true, beq_iff_eq] at ht
    obtain ⟨rfl, hs⟩ := ht
    split at hv
    · obtain rfl := h2.int_inv
      split at hv
      · rename_i hk
        cases hv
        obtain ⟨b, rfl, htb⟩ := h1.ptr_inv
        refine Out.quiet H (x := .pointer (some ⟨b, _, none⟩)) ?_ (.ptr htb H)
        simp [Instr.indexAt, asIntOf, run_underlying hu, hk, run_size hs, add_at, Instr.sureAddr]
      · cases hv
    · obtain rfl := h2.int_inv
      split at hv
      · rename_i hk
        cases hv
        have hr := h1.rep
        cases hr with
        | @pim _ _ b o vals hc h hr hF =>
          refine Out.quiet H (x := .pointer (some ⟨b, o + (_ + _), none⟩)) ?_ ⟨.pim vals hc h hr hF, trivial, rfl⟩
          simp [Instr.indexAt, asIntOf, run_underlying hu, hk, run_size hs, add_at, Instr.sureAddr, Nat.add_assoc]
      · cases hv
    · cases hv

def strTy (P : Program) (t : TypeId) : Bool := match P.underlying t with | some .string => true | _ => false
theorem strTy_eq {t : TypeId} (h : strTy P t = true) : P.underlying t = some .string := by
  unfold strTy at h
  cases hu : P.underlying t with
  | none => simp [hu] at h
  | some d => cases d <;> simp [hu] at h; rfl

theorem op_idx (H : HInv B w0 ob g w) (R : Reads B ob g w env ρ) {x i : Opd} {x' i' : Operand} {t : TypeId} (hx : mO x x' = true) (hi : mO i i' = true) (ht : strTy P t = true) {v : VV}
    (hv : (VOp.idx x i).ev ⟨env, ob⟩ = some (v, ob)) : Out P B w0 ob g w (do pure (.value (← Instr.index t (ρ x') (ρ i')))) v ob := by
  have h1 := R.opd hx
  have h2 := R.opd hi
  simp only [VOp.ev] at hv
  revert hv h1 h2
  generalize x.ev env = u
  generalize i.ev env = q
  generalize ρ x' = y
  generalize ρ i' = z
  intro hv h1 h2
  split at hv
  · rename_i s ki k
    obtain ⟨b, rfl, rfl⟩ := h1.str_inv
    obtain rfl := h2.int_inv
    split at hv
    · rename_i c hc
      cases hv
      split at hc
      · rename_i hk
        obtain ⟨hlt, rfl⟩ := List.getElem?_eq_some_iff.1 hc
        have hlt' : k.toNat < b.size := by simpa using hlt
        have hget : b[k.toNat]? = some (b.data.toList[k.toNat]) := by
          rw [ByteArray.getElem?_lt' b _ hlt']
          simp
          rfl
        exact Out.quiet H (by simp [Instr.index, asIntOf, run_underlying (strTy_eq ht), hk, hget]) .int
      · cases hc
    · cases hv
  · cases hv

theorem op_ext (H : HInv B w0 ob g w) (R : Reads B ob g w env ρ) {i : Nat} {x : Opd} {x' : Operand} (hx : mO x x' = true) {v : VV}
    (hv : (VOp.ext x i).ev ⟨env, ob⟩ = some (v, ob)) : Out P B w0 ob g w (do pure (.value (← Instr.extract (ρ x') i))) v ob := by
  have h1 := R.opd hx
  simp only [VOp.ev] at hv
  revert hv h1
  generalize x.ev env = u
  generalize ρ x' = y
  intro hv h1
  split at hv
  · rename_i vs
    split at hv
    · rename_i v' hv'
      cases hv
      obtain ⟨hlt, rfl⟩ := List.getElem?_eq_some_iff.1 hv'
      have hr := h1.rep
      have hd := h1.hnd
      have hid := h1.ids
      cases hr with
      | @tup _ xs hl hc hr =>
        have hnt := List.all_eq_true.1 hc _ (List.getElem_mem hlt)
        have hlt' : i < xs.size := hl ▸ hlt
        refine Out.quiet H (x := xs[i]) (by simp [Instr.extract, hlt']) ⟨hr i hlt, ?_, idsL_get (by simpa [VV.ids] using hid) i hlt⟩
        have hh := hd i _ _ (List.getElem?_eq_getElem hlt) (Array.getElem?_eq_getElem hlt')
        have hri := hr i hlt
        revert hh hri hnt
        generalize vs[i] = q
        generalize xs[i] = z
        intro hnt hh hri
        cases q with
        | agg ds =>
          cases hri with
          | @agg _ ys hl' hc' hr' => exact fun j a c ha hc => hh.2 ds ys rfl rfl j a c ha hc
        | tup ds => simp [VV.noTup] at hnt
        | _ => cases z <;> exact hh.1
    · cases hv
  · cases hv

end
end Go.V

/- V, part 8: cuts of strings and slices, lengths, min and max, function values, structs put together. -/
set_option linter.unusedVariables false
set_option linter.unusedSimpArgs false
namespace Go.V
open Go.RowKit

def mOO : Option Opd → Option Operand → Bool
  | none, none => true
  | some x, some y => mO x y
  | _, _ => false

section
variable {P : Program} {B : Nat} {w0 : W0} {ob : List Obj} {g : Gh} {w : World} {env : List (Nat × VV)} {ρ : Operand → Value}

theorem bound_run (R : Reads B ob g w env ρ) {x : Opd} {x' : Operand} (hx : mO x x' = true) {y n m : Nat} (hm : y ≤ m) (h : bound env y x = some n) (code : BoundsCode) :
    n ≤ y ∧ (Instr.sliceBound (ρ x') m code).run P w = .ok n w := by
  have h1 := R.opd hx
  unfold bound at h
  revert h h1
  generalize x.ev env = u
  generalize ρ x' = z
  intro h h1
  split at h
  · rename_i k i
    obtain rfl := h1.int_inv
    split at h
    · rename_i hi
      cases h
      exact ⟨by omega, run_sliceBound w k i m code hi.1 (by omega)⟩
    · cases h
  · cases h

theorem sliceBounds_run (R : Reads B ob g w env ρ) {isSlice : Bool} {lo hi mx : Option Opd} {lo' hi' mx' : Option Operand} (hl : mOO lo lo' = true) (hh : mOO hi hi' = true) (hm : mOO mx mx' = true)
    {len cap m h l : Nat} (hc : len ≤ cap) (h0 : ¬ (mx.isSome ∧ hi.isNone)) (e1 : bo env len len mx = some m) (e2 : bo env m len hi = some h) (e3 : bo env h 0 lo = some l) :
    l ≤ h ∧ h ≤ m ∧ m ≤ len ∧ (Instr.sliceBounds isSlice len cap (lo'.map ρ) (hi'.map ρ) (mx'.map ρ)).run P w = .ok (l, h, if mx.isSome then m else cap) w := by
  have hmx : m ≤ len ∧ (mx.isNone → m = len) ∧ ∀ v, mx' = some v → ∀ c, (Instr.sliceBound (ρ v) cap c).run P w = .ok m w := by
    cases mx <;> cases mx' <;> simp only [mOO, Bool.false_eq_true] at hm
    · simp [bo] at e1; subst e1; simp
    · obtain ⟨q1, q2⟩ := bound_run (P := P) R hm hc e1 .index
      refine ⟨q1, by simp, fun v hv c => ?_⟩
      cases hv
      exact (bound_run (P := P) R hm hc e1 c).2
  have hhi : h ≤ m ∧ (hi = none → h = len) ∧ ∀ v, hi' = some v → ∀ c, (Instr.sliceBound (ρ v) (if mx.isSome then m else cap) c).run P w = .ok h w := by
    cases hi <;> cases hi' <;> simp only [mOO, Bool.false_eq_true] at hh
    · simp [bo] at e2; subst e2
      cases mx with
      | some q => simp at h0
      | none => simp at hmx; simp; omega
    · have hle : m ≤ (if mx.isSome then m else cap) := by split <;> omega
      obtain ⟨q1, q2⟩ := bound_run (P := P) R hh hle e2 .index
      refine ⟨q1, by simp, fun v hv c => ?_⟩
      cases hv
      exact (bound_run (P := P) R hh hle e2 c).2
  have hlo : l ≤ h ∧ (lo = none → l = 0) ∧ ∀ v, lo' = some v → ∀ c, (Instr.sliceBound (ρ v) h c).run P w = .ok l w := by
    cases lo <;> cases lo' <;> simp only [mOO, Bool.false_eq_true] at hl
    · simp [bo] at e3; subst e3; simp
    · obtain ⟨q1, q2⟩ := bound_run (P := P) R hl (Nat.le_refl _) e3 .index
      refine ⟨q1, by simp, fun v hv c => ?_⟩
      cases hv
      exact (bound_run (P := P) R hl (Nat.le_refl _) e3 c).2
  refine ⟨hlo.1, hhi.1, hmx.1, ?_⟩
  cases mx <;> cases mx' <;> simp only [mOO, Bool.false_eq_true] at hm <;> cases hi <;> cases hi' <;> simp only [mOO, Bool.false_eq_true] at hh <;> cases lo <;> cases lo' <;> simp only [mOO, Bool.false_eq_true] at hl
  all_goals first
    | (exact absurd ⟨rfl, rfl⟩ h0)
    | (simp_all [Instr.sliceBounds])

theorem op_slcS (H : HInv B w0 ob g w) (R : Reads B ob g w env ρ) {x : Opd} {x' : Operand} {lo hi mx : Option Opd} {lo' hi' mx' : Option Operand} {t : TypeId} (hx : mO x x' = true) (hl : mOO lo lo' = true) (hh : mOO hi hi' = true) (hm : mOO mx mx' = true)
    (ht : strTy P t = true) {v : VV} (hv : (VOp.slc 0 x lo hi mx).ev ⟨env, ob⟩ = some (v, ob)) : Out P B w0 ob g w (do pure (.value (← Instr.sliceAt t (ρ x') (lo'.map ρ) (hi'.map ρ) (mx'.map ρ)))) v ob := by
  have h1 := R.opd hx
  simp only [VOp.ev] at hv
  split at hv
  · rename_i s he
    rw [he] at h1
    obtain ⟨b, hb, rfl⟩ := h1.str_inv
    split at hv
    · cases hv
    · rename_i hnm
      cases mx <;> cases mx' <;> simp only [mOO, Bool.false_eq_true] at hm <;> simp at hnm
      simp only [Option.bind_eq_some_iff, Option.some.injEq, Prod.mk.injEq, and_true] at hv
      obtain ⟨h, e2, l, e3, rfl⟩ := hv
      obtain ⟨q1, q2, q3, hr⟩ := sliceBounds_run (P := P) (isSlice := false) (mx := none) (mx' := none) R hl hh rfl (len := b.size) (cap := b.size) (Nat.le_refl _) (by simp) rfl (by simpa using e2) e3
      refine Out.quiet H (x := .string (b.extract l h)) ?_ ?_
      · simp only [Option.map_none, Option.isSome_none, Bool.false_eq_true, if_false] at hr
        simp [Instr.sliceAt, Instr.slice, run_underlying (strTy_eq ht), hb, hr]
      · refine .str ?_
        rw [ByteArray.data_extract]
        simp [Array.toList_extract, List.extract]
        rw [List.drop_take]
  · cases hv

theorem op_slc (H : HInv B w0 ob g w) (R : Reads B ob g w env ρ) {sz : Nat} {x : Opd} {x' : Operand} {lo hi mx : Option Opd} {lo' hi' mx' : Option Operand} {t : TypeId} (hx : mO x x' = true) (hl : mOO lo lo' = true) (hh : mOO hi hi' = true) (hm : mOO mx mx' = true)
    (ht : sliceIs P t (sz + 1) = true) {v : VV} (hv : (VOp.slc (sz + 1) x lo hi mx).ev ⟨env, ob⟩ = some (v, ob)) : Out P B w0 ob g w (do pure (.value (← Instr.sliceAt t (ρ x') (lo'.map ρ) (hi'.map ρ) (mx'.map ρ)))) v ob := by
  have h1 := R.opd hx
  unfold sliceIs at ht
  cases hu : P.underlying t with
  | none => simp [hu] at ht
  | some d =>
  cases d <;> simp only [hu, Bool.false_eq_true, Bool.and_eq_true, decide_eq_true_eq] at ht
  rename_i el
  simp only [VOp.ev] at hv
  split at hv
  · rename_i es tk he
    rw [he] at h1
    split at hv
    · cases hv
    · rename_i hnm
      have hnm1 : ¬ (mx.isSome ∧ hi.isNone) := fun q => hnm (.inl (by simpa using q))
      have hnm2 : hdSz es (sz + 1) = true := by
        cases q : hdSz es (sz + 1) with
        | true => rfl
        | false => exact absurd (.inr q) hnm
      simp only [Option.bind_eq_some_iff, Option.some.injEq, Prod.mk.injEq, and_true] at hv
      obtain ⟨m, e1, h, e2, l, e3, rfl⟩ := hv
      have hr := h1.rep
      revert hr
      generalize hy : ρ x' = y
      intro hr
      cases hr with
      | @slE _ a cap =>
        simp only [List.length_nil] at e1 e2
        obtain ⟨q1, q2, q3, hrun⟩ := sliceBounds_run (P := P) (isSlice := true) R hl hh hm (len := 0) (cap := cap) (Nat.zero_le _) hnm1 e1 e2 e3
        obtain rfl : m = 0 := by omega
        obtain rfl : h = 0 := by omega
        obtain rfl : l = 0 := by omega
        refine Out.quiet H (x := .slice (if (if mx.isSome then 0 else cap) = 0 then a else a.map (·.add (0 * (sz + 1)))) (0 - 0) ((if mx.isSome then 0 else cap) - 0)) ?_ ?_
        · simp only [Instr.sliceAt, Instr.slice, run_underlying hu, hy, Sem.run_bind, Result.andThen_ok, hrun, run_size ht.2, Sem.run_pure]
        · by_cases hms : mx.isSome
          · simp only [hms, true_and, if_true]
            exact ⟨.nils, trivial, rfl⟩
          · simp only [hms, Bool.false_eq_true, false_and, if_false, List.take_nil, List.drop_nil]
            exact ⟨.slE, trivial, by simp [VV.ids]⟩
      | @sl _ _ b o cap sz' vals hne hcap hsz hc hcell hr hF =>
        have hs : sz' = sz + 1 := by
          cases es with
          | nil => exact absurd rfl hne
          | cons e r =>
            simp only [hdSz, beq_iff_eq] at hnm2
            have := (hc 0 (by simp)).2
            simp at this
            omega
        subst hs
        obtain ⟨q1, q2, q3, hrun⟩ := sliceBounds_run (P := P) (isSlice := true) R hl hh hm (len := es.length) (cap := cap) hcap hnm1 e1 e2 e3
        refine Out.quiet H (x := .slice (if (if mx.isSome then m else cap) = l then some ⟨b, o, none⟩ else (some (⟨b, o, none⟩ : Addr)).map (·.add (l * (sz + 1)))) (h - l) ((if mx.isSome then m else cap) - l)) ?_ ?_
        · simp only [Instr.sliceAt, Instr.slice, run_underlying hu, hy, Sem.run_bind, Result.andThen_ok, hrun, run_size ht.2, Sem.run_pure]
        · by_cases hms : mx.isSome ∧ m = l
          · obtain ⟨hms, rfl⟩ := hms
            obtain rfl : h = m := by omega
            simp only [hms, and_self, if_true, Nat.sub_self]
            exact ⟨.nils, trivial, rfl⟩
          · rw [if_neg hms]
            have hlen : ((es.take h).drop l).length = h - l := by simp; omega
            by_cases hemp : h = l
            · subst hemp
              have : (es.take h).drop h = [] := List.eq_nil_of_length_eq_zero (by rw [hlen]; omega)
              rw [this, Nat.sub_self]
              exact ⟨.slE, trivial, by simp [VV.ids]⟩
            · have hml : (if mx.isSome then m else cap) ≠ l := by split <;> omega
              rw [if_neg hml]
              simp only [Option.map_some, add_at]
              refine ⟨?_, trivial, by simp [VV.ids]⟩
              rw [← hlen]
              have hget : ∀ i (hi : i < ((es.take h).drop l).length), ((es.take h).drop l)[i] = es[l + i]'(by rw [hlen] at hi; omega) := fun i hi => by simp
              have hmul : ∀ i, (l + i) * (sz + 1) = l * (sz + 1) + i * (sz + 1) := fun i => Nat.add_mul _ _ _
              refine Rep.sl (sz := sz + 1) (fun i j => vals (l + i) j) (fun q => by rw [q] at hlen; simp at hlen; omega) (by rw [hlen]; split <;> omega) (Nat.succ_pos _) (fun i hi => ?_) (fun i hi j hj => ?_) (fun i hi j hj => ?_) ?_
              · rw [hget i hi]; exact hc _ _
              · have hj' : j < (es[l + i]'(by rw [hlen] at hi; omega)).cells.length := by rw [← hget i hi]; exact hj
                have := hcell (l + i) (by rw [hlen] at hi; omega) j hj'
                rw [hmul] at this
                rwa [show o + l * (sz + 1) + i * (sz + 1) + j = o + (l * (sz + 1) + i * (sz + 1)) + j by omega]
              · have hj' : j < (es[l + i]'(by rw [hlen] at hi; omega)).cells.length := by rw [← hget i hi]; exact hj
                have := hr (l + i) (by rw [hlen] at hi; omega) j hj'
                simpa [hget i hi] using this
              · rw [hlen]
                have h2 : (l + (h - l)) * (sz + 1) ≤ es.length * (sz + 1) := Nat.mul_le_mul_right _ (by omega)
                rw [hmul] at h2
                show o + l * (sz + 1) + (h - l) * (sz + 1) ≤ g.F b
                omega
  · rename_i o off ln he
    rw [he] at h1
    split at hv
    · cases hv
    · rename_i hnm
      simp only [Option.bind_eq_some_iff, Option.some.injEq, Prod.mk.injEq, and_true] at hv
      obtain ⟨h, e2, l, e3, rfl⟩ := hv
      cases mx <;> cases mx' <;> simp only [mOO, Bool.false_eq_true] at hm <;> simp at hnm
      have hid := h1.ids
      have hr := h1.rep
      revert hr
      generalize hy : ρ x' = y
      intro hr
      cases hr with
      | @row _ _ _ cap b htb hle =>
        obtain ⟨q1, q2, q3, hrun⟩ := sliceBounds_run (P := P) (isSlice := true) (mx := none) (mx' := none) R hl hh rfl (len := ln) (cap := cap) hle (by simp) rfl e2 e3
        simp only [Option.map_none, Option.isSome_none, Bool.false_eq_true, if_false] at hrun
        refine Out.quiet H (x := .slice (if cap = l then some ⟨b, off, none⟩ else (some (⟨b, off, none⟩ : Addr)).map (·.add (l * (sz + 1)))) (h - l) (cap - l)) ?_ ?_
        · simp only [Instr.sliceAt, Instr.slice, run_underlying hu, hy, Sem.run_bind, Result.andThen_ok, Option.map_none, hrun, run_size ht.2, Sem.run_pure]
        · by_cases hemp : h = l
          · subst hemp
            rw [if_pos rfl, Nat.sub_self]
            exact ⟨.slE, trivial, by simp [VV.ids]⟩
          · rw [if_neg hemp]
            have hcl : ¬ cap = l := by omega
            rw [if_neg hcl]
            simp only [Option.map_some, add_at]
            exact ⟨.row htb (by omega), trivial, by simpa [VV.ids] using hid⟩
  · rename_i he
    rw [he] at h1
    split at hv
    · cases hv
    · rename_i hnm
      simp only [Option.bind_eq_some_iff, Option.some.injEq, Prod.mk.injEq, and_true] at hv
      obtain ⟨m, e1, h, e2, l, e3, rfl⟩ := hv
      have hr := h1.rep
      revert hr
      generalize hy : ρ x' = y
      intro hr
      cases hr with
      | @nils a =>
        obtain ⟨q1, q2, q3, hrun⟩ := sliceBounds_run (P := P) (isSlice := true) R hl hh hm (len := 0) (cap := 0) (Nat.le_refl _) hnm e1 e2 e3
        obtain rfl : m = 0 := by omega
        obtain rfl : h = 0 := by omega
        obtain rfl : l = 0 := by omega
        refine Out.quiet H (x := .slice (if (if mx.isSome then 0 else 0) = 0 then a else a.map (·.add (0 * (sz + 1)))) (0 - 0) ((if mx.isSome then 0 else 0) - 0)) ?_ ?_
        · simp only [Instr.sliceAt, Instr.slice, run_underlying hu, hy, Sem.run_bind, Result.andThen_ok, hrun, run_size ht.2, Sem.run_pure]
        · have : (if mx.isSome = true then 0 else 0) - 0 = 0 := by split <;> rfl
          rw [this]
          exact ⟨.nils, trivial, rfl⟩
  · cases hv

end
end Go.V

/- V, part 9: lengths, min and max, function values, structs put together; new variables. -/
set_option linter.unusedVariables false
set_option linter.unusedSimpArgs false
namespace Go.V
open Go.RowKit

def kindTy (P : Program) (k : Nat) (t : TypeId) : Bool := match k, P.underlying t with
  | 0, some .string => true
  | 1, some (.slice _) => true
  | 2, some (.map _ _) => true
  | _, _ => false

def zeroIs (P : Program) (t : TypeId) (zero : List VV) : Bool := match P.info? t with
  | some i => match i.zero with
    | some z => repCL zero z.cells.toList
    | none => false
  | none => false

/-- the parts of a struct: at the fields' places -/
def mParts (P : Program) (fs : Array Field) : List (Nat × Nat × Opd) → List (Nat × Operand) → Bool
  | [], [] => true
  | (off, sz, x) :: r, (i, y) :: s => (match fs[i]? with | some f => f.offset == off && sizeIs P f.type sz | none => false) && mO x y && mParts P fs r s
  | _, _ => false

section
variable {P : Program} {B : Nat} {w0 : W0} {ob : List Obj} {g : Gh} {w : World} {env : List (Nat × VV)} {ρ : Operand → Value}

theorem op_len (H : HInv B w0 ob g w) (R : Reads B ob g w env ρ) {k : Nat} {x : Opd} {x' : Operand} {t ty : TypeId} (hx : mO x x' = true) (ht : kindTy P k t = true) {v : VV}
    (hv : (VOp.len k x).ev ⟨env, ob⟩ = some (v, ob)) : Out P B w0 ob g w (do pure (.value (← Builtin.len_ #[t] ty #[ρ x']))) v ob := by
  have h1 := R.opd hx
  revert h1
  generalize hy : ρ x' = y
  intro h1
  unfold kindTy at ht
  cases hu : P.underlying t with
  | none => simp [hu] at ht
  | some d =>
  have key : ∀ z, (Builtin.len_ #[t] ty #[y]).run P w = .ok z w → GV B ob g w v z → Out P B w0 ob g w (do pure (.value (← Builtin.len_ #[t] ty #[y]))) v ob := fun z hz hg =>
    Out.quiet H (x := z) (by simp only [Sem.run_bind, hz, Result.andThen_ok, Sem.run_pure]) hg
  split at ht
  · rename_i e
    cases hu.symm.trans e
    simp only [VOp.ev] at hv
    split at hv
    · rename_i s he
      cases hv
      rw [he] at h1
      obtain ⟨b, rfl, rfl⟩ := h1.str_inv
      exact key (.int .i64 b.size) (by simp [Builtin.len_, run_underlying hu, goInt]) (by rw [Array.length_toList]; exact .int)
    · cases hv
  · rename_i el e
    cases hu.symm.trans e
    simp only [VOp.ev] at hv
    split at hv
    · rename_i es tk he
      cases hv
      rw [he] at h1
      have hr := h1.rep
      cases hr
      all_goals exact key _ (by simp [Builtin.len_, run_underlying hu, goInt]) .int
    · rename_i he
      cases hv
      rw [he] at h1
      have hr := h1.rep
      cases hr
      exact key _ (by simp [Builtin.len_, run_underlying hu, goInt]) .int
    · rename_i o off ln he
      cases hv
      rw [he] at h1
      have hr := h1.rep
      cases hr
      exact key _ (by simp [Builtin.len_, run_underlying hu, goInt]) .int
    · cases hv
  · rename_i kk el e
    cases hu.symm.trans e
    simp only [VOp.ev] at hv
    split at hv
    · rename_i he
      cases hv
      rw [he] at h1
      have hr := h1.rep
      cases hr
      exact key _ (by simp [Builtin.len_, run_underlying hu, goInt]) .int
    · rename_i o he
      rw [he] at h1
      have hr := h1.rep
      cases hr with
      | @mp _ b htb =>
      split at hv
      · rename_i es ho
        cases hv
        obtain ⟨_, b', arr, clock, q1, q2, q3, q4, hsz, q5⟩ := H.get ho (by simp)
        rw [htb] at q1; cases q1
        refine key (.int .i64 arr.size) ?_ (by rw [hsz]; exact .int)
        simp [Builtin.len_, run_underlying hu, goInt, getObj, Sem.run, q4]
      · cases hv
    · cases hv
  · cases ht

theorem op_mm (H : HInv B w0 ob g w) (R : Reads B ob g w env ρ) {mx : Bool} {x y : Opd} {x' y' : Operand} {ts : Array TypeId} {ty : TypeId} (hx : mO x x' = true) (hy : mO y y' = true) {v : VV}
    (hv : (VOp.mm mx x y).ev ⟨env, ob⟩ = some (v, ob)) : Out P B w0 ob g w (do pure (.value (← (if mx then Builtin.max_ ts ty #[ρ x', ρ y'] else Builtin.min_ ts ty #[ρ x', ρ y'])))) v ob := by
  have h1 := R.opd hx
  have h2 := R.opd hy
  simp only [VOp.ev] at hv
  split at hv
  · rename_i k a k' b e1 e2
    rw [e1] at h1
    rw [e2] at h2
    split at hv
    · rename_i hk
      subst hk
      cases hv
      have q1 := h1.int_inv
      have q2 := h2.int_inv
      cases mx
      · refine Out.quiet H (x := .int k (if b < a then b else a)) (by simp [q1, q2, run_min_int2]) ?_
        have : (if b < a then b else a) = (if (false : Bool) = true then (if a ≥ b then a else b) else (if a ≤ b then a else b)) := by
          simp; split <;> split <;> omega
        rw [this]; exact .int
      · refine Out.quiet H (x := .int k (if b > a then b else a)) (by simp [q1, q2, run_max_int2]) ?_
        have : (if b > a then b else a) = (if (true : Bool) = true then (if a ≥ b then a else b) else (if a ≤ b then a else b)) := by
          simp; split <;> split <;> omega
        rw [this]; exact .int
    · cases hv
  · cases hv

theorem strip_rep {v : VV} {x : Value} (h : Rep w g.F g.tb v x) : Rep w g.F g.tb v.strip x := by
  have h0 : ∀ {v : VV} {x : Value}, Rep w g.F g.tb v x → Rep w g.F g.tb v.strip0 x := fun {v x} h => by
    cases h with
    | nils => exact .slE
    | slE => exact .slE
    | sl vals hne hcap hsz hc h hr hF => exact .sl vals hne hcap hsz hc h hr hF
    | int k n => exact .int k n
    | bool b => exact .bool b
    | str h => exact .str h
    | nilp => exact .nilp
    | ptr h => exact .ptr h
    | pim vals hc h hr hF => exact .pim vals hc h hr hF
    | row h hl => exact .row h hl
    | ifr h hl => exact .ifr h hl
    | ife => exact .ife
    | nilm => exact .nilm
    | mp h => exact .mp h
    | nilf => exact .nilf
    | fn hcn hl hr => exact .fn hcn hl hr
    | yld h => exact .yld h
    | it h => exact .it h
    | agg hl hc hr => exact .agg hl hc hr
    | tup hl hc hr => exact .tup hl hc hr
    | dead => exact .dead
  cases v with
  | agg cs =>
    cases h with
    | @agg _ xs hl hc hr =>
      refine .agg (by simpa using hl) ?_ fun j hj => ?_
      · rw [List.all_eq_true] at hc ⊢
        intro u hu
        obtain ⟨q, hq, rfl⟩ := List.mem_map.1 hu
        have := hc q hq
        cases q <;> simp_all [VV.strip0, VV.isCell]
      · have := h0 (hr j (by simpa using hj))
        simpa using this
  | _ => exact h0 h

theorem strip_ids {v : VV} {n : Nat} (h : v.ids n = true) : v.strip.ids n = true := by
  have h0 : ∀ {v : VV}, v.ids n = true → v.strip0.ids n = true := fun {v} h => by
    cases v <;> simp_all [VV.strip0, VV.ids]
  cases v with
  | agg cs =>
    simp only [VV.ids] at h
    simp only [VV.strip, VV.ids]
    refine idsL_of fun u hu => ?_
    obtain ⟨q, hq, rfl⟩ := List.mem_map.1 hu
    obtain ⟨j, hj, rfl⟩ := List.getElem_of_mem hq
    exact h0 (idsL_get h j hj)
  | _ => exact h0 h

theorem strip_hnd (v : VV) (x : Value) (hn : v.noTup = true) : Hnd B ob g w v.strip x := by
  have h0 : ∀ (v : VV) (x : Value), Hnd1 B ob g w v.strip0 x := fun v x => by
    cases v <;> trivial
  cases v with
  | agg cs =>
    cases x <;> try trivial
    intro j u y hu _
    simp only [List.getElem?_map, Option.map_eq_some_iff] at hu
    obtain ⟨q, _, rfl⟩ := hu
    exact h0 q y
  | tup vs => simp [VV.noTup] at hn
  | _ => cases x <;> trivial

theorem GV.strip {v : VV} {x : Value} (hn : v.noTup = true) (h : GV B ob g w v x) : GV B ob g w v.strip x := ⟨strip_rep h.rep, strip_hnd v x hn, strip_ids h.ids⟩

theorem op_mkfn (H : HInv B w0 ob g w) (R : Reads B ob g w env ρ) {f : Nat} {cap : List Opd} {cap' : Array Operand} (hc : mOL cap cap'.toList = true) {v : VV}
    (hv : (VOp.mkfn f cap).ev ⟨env, ob⟩ = some (v, ob)) : Out P B w0 ob g w (do pure (.value (← Instr.makeFunc (.func f) (#[].map ρ) (cap'.map ρ)))) v ob := by
  simp only [VOp.ev] at hv
  split at hv
  case isFalse => cases hv
  rename_i hcn
  simp only [Option.some.injEq, Prod.mk.injEq, and_true] at hv
  subst hv
  have hl := mOL_len hc
  simp only [Array.length_toList] at hl
  have hg : ∀ j (hj : j < cap.length), GV B ob g w (cap[j].ev env) (ρ (cap'[j]'(hl ▸ hj))) := fun j hj => R.opd (by have := mOL_get hc j hj (by simpa using hl ▸ hj); rwa [Array.getElem_toList] at this)
  refine Out.quiet H (x := .func (.func f) #[] (cap'.map ρ)) (by simp [Instr.makeFunc]) ⟨.fn hcn (by simpa using hl) fun j hj => ?_, trivial, ?_⟩
  · have := strip_rep (hg j (by simpa using hj)).rep
    simpa using this
  · simp only [VV.ids]
    refine idsL_of fun u hu => ?_
    obtain ⟨q, hq, rfl⟩ := List.mem_map.1 hu
    obtain ⟨j, hj, rfl⟩ := List.getElem_of_mem hq
    exact strip_ids (hg j hj).ids

/-- cells laid over cells, one after the other, as the machine lays them -/
theorem setCells_len : ∀ (vs cs : List VV) (off : Nat), (setCells cs off vs).length = cs.length
  | [], _, _ => rfl
  | v :: r, cs, off => by simp [setCells, setCells_len r]
theorem setCells_get : ∀ (vs cs : List VV) (off j : Nat), off + vs.length ≤ cs.length → (setCells cs off vs)[j]? = if off ≤ j ∧ j < off + vs.length then vs[j - off]? else cs[j]?
  | [], cs, off, j, _ => by simp [setCells]; intro h1 h2; omega
  | v :: r, cs, off, j, h => by
    simp only [List.length_cons] at h
    rw [setCells, setCells_get r (cs.set off v) (off + 1) j (by simp; omega)]
    simp only [List.length_cons, List.getElem?_set]
    by_cases e : off = j
    · subst e
      rw [if_neg (by omega), if_pos rfl, if_pos (by omega), if_pos (by omega)]
      simp
    · by_cases h1 : off + 1 ≤ j ∧ j < off + 1 + r.length
      · rw [if_pos h1, if_pos (by omega)]
        rw [show j - off = (j - (off + 1)) + 1 by omega, List.getElem?_cons_succ]
      · rw [if_neg h1, if_neg e, if_neg (by omega)]

theorem foldl_set : ∀ (xs : List Value) (off k : Nat) (arr : Array Value) (j : Nat), off + k + xs.length ≤ arr.size →
    ((xs.zipIdx k).foldl (fun cs (c, i) => cs.setIfInBounds (off + i) c) arr)[j]? = if off + k ≤ j ∧ j < off + k + xs.length then xs[j - (off + k)]? else arr[j]?
  | [], off, k, arr, j, _ => by simp; intro h1 h2; omega
  | x :: r, off, k, arr, j, h => by
    simp only [List.length_cons] at h
    simp only [List.zipIdx_cons, List.foldl_cons]
    rw [foldl_set r off (k + 1) (arr.setIfInBounds (off + k) x) j (by simp; omega)]
    simp only [List.length_cons, Array.getElem?_setIfInBounds]
    by_cases e : off + k = j
    · subst e
      rw [if_neg (by omega), if_pos rfl, if_pos (by omega), if_pos (by omega)]
      simp
    · by_cases h1 : off + (k + 1) ≤ j ∧ j < off + (k + 1) + r.length
      · rw [if_pos h1, if_pos (by omega)]
        rw [show j - (off + k) = (j - (off + (k + 1))) + 1 by omega, List.getElem?_cons_succ]
      · rw [if_neg h1, if_neg e, if_neg (by omega)]

theorem foldl_set_size : ∀ (xs : List Value) (off k : Nat) (arr : Array Value), ((xs.zipIdx k).foldl (fun cs (c, i) => cs.setIfInBounds (off + i) c) arr).size = arr.size
  | [], _, _, _ => rfl
  | x :: r, off, k, arr => by simp only [List.zipIdx_cons, List.foldl_cons]; rw [foldl_set_size r off (k + 1)]; simp

/-- a value's cells, one by one -/
theorem GV.cells {v : VV} {x : Value} (h : GV B ob g w v x) (hc : v.cells.all VV.isCell = true) : x.cells.size = v.cells.length ∧ ∀ j (hj : j < v.cells.length) (hj' : j < x.cells.size), GV B ob g w v.cells[j] x.cells[j] := by
  cases v with
  | agg cs =>
    obtain ⟨xs, rfl, _, hl, hg⟩ := h.agg_inv
    exact ⟨hl, fun j hj _ => hg j hj⟩
  | _ =>
    have hx : x.cells = #[x] := by
      have hr := h.rep
      cases hr <;> first | rfl | (simp [VV.cells, VV.isCell] at hc)
    simp only [hx, VV.cells]
    refine ⟨rfl, fun j hj hj' => ?_⟩
    simp at hj
    subst hj
    simpa using h

theorem fill_run (R : Reads B ob g w env ρ) (fs : Array Field) (place : Nat → Option (Nat × Nat)) : ∀ (parts : List (Nat × Nat × Opd)) (ps : List (Nat × Operand)) (cs cs' : List VV) (arr : Array Value),
    mParts P fs parts ps = true → (∀ i f n, fs[i]? = some f → sizeIs P f.type n = true → place i = some (f.offset, n)) → fillV env cs parts = some cs' → cs.all VV.isCell = true →
    (hl : arr.size = cs.length) → (∀ j (h : j < cs.length), GV B ob g w cs[j] (arr[j]'(hl ▸ h))) →
    ∃ arr', Instr.fill place arr (ps.map fun (i, x) => (i, ρ x)) = some arr' ∧ cs'.all VV.isCell = true ∧ ∃ hl' : arr'.size = cs'.length, ∀ j (h : j < cs'.length), GV B ob g w cs'[j] (arr'[j]'(hl' ▸ h))
  | [], [], cs, cs', arr, _, _, hf, hc, hl, hg => by
    simp only [fillV, Option.some.injEq] at hf
    subst hf
    exact ⟨arr, rfl, hc, hl, hg⟩
  | [], _ :: _, _, _, _, hm, _, _, _, _, _ => by simp [mParts] at hm
  | _ :: _, [], _, _, _, hm, _, _, _, _, _ => by simp [mParts] at hm
  | (off, sz, x) :: r, (i, y) :: s, cs, cs', arr, hm, hp, hf, hc, hl, hg => by
    simp only [mParts, Bool.and_eq_true] at hm
    obtain ⟨⟨h1, h2⟩, h3⟩ := hm
    cases hfi : fs[i]? with
    | none => simp [hfi] at h1
    | some f =>
      simp only [hfi, Bool.and_eq_true, beq_iff_eq] at h1
      obtain ⟨rfl, hsz⟩ := h1
      simp only [fillV] at hf
      split at hf
      · rename_i hcond
        obtain ⟨hlen, hle, hcell⟩ := hcond
        have hv := R.opd h2
        obtain ⟨hs, hcells⟩ := hv.cells hcell
        have hplace := hp i f sz hfi hsz
        have hfill : Instr.fill place arr (((i, y) :: s).map fun (i, x) => (i, ρ x)) = Instr.fill place ((ρ y).cells.zipIdx.foldl (fun cs (c, j) => cs.setIfInBounds (f.offset + j) c) arr) (s.map fun (i, x) => (i, ρ x)) := by
          simp only [List.map_cons, Instr.fill, hplace]
          rw [if_neg]
          simp only [ne_eq, gt_iff_lt, Bool.or_eq_true, decide_eq_true_eq, not_or, Decidable.not_not]
          omega
        have hfold : ((ρ y).cells.zipIdx.foldl (fun cs (c, j) => cs.setIfInBounds (f.offset + j) c) arr) = (((ρ y).cells.toList.zipIdx 0).foldl (fun cs (c, j) => cs.setIfInBounds (f.offset + j) c) arr) := by
          rw [← Array.foldl_toList, Array.toList_zipIdx]
        have hsz1 : (setCells cs f.offset (x.ev env).cells).length = cs.length := setCells_len _ _ _
        rw [hfill, hfold]
        refine fill_run R fs place r s _ cs' _ h3 hp hf ?_ ?_ ?_
        · rw [List.all_eq_true]
          intro u hu
          obtain ⟨j, hj, rfl⟩ := List.getElem_of_mem hu
          have := setCells_get (x.ev env).cells cs f.offset j (by omega)
          rw [List.getElem?_eq_getElem hj] at this
          split at this
          · obtain ⟨q, e⟩ := List.getElem?_eq_some_iff.1 this.symm
            rw [← e]
            exact List.all_eq_true.1 hcell _ (List.getElem_mem q)
          · obtain ⟨q, e⟩ := List.getElem?_eq_some_iff.1 this.symm
            rw [← e]
            exact List.all_eq_true.1 hc _ (List.getElem_mem q)
        · rw [foldl_set_size, hsz1]; exact hl
        · intro j hj
          have e1 := setCells_get (x.ev env).cells cs f.offset j (by omega)
          have e2 := foldl_set (ρ y).cells.toList f.offset 0 arr j (by simp; omega)
          rw [List.getElem?_eq_getElem hj] at e1
          rw [Array.getElem?_eq_getElem (by rw [foldl_set_size, hl, ← hsz1]; exact hj)] at e2
          by_cases hin : f.offset ≤ j ∧ j < f.offset + (x.ev env).cells.length
          · rw [if_pos hin] at e1
            rw [if_pos (by simp; omega)] at e2
            obtain ⟨q1, e1⟩ := List.getElem?_eq_some_iff.1 e1.symm
            obtain ⟨q2, e2⟩ := List.getElem?_eq_some_iff.1 e2.symm
            have := hcells (j - f.offset) q1 (by omega)
            rw [← e1, ← e2]
            simpa using this
          · rw [if_neg hin] at e1
            rw [if_neg (by simp; omega)] at e2
            obtain ⟨q1, e1⟩ := List.getElem?_eq_some_iff.1 e1.symm
            obtain ⟨q2, e2⟩ := Array.getElem?_eq_some_iff.1 e2.symm
            rw [← e1, ← e2]
            exact hg j q1
      · cases hf

end
end Go.V

/- V, part 10: new variables, stores, literals of slices. -/
set_option linter.unusedVariables false
set_option linter.unusedSimpArgs false
namespace Go.V
open Go.RowKit

section
variable {P : Program} {B : Nat} {w0 : W0} {ob : List Obj} {g : Gh} {w : World} {env : List (Nat × VV)} {ρ : Operand → Value}

theorem op_build (H : HInv B w0 ob g w) (R : Reads B ob g w env ρ) {zero : List VV} {parts : List (Nat × Nat × Opd)} {ps : Array (Nat × Operand)} {t : TypeId} {fs : Array Field} (hu : P.underlying t = some (.struct fs)) (hz : zeroIs P t zero = true)
    (hm : mParts P fs parts ps.toList = true) (hsz : ∀ (i : Nat) (f : Field), fs[i]? = some f → (P.info? f.type).isSome = true) {v : VV} (hv : (VOp.build zero parts).ev ⟨env, ob⟩ = some (v, ob)) :
    Out P B w0 ob g w (do pure (.value (← Instr.build t (ps.map fun (i, x) => (i, ρ x))))) v ob := by
  simp only [VOp.ev, Option.map_eq_some_iff, Prod.mk.injEq, and_true] at hv
  obtain ⟨cs, hf, rfl⟩ := hv
  unfold zeroIs at hz
  cases hi : P.info? t with
  | none => simp [hi] at hz
  | some info =>
  simp only [hi] at hz
  cases hzz : info.zero with
  | none => simp [hzz] at hz
  | some z =>
  simp only [hzz] at hz
  have hzl := repCL_len hz
  simp only [Array.length_toList] at hzl
  have hzero : (zeroValue t).run P w = .ok z w := by simp [zeroValue, typeInfo, hi, hzz]
  have hplaces : ∃ places : Array (Nat × Nat), (fs.mapM fun f => (do pure (f.offset, ← sizeOf f.type) : Sem (Nat × Nat))).run P w = .ok places w ∧ ∀ (i : Nat) (f : Field) (n : Nat), fs[i]? = some f → sizeIs P f.type n = true → places[i]? = some (f.offset, n) := by
    have key : ∀ (l : List Field), (∀ f ∈ l, (P.info? f.type).isSome = true) → (l.mapM fun f => (do pure (f.offset, ← sizeOf f.type) : Sem (Nat × Nat))).run P w = .ok (l.map fun f => (f.offset, P.cellsOf f.type)) w := by
      intro l
      induction l with
      | nil => intro _; simp
      | cons f r ih =>
        intro h
        obtain ⟨i, hi⟩ := Option.isSome_iff_exists.1 (h f (by simp))
        simp only [List.mapM_cons, Sem.run_bind, run_sizeOf w hi, Result.andThen_ok, Sem.run_pure, ih (fun f hf => h f (by simp [hf])), List.map_cons]
    refine ⟨(fs.toList.map fun f => (f.offset, P.cellsOf f.type)).toArray, ?_, fun i f n h1 h2 => ?_⟩
    · rw [Array.mapM_eq_mapM_toList]
      have := key fs.toList fun f hf => by
        obtain ⟨i, hi, rfl⟩ := List.getElem_of_mem hf
        exact hsz i _ (by simp [Array.getElem?_eq_getElem (show i < fs.size by simpa using hi)])
      simp only [Sem.run_map, this, Result.andThen_ok]
    · have : P.cellsOf f.type = n := by
        unfold sizeIs at h2
        cases hi : P.info? f.type with
        | none => simp [hi] at h2
        | some i => simp [hi] at h2; simp [Program.cellsOf, hi, h2]
      simp [h1, this]
  obtain ⟨places, hpl, hpl'⟩ := hplaces
  obtain ⟨arr', hfill, hcell, hl', hg'⟩ := fill_run (P := P) (w := w) R fs (places[·]?) parts ps.toList zero cs z.cells hm hpl' hf (repCL_cells hz) hzl fun j hj => GV.const0 (by
    have := repCL_get hz j hj (by simpa using hzl ▸ hj); rwa [Array.getElem_toList] at this)
  refine Out.quiet H (x := .agg arr') ?_ (GV.agg hl' hcell hg')
  have hps : (ps.map fun (i, x) => (i, ρ x)).toList = ps.toList.map fun (i, x) => (i, ρ x) := by simp
  simp only [Instr.build, Sem.run_bind, hzero, Result.andThen_ok, run_underlying hu, hpl, hps, hfill, Sem.run_pure]

/-- the places of an array, told as fields -/
def arrFs (n sz : Nat) (e : TypeId) : Array Field := (Array.range n).map fun i => { name := "", type := e, offset := i * sz, embedded := false, tag := "", pkgPath := "", byteOffset := 0 }

theorem op_buildA (H : HInv B w0 ob g w) (R : Reads B ob g w env ρ) {zero : List VV} {parts : List (Nat × Nat × Opd)} {ps : Array (Nat × Operand)} {t e : TypeId} {n sz : Nat} (hu : P.underlying t = some (.array n e)) (hz : zeroIs P t zero = true) (he : sizeIs P e sz = true)
    (hm : mParts P (arrFs n sz e) parts ps.toList = true) {v : VV} (hv : (VOp.build zero parts).ev ⟨env, ob⟩ = some (v, ob)) :
    Out P B w0 ob g w (do pure (.value (← Instr.build t (ps.map fun (i, x) => (i, ρ x))))) v ob := by
  simp only [VOp.ev, Option.map_eq_some_iff, Prod.mk.injEq, and_true] at hv
  obtain ⟨cs, hf, rfl⟩ := hv
  unfold zeroIs at hz
  cases hi : P.info? t with
  | none => simp [hi] at hz
  | some info =>
  simp only [hi] at hz
  cases hzz : info.zero with
  | none => simp [hzz] at hz
  | some z =>
  simp only [hzz] at hz
  have hzl := repCL_len hz
  simp only [Array.length_toList] at hzl
  have hzero : (zeroValue t).run P w = .ok z w := by simp [zeroValue, typeInfo, hi, hzz]
  obtain ⟨arr', hfill, hcell, hl', hg'⟩ := fill_run (P := P) (w := w) R (arrFs n sz e) (fun i => some (i * sz, sz)) parts ps.toList zero cs z.cells hm (fun i f m h1 h2 => by
    simp only [arrFs, Array.getElem?_map, Array.getElem?_range, Option.map_eq_some_iff] at h1
    obtain ⟨a, ha, rfl⟩ := h1
    split at ha
    · cases ha
      have : m = sz := by
        unfold sizeIs at h2 he
        cases hq : P.info? e with
        | none => simp [hq] at he
        | some q => simp [hq] at h2 he; omega
      simp [this]
    · cases ha) hf (repCL_cells hz) hzl fun j hj => GV.const0 (by
    have := repCL_get hz j hj (by simpa using hzl ▸ hj); rwa [Array.getElem_toList] at this)
  refine Out.quiet H (x := .agg arr') ?_ (GV.agg hl' hcell hg')
  have hps : (ps.map fun (i, x) => (i, ρ x)).toList = ps.toList.map fun (i, x) => (i, ρ x) := by simp
  simp only [Instr.build, Sem.run_bind, hzero, Result.andThen_ok, run_underlying hu, run_size he, hps, hfill, Sem.run_pure]

theorem op_alloc (H : HInv B w0 ob g w) {zero : List VV} {t : TypeId} (hz : zeroIs P t zero = true) :
    Out P B w0 ob g w (do pure (.value (← Instr.alloc t true (.tuple #[])))) (.ptr ob.length 0) (ob ++ [.cells zero]) := by
  unfold zeroIs at hz
  cases hi : P.info? t with
  | none => simp [hi] at hz
  | some info =>
  simp only [hi] at hz
  cases hzz : info.zero with
  | none => simp [hzz] at hz
  | some z =>
  simp only [hzz] at hz
  have hzl := repCL_len hz
  simp only [Array.length_toList] at hzl
  have hzero : (zeroValue t).run P w = .ok z w := by simp [zeroValue, typeInfo, hi, hzz]
  obtain ⟨H', hp⟩ := H.push (.cells z.cells t) (.cells zero) (by simp) ⟨w.heap.size, z.cells, t, by simp, H.hB, H.fz _ (Nat.le_refl _), .new (heap_alloc_at _ _), Nat.le_of_eq hzl.symm, fun j hj =>
    ⟨List.all_eq_true.1 (repCL_cells hz) _ (List.getElem_mem hj), GV.const0 (by have := repCL_get hz j hj (by simpa using hzl ▸ hj); rwa [Array.getElem_toList] at this)⟩⟩
  refine ⟨.pointer (some ⟨w.heap.size, 0, none⟩), _, w.alloc (.cells z.cells t), .inl ?_, H', GV.ptr (by simp) H', hp⟩
  simp [Instr.alloc, hzero, newVar, newRow]

theorem op_fill (H : HInv B w0 ob g w) {zero : List VV} {t : TypeId} (hz : zeroIs P t zero = true) {i : Nat} (hr : nthO ob i = .resv) :
    Out P B w0 ob g w (do pure (.value (← Instr.alloc t true (.tuple #[])))) (.ptr i 0) (ob.set i (.cells zero)) := by
  have hi : i < ob.length := nthO_ne_gone (by rw [hr]; simp)
  unfold zeroIs at hz
  cases hin : P.info? t with
  | none => simp [hin] at hz
  | some info =>
  simp only [hin] at hz
  cases hzz : info.zero with
  | none => simp [hzz] at hz
  | some z =>
  simp only [hzz] at hz
  have hzl := repCL_len hz
  simp only [Array.length_toList] at hzl
  have hzero : (zeroValue t).run P w = .ok z w := by simp [zeroValue, typeInfo, hin, hzz]
  obtain ⟨H', hp⟩ := H.fill (.cells z.cells t) (.cells zero) hr ⟨w.heap.size, z.cells, t, by simp, H.hB, H.fz _ (Nat.le_refl _), .new (heap_alloc_at _ _), Nat.le_of_eq hzl.symm, fun j hj =>
    ⟨List.all_eq_true.1 (repCL_cells hz) _ (List.getElem_mem hj), GV.const0 (by have := repCL_get hz j hj (by simpa using hzl ▸ hj); rwa [Array.getElem_toList] at this)⟩⟩
  refine ⟨.pointer (some ⟨w.heap.size, 0, none⟩), _, w.alloc (.cells z.cells t), .inl ?_, H', ?_, hp⟩
  · simp [Instr.alloc, hzero, newVar, newRow]
  · have q : (ob.set i (.cells zero)).length = ob.length := by simp
    exact GV.ptr (by simp) H'

/-- a type of slices whose elements are of one cell, of these bytes, with this zero -/
def mksIs (P : Program) (t : TypeId) (bytes : Nat) (zero : VV) : Bool := match P.underlying t with
  | some (.slice e) => match P.info? e with
    | some i => i.bytes == bytes && decide (0 < bytes) && decide (0 < i.size) && (match i.zero with | some z => i.size == 1 && repCL [zero] z.cells.toList | none => false)
    | none => false
  | _ => false

theorem op_mks (H : HInv B w0 ob g w) (R : Reads B ob g w env ρ) {bytes : Nat} {zero : VV} {x : Opd} {x' y' : Operand} {t : TypeId} (hx : mO x x' = true) (hy : mO x y' = true) (ht : mksIs P t bytes zero = true) {v : VV} {ob' : List Obj}
    (hv : (VOp.mks bytes zero x).ev ⟨env, ob⟩ = some (v, ob')) : Out P B w0 ob g w (do pure (.value (← Instr.makeSlice t (ρ x') (ρ y')))) v ob' := by
  have h1 := R.opd hx
  have h2 := R.opd hy
  unfold mksIs at ht
  simp only [VOp.ev] at hv
  revert hv h1 h2
  generalize x.ev env = u
  generalize ρ x' = y
  generalize ρ y' = z'
  intro h1 h2 hv
  split at hv
  · rename_i k n
    obtain rfl := h1.int_inv
    obtain rfl := h2.int_inv
    split at hv
    · rename_i hcond
      simp only [Option.some.injEq, Prod.mk.injEq] at hv
      obtain ⟨rfl, rfl⟩ := hv
      cases hu : P.underlying t with
      | none => simp [hu] at ht
      | some d =>
      cases d <;> simp only [hu, Bool.false_eq_true] at ht
      rename_i e
      cases hi : P.info? e with
      | none => simp [hi] at ht
      | some i =>
      simp only [hi, Bool.and_eq_true, beq_iff_eq, decide_eq_true_eq] at ht
      obtain ⟨⟨⟨hb1, hb2⟩, hb3⟩, hzz⟩ := ht
      cases hz : i.zero with
      | none => simp [hz] at hzz
      | some z =>
      simp only [hz, Bool.and_eq_true, beq_iff_eq] at hzz
      obtain ⟨hsz, hrep⟩ := hzz
      obtain ⟨n, rfl⟩ : ∃ m : Nat, n = m := ⟨n.toNat, by omega⟩
      have hn1 : n * bytes ≤ 281474976710656 := by have := hcond.2; omega
      have hn2 : n ≤ n * bytes := Nat.le_mul_of_pos_right _ hb2
      have hrun := run_make (P := P) w t e i z hu hi hz k k n n (by omega) (Int.le_refl _) (by rw [hb1, Int.mul_comm]; exact hcond.2) (by omega)
      rw [hsz] at hrun
      simp only [Int.toNat_natCast, Nat.mul_one] at hrun ⊢
      have hzl := repCL_len hrep
      have hz1 : ∃ c, z.cells = #[c] := by
        have : z.cells.size = 1 := by simpa using hzl
        exact Array.size_eq_one_iff.1 this
      obtain ⟨c, hc⟩ := hz1
      have hml : (madeCells z.cells n).size = n := size_madeCells _ _
      have hmg : ∀ j (h : j < (madeCells z.cells n).size), (madeCells z.cells n)[j] = c := fun j h => by
        have h' := toList_madeCells_one c n
        rw [← hc] at h'
        have : (madeCells z.cells n).toList[j]'(by simpa using h) = c := by simp [h']
        simpa using this
      have hcell : zero.isCell = true := by have := repCL_cells hrep; simpa using this
      have hrc : repC0 zero c = true := by have := repCL_get hrep 0 (by simp) (by simp [hc]); simpa [hc] using this
      obtain ⟨H', hp⟩ := H.push (.cells (madeCells z.cells n) e) (.cells (List.replicate n zero)) (by simp) ⟨w.heap.size, madeCells z.cells n, e, by simp, H.hB, H.fz _ (Nat.le_refl _), .new (heap_alloc_at _ _), by simp [hml], fun j hj => by
        simp only [List.getElem_replicate, hmg]
        exact ⟨hcell, GV.const0 hrc⟩⟩
      refine ⟨.slice (some ⟨w.heap.size, 0, none⟩) n n, _, w.alloc (.cells (madeCells z.cells n) e), .inl ?_, H', ⟨.row (by simp) (Nat.le_refl _), trivial, by simp [VV.ids]⟩, hp⟩
      simp [hrun]
    · cases hv
  · cases hv

/-- a type of slices of bytes -/
def bytesTy (P : Program) (t : TypeId) : Bool := match P.underlying t with
  | some (.slice e) => (match P.underlying e with | some (.int .u8) => true | _ => false)
  | _ => false
theorem bytesTy_inv {t : TypeId} (h : bytesTy P t = true) : ∃ e, P.underlying t = some (.slice e) ∧ P.underlying e = some (.int .u8) := by
  unfold bytesTy at h
  split at h
  · rename_i e he
    split at h
    · rename_i hu; exact ⟨e, he, hu⟩
    · cases h
  · cases h

theorem bytesWorld_eq (w : World) (e : TypeId) (s : ByteArray) : Lib.bytesWorld w e s = w.drew.alloc (.cells (Lib.bytesCells w e s) e ((Lib.bytesCells w e s).size, (Lib.bytesCells w e s).size + 1)) := by
  have h : (Lib.bytesWorld w e s).heap = (w.drew.alloc (.cells (Lib.bytesCells w e s) e ((Lib.bytesCells w e s).size, (Lib.bytesCells w e s).size + 1))).heap := by
    apply Array.ext
    · rw [Lib.bytesWorld_size]
      simp [World.alloc, World.drew, -World.alloc_eq, -World.drew_eq]
    · intro j h1 h2
      have e1 : (Lib.bytesWorld w e s).heap[j]? = (w.drew.alloc (.cells (Lib.bytesCells w e s) e ((Lib.bytesCells w e s).size, (Lib.bytesCells w e s).size + 1))).heap[j]? := by
        rw [Lib.bytesWorld_size] at h1
        by_cases hj : j < w.heap.size
        · rw [Lib.bytesWorld_at_old w e s j hj]
          have : w.heap.size ≠ j := by omega
          simp [World.alloc, World.drew, -World.alloc_eq, -World.drew_eq, Array.getElem?_push, this, Ne.symm this]
        · have : j = w.heap.size := by omega
          subst this
          rw [Lib.bytesWorld_at_new]
          simp [World.alloc, World.drew, -World.alloc_eq, -World.drew_eq]
      rw [Array.getElem?_eq_getElem h1, Array.getElem?_eq_getElem h2] at e1
      exact Option.some.inj e1
  have h' : ∀ a b : World, a.heap = b.heap → a.tape = b.tape → a.drawn = b.drawn → a.os = b.os → a.output = b.output → a = b := by
    intro a b q1 q2 q3 q4 q5
    cases a; cases b
    simp only at q1 q2 q3 q4 q5
    subst q1; subst q2; subst q3; subst q4; subst q5; rfl
  refine h' _ _ h ?_ ?_ ?_ ?_ <;> simp [Lib.bytesWorld, World.freeze, World.alloc, World.drew, -World.alloc_eq, -World.drew_eq]

theorem op_s2b (H : HInv B w0 ob g w) (R : Reads B ob g w env ρ) {x : Opd} {x' : Operand} {s d : TypeId} (hx : mO x x' = true) (hs : someTy P s = true) (hd : bytesTy P d = true) {v : VV} {ob' : List Obj}
    (hv : (VOp.s2b x).ev ⟨env, ob⟩ = some (v, ob')) : Out P B w0 ob g w (do pure (.value (← convert s d (ρ x')))) v ob' := by
  have h1 := R.opd hx
  simp only [VOp.ev] at hv
  generalize x.ev env = u at hv h1
  generalize ρ x' = y at h1 ⊢
  split at hv
  · rename_i bs
    simp only [Option.some.injEq, Prod.mk.injEq] at hv
    obtain ⟨rfl, rfl⟩ := hv
    have hrep := h1.rep
    cases hrep with
    | @str _ b hb =>
    obtain ⟨ds, hs⟩ := Option.isSome_iff_exists.1 hs
    obtain ⟨e, hd, he⟩ := bytesTy_inv hd
    have hrun := Lib.run_convert_string_bytes (P := P) w s d e b hs hd he
    rw [bytesWorld_eq] at hrun
    have hlen : b.size = bs.length := by
      show b.data.size = bs.length
      rw [← hb, Array.length_toList]
    have hcs : bs.length ≤ (Lib.bytesCells w e b).size := by
      simp only [Lib.bytesCells, Array.size_append, Array.size_map]
      have : b.data.size = bs.length := hlen
      omega
    have hget : ∀ j (h : j < bs.length) (h' : j < (Lib.bytesCells w e b).size), (Lib.bytesCells w e b)[j] = .int .u8 (bs[j].toNat : Int) := fun j h h' => by
      have hj : j < b.data.size := by have : b.data.size = bs.length := hlen; omega
      have e1 : (Lib.bytesCells w e b)[j] = .int .u8 (b.data[j].toNat : Int) := by
        simp only [Lib.bytesCells]
        rw [Array.getElem_append_left (by simpa using hj)]
        simp
      rw [e1]
      have e2 : bs[j] = b.data[j] := by
        have : ∀ (l : List UInt8) (q : b.data.toList = l) (h : j < l.length), l[j] = b.data[j] := fun l q h => by subst q; simp
        exact this bs hb h
      rw [e2]
    have H1 := H.drew
    have p1 := Pres.drew H
    have hsz : w.drew.heap.size = w.heap.size := rfl
    obtain ⟨H', hp⟩ := H1.push (.cells (Lib.bytesCells w e b) e ((Lib.bytesCells w e b).size, (Lib.bytesCells w e b).size + 1)) (.cells (bs.map byteInt)) (by simp) ⟨w.drew.heap.size, Lib.bytesCells w e b, e, by simp, H1.hB, H1.fz _ (Nat.le_refl _), ⟨_, .inr (Nat.le_refl _), heap_alloc_at _ _⟩, by simpa using hcs, fun j hj => by
      have hj' : j < bs.length := by simpa using hj
      rw [hget j hj' (Nat.lt_of_lt_of_le hj' hcs)]
      simp only [List.getElem_map, byteInt]
      exact ⟨rfl, GV.int⟩⟩
    refine ⟨.slice (some ⟨w.heap.size, 0, none⟩) b.size (grownCap w b.size 0 e), _, _, .inl ?_, H', ?_, p1.trans hp⟩
    · simp only [Sem.run_bind, hrun, Result.andThen_ok, Sem.run_pure]
    · have hcap : b.size ≤ grownCap w b.size 0 e := grownCap_ge _ _ _ _
      rw [hlen] at hcap ⊢
      exact ⟨.row (by simp) hcap, trivial, by simp [VV.ids]⟩
  · cases hv

theorem bytesOf_get : ∀ {l : List VV} {s : List UInt8}, bytesOf l = some s → ∃ ns : List Int, l = ns.map (VV.int .u8) ∧ s = ns.map fun n => UInt8.ofNat n.toNat
  | [], s, h => by
    simp only [bytesOf, Option.some.injEq] at h
    subst h; exact ⟨[], rfl, rfl⟩
  | v :: r, s, h => by
    unfold bytesOf at h
    split at h
    · rename_i q; cases q
    · rename_i n r' q
      injection q with q1 q2
      subst q1; subst q2
      simp only [Option.map_eq_some_iff] at h
      obtain ⟨t, ht, rfl⟩ := h
      obtain ⟨ns, rfl, rfl⟩ := bytesOf_get ht
      exact ⟨n :: ns, rfl, rfl⟩
    · cases h
theorem push_fold (ns : List Int) : ∀ b : ByteArray, (ns.foldl (fun (r : ByteArray) n => r.push (UInt8.ofNat n.toNat)) b).data.toList = b.data.toList ++ ns.map fun n => UInt8.ofNat n.toNat := by
  induction ns with
  | nil => intro b; simp
  | cons n r ih =>
    intro b
    rw [List.foldl_cons, ih]
    simp [ByteArray.push]

theorem op_b2s (H : HInv B w0 ob g w) (R : Reads B ob g w env ρ) {x : Opd} {x' : Operand} {s d : TypeId} (hx : mO x x' = true) (hs : bytesTy P s = true) (hd : strTy P d = true) {v : VV} {ob' : List Obj}
    (hv : (VOp.b2s x).ev ⟨env, ob⟩ = some (v, ob')) : Out P B w0 ob g w (do pure (.value (← convert s d (ρ x')))) v ob' := by
  have h1 := R.opd hx
  simp only [VOp.ev] at hv
  generalize x.ev env = u at hv h1
  generalize ρ x' = y at h1 ⊢
  split at hv
  · rename_i o off ln
    split at hv
    · rename_i cs ho
      split at hv
      · rename_i hle
        simp only [Option.map_eq_some_iff, Prod.mk.injEq] at hv
        obtain ⟨bs, hb, rfl, rfl⟩ := hv
        obtain ⟨ns, hns, rfl⟩ := bytesOf_get hb
        have hrep := h1.rep
        cases hrep with
        | @row _ _ _ cap b htb hcap =>
        obtain ⟨hlt, b', arr, ty, k1, k2, k3, ⟨fr, hfr, k4⟩, k5, k6⟩ := H.get ho (by simp)
        rw [htb] at k1; cases k1
        obtain ⟨e, hs, he⟩ := bytesTy_inv hs
        have hnl : ns.length = ln := by
          have := congrArg List.length hns
          simp at this
          omega
        have hcell : ∀ j v, (ns.map (Value.int .u8))[j]? = some v → w.cell? ((⟨b, off, none⟩ : Addr).add j) = some v := fun j v hj => by
          have hadd : (⟨b, off, none⟩ : Addr).add j = ⟨b, off + j, none⟩ := by unfold Addr.add; split <;> simp_all
          rw [hadd]
          obtain ⟨hjl, hjv⟩ := List.getElem?_eq_some_iff.1 hj
          have hjn : j < ns.length := by simpa using hjl
          have hjc : off + j < cs.length := by omega
          have e1 : cs[off + j] = .int .u8 ns[j] := by
            have e2 := congrArg (fun l => l[j]?) hns
            simp only [List.getElem?_take, List.getElem?_drop, List.getElem?_map] at e2
            rw [if_pos (by omega), List.getElem?_eq_getElem hjc, List.getElem?_eq_getElem hjn] at e2
            simpa using e2
          have e3 := (k6 (off + j) hjc).2
          rw [e1] at e3
          have e4 := e3.int_inv
          have hja : off + j < arr.size := by omega
          simp only [World.cell?, k4]
          rw [← hjv]
          simp only [List.getElem_map]
          simp [hja, e4]
        have hl := run_loadCells_list (P := P) w ⟨b, off, none⟩ (ns.map (Value.int .u8)) hcell
        rw [List.length_map, hnl] at hl
        have hbs := run_bytesToString (P := P) w ⟨b, off, none⟩ ln cap ns hl
        have hcv := run_convert_bytes_string (P := P) w s d e (some ⟨b, off, none⟩) ln cap hs he (strTy_eq hd)
        rw [hbs] at hcv
        refine Out.quiet H (x := .string (ns.foldl (fun r n => r.push (UInt8.ofNat n.toNat)) ByteArray.empty)) ?_ ⟨.str ?_, trivial, rfl⟩
        · simp only [Sem.run_bind, hcv, Result.andThen_ok, Sem.run_pure]
        · rw [push_fold]; rfl
      · cases hv
    · cases hv
  · cases hv

/-- a type of slices -/
def slTy (P : Program) (t : TypeId) : Bool := match P.underlying t with | some (.slice _) => true | _ => false
theorem op_mkif (H : HInv B w0 ob g w) (R : Reads B ob g w env ρ) {x : Opd} {x' : Operand} {t : TypeId} (hx : mO x x' = true) (ht : slTy P t = true) {v : VV}
    (hv : (VOp.mkif t x).ev ⟨env, ob⟩ = some (v, ob)) : Out P B w0 ob g w (do pure (.value (← Instr.makeInterface t (ρ x')))) v ob := by
  have h1 := R.opd hx
  simp only [VOp.ev] at hv
  generalize x.ev env = u at hv h1
  generalize ρ x' = y at h1 ⊢
  split at hv
  · rename_i o off ln
    simp only [Option.some.injEq, Prod.mk.injEq, and_true] at hv
    subst hv
    unfold slTy at ht
    split at ht
    · rename_i e he
      have hrep := h1.rep
      have hid := h1.ids
      cases hrep with
      | @row _ _ _ cap b htb hle =>
      exact Out.quiet H (x := .iface t (.slice (some ⟨b, off, none⟩) ln cap)) (by simp [Instr.makeInterface, run_underlying he]) ⟨.ifr htb hle, trivial, by simpa [VV.ids] using hid⟩
    · cases ht
  · simp only [Option.some.injEq, Prod.mk.injEq, and_true] at hv
    subst hv
    unfold slTy at ht
    split at ht
    · rename_i e he
      have hrep := h1.rep
      cases hrep with
      | @nils a =>
      exact Out.quiet H (x := .iface t (.slice a 0 0)) (by simp [Instr.makeInterface, run_underlying he]) ⟨.ife, trivial, rfl⟩
    · cases ht
  · rename_i es tk
    split at hv
    · rename_i hem
      simp only [Option.some.injEq, Prod.mk.injEq, and_true] at hv
      subst hv
      have : es = [] := by simpa using hem
      subst this
      unfold slTy at ht
      split at ht
      · rename_i e he
        have hrep := h1.rep
        cases hrep with
        | @slE _ a cap =>
          exact Out.quiet H (x := .iface t (.slice a 0 cap)) (by simp [Instr.makeInterface, run_underlying he]) ⟨.ife, trivial, rfl⟩
        | sl vals hne => exact absurd rfl hne
      · cases ht
    · cases hv
  · cases hv

theorem op_box (H : HInv B w0 ob g w) (R : Reads B ob g w env ρ) {x : Opd} {x' : Operand} {t : TypeId} (hx : mO x x' = true) {v : VV} {ob' : List Obj} (hv : (VOp.box x).ev ⟨env, ob⟩ = some (v, ob')) :
    Out P B w0 ob g w (do pure (.value (← Instr.box t (ρ x')))) v ob' := by
  have h1 := R.opd hx
  have hcell : (x.ev env).cells.all VV.isCell = true ∧ v = .ptr ob.length 0 ∧ ob' = ob ++ [.cells (x.ev env).cells] := by
    simp only [VOp.ev] at hv
    revert hv h1
    generalize x.ev env = u
    intro hv h1
    split at hv
    · cases hv
    · cases hv
    · simp only [Option.some.injEq, Prod.mk.injEq] at hv
      obtain ⟨rfl, rfl⟩ := hv
      refine ⟨?_, rfl, rfl⟩
      cases u with
      | agg cs => obtain ⟨_, _, hc, _⟩ := h1.agg_inv; exact hc
      | _ => simp_all [VV.cells, VV.isCell]
  obtain ⟨hc, rfl, rfl⟩ := hcell
  obtain ⟨hs, hg⟩ := h1.cells hc
  have hp0 := Pres.alloc0 H (.cells (ρ x').cells t)
  obtain ⟨H', hp⟩ := H.push (.cells (ρ x').cells t) (.cells (x.ev env).cells) (by simp) ⟨w.heap.size, (ρ x').cells, t, by simp, H.hB, H.fz _ (Nat.le_refl _), .new (heap_alloc_at _ _), Nat.le_of_eq hs.symm, fun j hj =>
    ⟨List.all_eq_true.1 hc _ (List.getElem_mem hj), Pres.push (H.alloc0 _) _ (by simp) _ _ (hp0 _ _ (hg j hj (hs ▸ hj)))⟩⟩
  refine ⟨.pointer (some ⟨w.heap.size, 0, none⟩), _, w.alloc (.cells (ρ x').cells t), .inl ?_, H', GV.ptr (by simp) H', hp⟩
  simp [Instr.box, newVar, newRow]

/-! ### A store into an object -/
theorem setRow_heap' {w : World} {b : Nat} {arr new : Array Value} {ty : TypeId} {fr : Nat × Nat} (h : w.heap[b]? = some (.cells arr ty fr)) : (w.setRow b new).heap[b]? = some (.cells new ty fr) := setRow_heap w b arr new ty fr h

theorem run_storeF (P : Program) (g o : Nat) (t : TypeId) (fr : Nat × Nat) : ∀ (vs : List Value) (i : Nat) (cur : Array Value) (w : World), w.heap[g]? = some (.cells cur t fr) → (fr = (0, 0) ∨ cur.size ≤ fr.1) → o + i + vs.length ≤ cur.size → (∀ v ∈ vs, v.oneCell' = true) →
    (storeCells ⟨g, o, none⟩ vs i).run P w = .ok () (w.setRow g (cur.toList.take (o + i) ++ vs ++ cur.toList.drop (o + i + vs.length)).toArray)
  | [], i, cur, w, hg, _, _, _ => by
    simp only [storeCells, List.append_nil, List.length_nil, Nat.add_zero, List.take_append_drop, Array.toArray_toList]
    rw [setRow_self w g cur t fr hg]
    rfl
  | v :: rest, i, cur, w, hg, hfr, hl, h1 => by
    have hi : o + i < cur.size := by simp at hl; omega
    have hadd : (⟨g, o, none⟩ : Addr).add i = ⟨g, o + i, none⟩ := by unfold Addr.add; split <;> simp_all
    have hcell : w.cell? ⟨g, o + i, none⟩ = some cur[o + i] := by simp [World.cell?, hg, hi]
    have hfro : w.frozen? ⟨g, o + i, none⟩ = false := by
      obtain ⟨lo, hi'⟩ := fr
      rcases hfr with q | q
      · cases q; simp [World.frozen?, hg]
      · simp only [World.frozen?, hg]
        simp only at q
        have : ¬ lo ≤ o + i := by omega
        simp [this]
    have hst : (store ((⟨g, o, none⟩ : Addr).add i) v).run P w = .ok () (w.setRow g (cur.setIfInBounds (o + i) v)) := by
      rw [hadd, run_store P w _ v _ (h1 v (by simp)), hcell]
      simp [hfro, setCell_eq_setRow w g (o + i) cur t fr v hg]
    have ih := run_storeF P g o t fr rest (i + 1) (cur.setIfInBounds (o + i) v) (w.setRow g (cur.setIfInBounds (o + i) v)) (setRow_heap w g cur _ t _ hg) (by simpa using hfr) (by simp at hl ⊢; omega) (fun x hx => h1 x (by simp [hx]))
    simp only [storeCells, Sem.run_bind, hst, Result.andThen_ok, ih, setRow_setRow]
    congr 3
    have e := list_seg_step cur.toList (o + i) v rest (by simp at hl ⊢; omega)
    simpa [Array.toList_setIfInBounds, Nat.add_assoc] using e

/-- A block that is an object gets new cells. -/
theorem HInv.setObj (H : HInv B w0 ob g w) {o b : Nat} {cs cs' : List VV} {arr arr' : Array Value} {ty : TypeId} (ho : nthO ob o = .cells cs) (htb : g.tb o = some b) {fr : Nat × Nat} (hb : w.heap[b]? = some (.cells arr ty fr)) (hfr : fr = (0, 0) ∨ arr'.size ≤ fr.1)
    (hl : cs'.length ≤ arr'.size) (hg : ∀ j (h : j < cs'.length), cs'[j].isCell = true ∧ GV B ob g w cs'[j] (arr'[j]'(Nat.lt_of_lt_of_le h hl))) :
    HInv B w0 (ob.set o (.cells cs')) g (w.setRow b arr') ∧ Pres B ob g w (ob.set o (.cells cs')) g (w.setRow b arr') := by
  obtain ⟨hlt, b', arr0, ty0, k1, k2, k3, k4, k5, k6⟩ := H.get ho (by simp)
  rw [htb] at k1; cases k1
  have hw : ∀ b' o', o' < g.F b' → (w.setRow b arr').cell? ⟨b', o', none⟩ = w.cell? ⟨b', o', none⟩ := fun b' o' h => by
    have hne : b' ≠ b := fun e => by subst e; rw [k3] at h; omega
    simp only [World.cell?, setRow_other w b b' arr' hne]
  have hp : Pres B ob g w (ob.set o (.cells cs')) g (w.setRow b arr') := by
    refine Pres.of (by simp) hw (fun _ => Nat.le_refl _) (fun _ _ _ h => h) fun t n sz ht => ⟨n, ?_, Nat.le_refl _, fun _ x hc => ?_⟩
    · rw [nthO_set]
      rw [if_neg]
      · exact ht
      · rintro ⟨rfl, _⟩; rw [ho] at ht; cases ht
    · rcases hc with ⟨a, rfl, rfl⟩ | ⟨b1, o1, cap, arr1, ty1, q1, rfl, q3, q4, q5, q6, q7⟩
      · exact .inl ⟨a, rfl, rfl⟩
      · have hne : b1 ≠ b := fun e => by subst e; exact H.apart _ _ _ htb q1
        exact .inr ⟨b1, o1, cap, arr1, ty1, q1, rfl, q3, by rw [setRow_other w b b1 arr' hne]; exact q4, q5, q6, q7⟩
  refine ⟨⟨?_, by rw [setRow_size]; exact H.hB, fun b1 hb1 => H.fz b1 (by simpa using hb1), H.f0, H.c0, fun i b1 h => by simpa using H.tbl i b1 h, fun i b1 h => by simpa using H.kbl i b1 h, H.inj, H.injk, H.apart, fun i hi => ?_⟩, hp⟩
  · have hbl := H.below
    exact hbl.trans ⟨⟨rfl, rfl, rfl, by rw [setRow_size]; exact Nat.le_refl _, fun k hk => setRow_other w b k arr' (by omega)⟩, Nat.le_refl _⟩
  · by_cases e : i = o
    · subst e
      simp only [List.getElem_set_self]
      exact ⟨b, arr', ty, htb, k2, k3, ⟨fr, hfr, setRow_heap' hb⟩, hl, fun j hj => ⟨(hg j hj).1, hp _ _ (hg j hj).2⟩⟩
    · rw [List.getElem_set_ne (fun q => e q.symm)]
      have hi' : i < ob.length := by simpa using hi
      refine (H.obs i hi').keep hp (rep_keep hw fun _ => Nat.le_refl _) (fun b1 hb1 => ⟨hb1, rfl, ?_⟩) (fun h => h) (fun m b1 q1 q2 => ?_)
      · exact setRow_other w b b1 arr' fun q => e (H.inj _ _ _ hb1 (q ▸ htb))
      · have hmo : m ≠ o := fun q => by subst q; rw [ho] at q1; cases q1
        exact ⟨q2, by rw [nthO_set, if_neg (fun q => hmo q.1)]; exact q1, setRow_other w b b1 arr' fun q => hmo (H.inj _ _ _ q2 (q ▸ htb))⟩


theorem oneCell_of {v : VV} {x : Value} (hc : v.isCell = true) (h : GV B ob g w v x) : x.oneCell' = true := by
  have hr := h.rep
  cases hr <;> first | rfl | (simp [VV.isCell] at hc)

theorem op_store (H : HInv B w0 ob g w) (R : Reads B ob g w env ρ) {n : Nat} {a x : Opd} {a' x' : Operand} {t : TypeId} (ha : mO a a' = true) (hx : mO x x' = true) (ht : sizeIs P t n = true) {v : VV} {ob' : List Obj}
    (hv : (VOp.store n a x).ev ⟨env, ob⟩ = some (v, ob')) : Out P B w0 ob g w (do Instr.storeAt t (ρ a') (ρ x'); pure .skip) v ob' := by
  have h1 := R.opd ha
  have h2 := R.opd hx
  simp only [VOp.ev] at hv
  split at hv
  · rename_i o off he
    rw [he] at h1
    obtain ⟨b, hb, htb⟩ := h1.ptr_inv
    split at hv
    · rename_i cs ho
      split at hv
      · rename_i hcond
        obtain ⟨hlen, hle, hcell⟩ := hcond
        simp only [Option.some.injEq, Prod.mk.injEq] at hv
        obtain ⟨rfl, rfl⟩ := hv
        obtain ⟨hlt, b', arr, ty, k1, k2, k3, ⟨fr, hfr, k4⟩, k5, k6⟩ := H.get ho (by simp)
        rw [htb] at k1; cases k1
        obtain ⟨hs, hg⟩ := h2.cells hcell
        obtain ⟨arr', harr'⟩ : ∃ arr' : Array Value, arr' = (arr.toList.take (off + 0) ++ (ρ x').cells.toList ++ arr.toList.drop (off + 0 + (ρ x').cells.toList.length)).toArray := ⟨_, rfl⟩
        have hrun := run_storeF P b off ty fr (ρ x').cells.toList 0 arr w k4 hfr (by simp; omega) (fun z hz => by
          obtain ⟨j, hj, rfl⟩ := List.getElem_of_mem hz
          have hj' : j < (x.ev env).cells.length := by simp at hj; omega
          have := oneCell_of (List.all_eq_true.1 hcell _ (List.getElem_mem hj')) (hg j hj' (by simpa using hj))
          simpa using this)
        rw [← harr'] at hrun
        have hsz : (setCells cs off (x.ev env).cells).length ≤ arr'.size := by
          rw [setCells_len, harr']; simp; omega
        have hget : ∀ j (h : j < arr'.size), arr'[j]? = if off ≤ j ∧ j < off + n then (ρ x').cells[j - off]? else arr[j]? := fun j h => by
          rw [harr']
          simp only [Nat.add_zero, List.getElem?_toArray, List.getElem?_append, List.length_append, List.length_take, Array.length_toList, List.getElem?_take, List.getElem?_drop, Array.getElem?_toList]
          have : (ρ x').cells.size = n := by omega
          by_cases q1 : j < off
          · rw [if_pos (by omega), if_pos (by omega), if_pos q1, if_neg (by omega)]
          · by_cases q2 : j < off + n
            · rw [if_pos (by omega), if_neg (by omega), if_pos (by omega)]
              congr 1; omega
            · rw [if_neg (by omega), if_neg (by omega)]
              congr 1; omega
        obtain ⟨H', hp⟩ := H.setObj (arr' := arr') (cs' := setCells cs off (x.ev env).cells) ho htb k4 (hfr.imp id fun q => by rw [harr']; simp; omega) hsz (fun j hj => by
          have e1 := setCells_get (x.ev env).cells cs off j (by omega)
          have e2 := hget j (Nat.lt_of_lt_of_le hj hsz)
          rw [List.getElem?_eq_getElem hj] at e1
          rw [Array.getElem?_eq_getElem (Nat.lt_of_lt_of_le hj hsz)] at e2
          rw [hlen] at e1
          by_cases hin : off ≤ j ∧ j < off + n
          · rw [if_pos hin] at e1 e2
            obtain ⟨q1, e1⟩ := List.getElem?_eq_some_iff.1 e1.symm
            obtain ⟨q2, e2⟩ := Array.getElem?_eq_some_iff.1 e2.symm
            rw [← e1, ← e2]
            exact ⟨List.all_eq_true.1 hcell _ (List.getElem_mem q1), hg _ q1 q2⟩
          · rw [if_neg hin] at e1 e2
            obtain ⟨q1, e1⟩ := List.getElem?_eq_some_iff.1 e1.symm
            obtain ⟨q2, e2⟩ := Array.getElem?_eq_some_iff.1 e2.symm
            rw [← e1, ← e2]
            exact k6 j q1)
        refine ⟨undef, g, w.setRow b arr', .inr ⟨?_, rfl⟩, H', .dead, hp⟩
        have hsz2 : (ρ x').cells.size = n := by omega
        simp only [Instr.storeAt, hb, Instr.sureAddr, storeVar, Sem.run_bind, Sem.run_pure, Result.andThen_ok, run_size ht, ne_eq, hsz2, not_true, if_false, hrun]
      · cases hv
    · cases hv
  · cases hv

theorem op_cap (H : HInv B w0 ob g w) (R : Reads B ob g w env ρ) {x : Opd} {x' : Operand} {t ty : TypeId} (hx : mO x x' = true) (ht : kindTy P 1 t = true) {v : VV} {ob' : List Obj}
    (hv : (VOp.capo x).ev ⟨env, ob⟩ = some (v, ob')) : Out P B w0 ob g w (do pure (.value (← Builtin.cap_ #[t] ty #[ρ x']))) v ob' := by
  have h1 := R.opd hx
  revert h1
  generalize hy : ρ x' = y
  intro h1
  unfold kindTy at ht
  cases hu : P.underlying t with
  | none => simp [hu] at ht
  | some d =>
  simp only [VOp.ev] at hv
  split at hv
  · rename_i he
    cases hv
    rw [he] at h1
    have hr := h1.rep
    cases hr
    cases d <;> simp [hu] at ht
    exact Out.quiet H (x := .int .i64 0) (by simp [Builtin.cap_, run_underlying hu, goInt]) .int
  · cases hv

/-- a type of slices, the zero value of an element -/
def clrIs (P : Program) (t : TypeId) (zero : List VV) : Bool := match P.underlying t with
  | some (.slice e) => zeroIs P e zero && decide (0 < zero.length)
  | _ => false

theorem op_clr (H : HInv B w0 ob g w) (R : Reads B ob g w env ρ) {zero : List VV} {x : Opd} {x' : Operand} {t ty : TypeId} (hx : mO x x' = true) (ht : clrIs P t zero = true) {v : VV} {ob' : List Obj}
    (hv : (VOp.clr zero x).ev ⟨env, ob⟩ = some (v, ob')) : Out P B w0 ob g w (do pure (.value (← Builtin.clear_ #[t] ty #[ρ x']))) v ob' := by
  have h1 := R.opd hx
  revert h1
  generalize hy : ρ x' = y
  intro h1
  unfold clrIs at ht
  cases hu : P.underlying t with
  | none => simp [hu] at ht
  | some d =>
  cases d <;> simp only [hu, Bool.false_eq_true, Bool.and_eq_true, decide_eq_true_eq] at ht
  rename_i el
  obtain ⟨hz, hpos⟩ := ht
  simp only [VOp.ev] at hv
  split at hv
  · rename_i he
    cases hv
    rw [he] at h1
    have hr := h1.rep
    cases hr with
    | @nils a => exact Out.quiet H (x := .tuple #[]) (by cases a <;> simp [Builtin.clear_, run_underlying hu]) .dead
  · rename_i tk he
    cases hv
    rw [he] at h1
    have hr := h1.rep
    cases hr with
    | @slE _ a cap => exact Out.quiet H (x := .tuple #[]) (by cases a <;> simp [Builtin.clear_, run_underlying hu]) .dead
    | sl vals hne => exact absurd rfl hne
  · rename_i o off ln he
    rw [he] at h1
    split at hv
    · rename_i cs ho
      split at hv
      · rename_i hcond
        obtain ⟨hln, hle⟩ := hcond
        simp only [Option.some.injEq, Prod.mk.injEq] at hv
        obtain ⟨rfl, rfl⟩ := hv
        have hrep := h1.rep
        cases hrep with
        | @row _ _ _ cap b htb hcap =>
        obtain ⟨hlt, b', arr, tyb, k1, k2, k3, ⟨fr, hfr, k4⟩, k5, k6⟩ := H.get ho (by simp)
        rw [htb] at k1; cases k1
        unfold zeroIs at hz
        cases hin : P.info? el with
        | none => simp [hin] at hz
        | some info =>
        simp only [hin] at hz
        cases hzz : info.zero with
        | none => simp [hzz] at hz
        | some z =>
        simp only [hzz] at hz
        have hzl := repCL_len hz
        simp only [Array.length_toList] at hzl
        have hzero : (zeroValue el).run P w = .ok z w := by simp [zeroValue, typeInfo, hin, hzz]
        have hzs : (Builtin.zeroCells z.cells ln).toList.length = ln * zero.length := by simp [Builtin.zeroCells, hzl]
        have hzg : ∀ i (h : i < (Builtin.zeroCells z.cells ln).toList.length) (h2 : i % zero.length < zero.length) (h3 : i % zero.length < z.cells.size), (Builtin.zeroCells z.cells ln).toList[i] = z.cells[i % zero.length] := fun i h h2 h3 => by
          simp [Builtin.zeroCells, hzl] at h ⊢
          have : i % z.cells.size = i % zero.length := by rw [hzl]
          simp [this, h3]
        generalize hvs : (Builtin.zeroCells z.cells ln).toList = vs at hzs hzg
        have hzlen : (zeroRow zero ln).length = ln * zero.length := by simp [zeroRow]
        have hzget : ∀ i (h : i < (zeroRow zero ln).length) (h2 : i % zero.length < zero.length), (zeroRow zero ln)[i] = zero[i % zero.length] := fun i h h2 => by
          simp [zeroRow, List.getD_eq_getElem?_getD, List.getElem?_eq_getElem h2]
        have hmod : ∀ i, i % zero.length < zero.length := fun i => Nat.mod_lt _ hpos
        have hgood : ∀ i (h : i < (zeroRow zero ln).length) (h' : i < vs.length), (zeroRow zero ln)[i].isCell = true ∧ GV B ob g w (zeroRow zero ln)[i] vs[i] := fun i h h' => by
          have h2 := hmod i
          have h3 : i % zero.length < z.cells.size := by omega
          rw [hzget i h h2, hzg i h' h2 h3]
          refine ⟨List.all_eq_true.1 (repCL_cells hz) _ (List.getElem_mem h2), GV.const0 ?_⟩
          have := repCL_get hz _ h2 (by simpa using h3)
          rwa [Array.getElem_toList] at this
        obtain ⟨arr', harr'⟩ : ∃ arr' : Array Value, arr' = (arr.toList.take (off + 0) ++ vs ++ arr.toList.drop (off + 0 + vs.length)).toArray := ⟨_, rfl⟩
        have hrun := run_storeF P b off tyb fr vs 0 arr w k4 hfr (by omega) (fun u hu2 => by
          obtain ⟨j, hj, rfl⟩ := List.getElem_of_mem hu2
          have hj' : j < (zeroRow zero ln).length := by omega
          have := hgood j hj' hj
          exact oneCell_of this.1 this.2)
        rw [← harr'] at hrun
        have hsz : (setCells cs off (zeroRow zero ln)).length ≤ arr'.size := by
          rw [setCells_len, harr']; simp; omega
        have hget : ∀ j (h : j < arr'.size), arr'[j]? = if off ≤ j ∧ j < off + ln * zero.length then vs[j - off]? else arr[j]? := fun j h => by
          rw [harr']
          simp only [Nat.add_zero, List.getElem?_toArray, List.getElem?_append, List.length_append, List.length_take, Array.length_toList, List.getElem?_take, List.getElem?_drop, Array.getElem?_toList]
          by_cases q1 : j < off
          · rw [if_pos (by omega), if_pos (by omega), if_pos q1, if_neg (by omega)]
          · by_cases q2 : j < off + ln * zero.length
            · rw [if_pos (by omega), if_neg (by omega), if_pos (by omega)]
              congr 1; omega
            · rw [if_neg (by omega), if_neg (by omega)]
              congr 1; omega
        obtain ⟨H', hp⟩ := H.setObj (arr' := arr') (cs' := setCells cs off (zeroRow zero ln)) ho htb k4 (hfr.imp id fun q => by rw [harr']; simp; omega) hsz (fun j hj => by
          have e1 := setCells_get (zeroRow zero ln) cs off j (by omega)
          have e2 := hget j (Nat.lt_of_lt_of_le hj hsz)
          rw [List.getElem?_eq_getElem hj] at e1
          rw [Array.getElem?_eq_getElem (Nat.lt_of_lt_of_le hj hsz)] at e2
          rw [hzlen] at e1
          by_cases hin : off ≤ j ∧ j < off + ln * zero.length
          · rw [if_pos hin] at e1 e2
            obtain ⟨q1, e1⟩ := List.getElem?_eq_some_iff.1 e1.symm
            obtain ⟨q2, e2⟩ := List.getElem?_eq_some_iff.1 e2.symm
            rw [← e1, ← e2]
            exact hgood _ q1 q2
          · rw [if_neg hin] at e1 e2
            obtain ⟨q1, e1⟩ := List.getElem?_eq_some_iff.1 e1.symm
            obtain ⟨q2, e2⟩ := Array.getElem?_eq_some_iff.1 e2.symm
            rw [← e1, ← e2]
            exact k6 j q1)
        refine ⟨.tuple #[], g, w.setRow b arr', .inl ?_, H', .dead, hp⟩
        obtain ⟨n, rfl⟩ : ∃ n, ln = n + 1 := ⟨ln - 1, by omega⟩
        simp [Builtin.clear_, run_underlying hu, hzero, hvs, hrun]
      · cases hv
    · cases hv
  · cases hv

end
end Go.V
