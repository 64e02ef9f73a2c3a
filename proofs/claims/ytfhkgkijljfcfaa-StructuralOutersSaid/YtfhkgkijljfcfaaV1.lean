/- V, part 1: a value-level language over the model's code trees: values, states, operations, code. Plain definitions: nothing of the machine is stated here. -/
import Derived.CallsIn
namespace Go.V

/-- Values as data. 'sl es tok': a slice with elements es; tok 0: no handle; 1: a fresh handle; i+2: the handle that token object i counts. 'nils': a slice without capacity. 'dead': nothing is known. -/
inductive VV where
  | int (k : IntKind) (n : Int)
  | bool (b : Bool)
  | str (s : List UInt8)
  | nilp
  | ptr (o off : Nat)
  | pim (cs : List VV) (off : Nat)
  | nils
  | sl (es : List VV) (tok : Nat)
  | row (o off len : Nat)
  | nilm
  | mp (o : Nat)
  | nilf
  | fn (f : Nat) (cap : List VV)
  | yld (o : Nat)
  | it (o : Nat)
  | agg (cs : List VV)
  | tup (vs : List VV)
  | dead
  deriving Inhabited

def get : List (Nat × VV) → Nat → VV
  | [], _ => .dead
  | (k, v) :: r, s => if k = s then v else get r s

def put : List (Nat × VV) → Nat → VV → List (Nat × VV)
  | [], s, v => [(s, v)]
  | (k, u) :: r, s, v => if s = k then (s, v) :: r else if s < k then (s, v) :: (k, u) :: r else (k, u) :: put r s v

def del : List (Nat × VV) → List Nat → List (Nat × VV)
  | [], _ => []
  | (k, u) :: r, l => if l.contains k then del r l else (k, u) :: del r l

/-- It fills one cell of memory. -/
def VV.isCell : VV → Bool
  | .agg _ | .tup _ | .dead => false
  | _ => true

def VV.noTup : VV → Bool
  | .tup _ => false
  | _ => true

def VV.cells : VV → List VV
  | .agg cs => cs
  | v => [v]

/-- What is stored in an element of a slice: no handles, no nil slices. -/
def VV.strip0 : VV → VV
  | .sl es _ => .sl es 0
  | .nils => .sl [] 0
  | v => v
def VV.strip : VV → VV
  | .agg cs => .agg (cs.map VV.strip0)
  | v => v.strip0

/-- One cell's data: nothing that leads to an object. -/
def VV.canon0 : VV → Bool
  | .int _ _ | .bool _ | .str _ | .nilp | .nilm | .nilf => true
  | .sl _ t => t == 0
  | .fn _ cap => cap.isEmpty
  | _ => false
def VV.canon : VV → Bool
  | .agg cs => cs.all VV.canon0
  | v => v.canon0

def VV.noHnd0 : VV → Bool
  | .sl _ t => t == 0
  | .tup _ => false
  | _ => true
def VV.noHnd : VV → Bool
  | .agg cs => cs.all VV.noHnd0
  | v => v.noHnd0

mutual
/-- All objects that a value names lie below n. -/
def VV.ids (n : Nat) : VV → Bool
  | .ptr o _ => o < n
  | .row o _ _ => o < n
  | .mp o => o < n
  | .yld o => o < n
  | .it o => o < n
  | .sl _ t => t < n + 2
  | .agg cs => idsL n cs
  | .tup cs => idsL n cs
  | .fn _ cs => idsL n cs
  | _ => true
def idsL (n : Nat) : List VV → Bool
  | [] => true
  | v :: r => VV.ids n v && idsL n r
end

inductive Opd where
  | t (s : Nat)
  | c (v : VV)
  | f (n : Nat)

def Opd.ev (env : List (Nat × VV)) : Opd → VV
  | .t s => get env s
  | .c v => v
  | .f n => .fn n []

/-- The kinds of scalars; what a comparison compares: numbers or strings, bools, structs of scalars. -/
inductive Kd where
  | i | b | s
  deriving DecidableEq
inductive Ty where
  | sc (k : Kd) | st (l : List Kd)

def Kd.fits : Kd → VV → Bool
  | .i, .int _ _ => true
  | .b, .bool _ => true
  | .s, .str _ => true
  | _, _ => false
def fitsL : List Kd → List VV → Bool
  | [], [] => true
  | k :: r, v :: s => k.fits v && fitsL r s
  | _, _ => false
def Ty.fits : Ty → VV → Bool
  | .sc q, v => q.fits v
  | .st l, .agg cs => fitsL l cs
  | _, _ => false

/-- The operations, their types resolved: n cells of a variable (0: one cell that is no struct), sz cells of an element, off a field's place. -/
inductive VOp where
  | mov (x : Opd)
  | pick (c a b : Opd)
  | alloc (zero : List VV)
  | box (x : Opd)
  | build (zero : List VV) (parts : List (Nat × Nat × Opd))
  | bsl (own : Bool) (sz : Nat) (zero : VV) (len : Nat) (parts : List (Nat × Opd))
  | load (n : Nat) (a : Opd)
  | store (n : Nat) (a x : Opd)
  | nilck (x : Opd)
  | bin (op : BinOp) (ty : Ty) (x y : Opd)
  | un (op : UnOp) (x : Opd)
  | cvi (k : IntKind) (x : Opd)
  | faddr (off : Nat) (x : Opd)
  | fld (off n : Nat) (x : Opd)
  | iaddr (sz : Nat) (x i : Opd)
  | idx (x i : Opd)
  | slc (sz : Nat) (x : Opd) (lo hi mx : Option Opd)
  | ext (x : Opd) (i : Nat)
  | len (kind : Nat) (x : Opd)
  | app (sz bytes : Nat) (x y : Opd)
  | mm (isMax : Bool) (x y : Opd)
  | mkfn (f : Nat) (cap : List Opd)
  | mkmap
  | lkp (ty : Ty) (zero : VV) (ok : Bool) (m k : Opd)
  | mset (ty : Ty) (m k v : Opd)
  | mdel (ty : Ty) (m k : Opd)
  /-- own: the component of the result that is a fresh slice gets a handle: which, and the size of its elements -/
  | call (f : Nat) (args : List Opd) (own : Option (Option Nat × Nat))
  | callv (x : Opd) (args : List Opd) (own : Option (Option Nat × Nat))

structure VI where
  dst : Option Nat
  g : Option (Nat × Bool)
  op : VOp

inductive Ex where
  | nrm
  | ext (id : Nat)
  | ret
  deriving DecidableEq

inductive VC where
  | skip
  /-- draw: a region that draws its order; V takes it in this one -/
  | reg (ops : List VI) (draw : Option (List Nat))
  | seq (a b : VC)
  | cond (c : Opd) (a b : VC)
  | block (id : Nat) (c : VC)
  | loop (c : VC)
  | exit (id : Nat)
  | ret
  | scope (c : VC)
  /-- a range over a function; nest: within a round of another -/
  | rfn (nest : Bool) (nt : Nat) (f : Opd) (ps : List Nat) (a b : VC)
  /-- of the text alone: these slots are not read again; the objects from the call's k-th on are given up -/
  | drop (slots : List Nat) (k : Option Nat) (c : VC)
  /-- of the text alone: the slice in a slot (in the cell c of its object) gets a handle -/
  | own (s : Nat) (f : Option Nat) (sz : Nat) (c : VC)

instance : Inhabited VC := ⟨.skip⟩

/-- Objects of the running call: rows of cells; the count of a slice's handle; maps; iterators; a loop over a function: how many temporaries, what they were at its start, who takes the values, its code, its state (0 ready, 1 busy, 2 done, 3 exhausted) and its jump; the block of deferred calls beside it. -/
inductive Obj where
  | cells (cs : List VV)
  | tok (n sz : Nat)
  | map (es : List (VV × VV))
  | siter (s : List UInt8) (pos : Nat)
  | loop (nt : Nat) (env : List (Nat × VV)) (ps : List Nat) (a b : VC) (st : Nat) (pend : Ex)
  | dfr
  | gone
  deriving Inhabited

structure S0 where
  env : List (Nat × VV)
  ob : List Obj
/-- base: the objects of the caller; marks: the marks among the deferred calls -/
structure St extends S0 where
  base : Nat := 0
  marks : List Nat := []

structure VF where
  params : Nat
  ntmps : Nat
  /-- slots; or slots of addresses, and the cells behind them -/
  results : List (Nat × Option Nat)
  fresh : Option Nat
  body : VC

def byteInt (b : UInt8) : VV := .int .u8 b.toNat

def asI : VV → Option Int | .int _ n => some n | _ => none
def asB : VV → Option Bool | .bool b => some b | _ => none

def strLess : List UInt8 → List UInt8 → Bool
  | _, [] => false
  | [], _ :: _ => true
  | a :: x, b :: y => a < b || (a == b && strLess x y)

/-- == of scalars of one type -/
def eq0 : VV → VV → Option Bool
  | .int k a, .int k' b => if k = k' then some (a == b) else none
  | .bool a, .bool b => some (a == b)
  | .str a, .str b => some (a == b)
  | _, _ => none
def eqL : List VV → List VV → Option Bool
  | [], [] => some true
  | a :: x, b :: y => match eq0 a b with
    | some true => eqL x y
    | some false => some false
    | none => none
  | _, _ => none
def eqV : VV → VV → Option Bool
  | .agg a, .agg b => eqL a b
  | a, b => eq0 a b

def binI (op : BinOp) (k : IntKind) (a b : Int) : Option VV :=
  match op with
  | .add => some (.int k (k.wrap (a + b)))
  | .sub => some (.int k (k.wrap (a - b)))
  | .mul => some (.int k (k.wrap (a * b)))
  | .quo => if b = 0 then none else some (.int k (k.wrap (a.tdiv b)))
  | .rem => if b = 0 then none else some (.int k (a.tmod b))
  | .eql => some (.bool (a == b))
  | .neq => some (.bool (a != b))
  | .lss => some (.bool (a < b))
  | .leq => some (.bool (a ≤ b))
  | .gtr => some (.bool (a > b))
  | .geq => some (.bool (a ≥ b))
  | _ => none

def binS (op : BinOp) (a b : List UInt8) : Option VV :=
  match op with
  | .add => if a.length + b.length ≤ 1000000000000000 then some (.str (a ++ b)) else none
  | .eql => some (.bool (a == b))
  | .neq => some (.bool (!(a == b)))
  | .lss => some (.bool (strLess a b))
  | .leq => some (.bool (strLess a b || a == b))
  | .gtr => some (.bool (!(strLess a b || a == b)))
  | .geq => some (.bool (!strLess a b))
  | _ => none

def binV (op : BinOp) : VV → VV → Option VV
  | .int k a, .int k' b => if k = k' then binI op k a b else none
  | .str a, .str b => binS op a b
  | .bool a, .bool b => match op with
    | .eql => some (.bool (a == b))
    | .neq => some (.bool (!(a == b)))
    | _ => none
  | .agg a, .agg b => match op with
    | .eql => (eqL a b).map .bool
    | .neq => (eqL a b).map fun r => .bool !r
    | _ => none
  | _, _ => none

def setCells (cs : List VV) (off : Nat) : List VV → List VV
  | [] => cs
  | v :: r => setCells (cs.set off v) (off + 1) r

/-- the parts of a struct laid into its zero -/
def fillV (env : List (Nat × VV)) (cs : List VV) : List (Nat × Nat × Opd) → Option (List VV)
  | [] => some cs
  | (off, sz, x) :: r =>
    let v := (x.ev env).cells
    if v.length = sz ∧ off + sz ≤ cs.length ∧ v.all VV.isCell = true then fillV env (setCells cs off v) r else none

def fillE (env : List (Nat × VV)) (sz : Nat) (es : List VV) : List (Nat × Opd) → Option (List VV)
  | [] => some es
  | (i, x) :: r =>
    let v := (x.ev env).strip
    if v.cells.length = sz ∧ i < es.length ∧ v.canon = true then fillE env sz (es.set i v) r else none

def nthO (ob : List Obj) (i : Nat) : Obj := ob.getD i .gone

/-- the cells behind a pointer, and where in them it points -/
def deref (ob : List Obj) : VV → Option (List VV × Nat)
  | .ptr o off => match nthO ob o with
    | .cells cs => some (cs, off)
    | _ => none
  | .pim cs off => some (cs, off)
  | _ => none

def loadV (n : Nat) (cs : List VV) (off : Nat) : Option VV :=
  if n = 0 then cs[off]? else if off + n ≤ cs.length then some (.agg ((cs.drop off).take n)) else none

def hdSz : List VV → Nat → Bool
  | [], _ => true
  | e :: _, sz => e.cells.length == sz
def bound (env : List (Nat × VV)) (y : Nat) (x : Opd) : Option Nat :=
  match x.ev env with
  | .int _ i => if 0 ≤ i ∧ i ≤ y then some i.toNat else none
  | _ => none
def bo (env : List (Nat × VV)) (y d : Nat) : Option Opd → Option Nat
  | none => some d
  | some x => bound env y x

def mfind (k : VV) : List (VV × VV) → Option (Option VV)
  | [] => some none
  | (k', v) :: r => match eqV k k' with
    | some true => some (some v)
    | some false => mfind k r
    | none => none
def mput (k v : VV) : List (VV × VV) → Option (List (VV × VV))
  | [] => some [(k, v)]
  | (k', u) :: r => match eqV k k' with
    | some true => some ((k, v) :: r)
    | some false => (mput k v r).map ((k', u) :: ·)
    | none => none
def mrem (k : VV) : List (VV × VV) → Option (List (VV × VV))
  | [] => some []
  | (k', u) :: r => match eqV k k' with
    | some true => some r
    | some false => (mrem k r).map ((k', u) :: ·)
    | none => none

/-- One operation: its value, and the objects behind it. 'none': V does not say. -/
def VOp.ev (st : S0) : VOp → Option (VV × List Obj)
  | .mov x => some (x.ev st.env, st.ob)
  | .pick c a b => match c.ev st.env with
    | .bool t => some (if t then a.ev st.env else b.ev st.env, st.ob)
    | _ => none
  | .alloc zero => some (.ptr st.ob.length 0, st.ob ++ [.cells zero])
  | .box x => match x.ev st.env with
    | .dead | .tup _ => none
    | v => some (.ptr st.ob.length 0, st.ob ++ [.cells v.cells])
  | .build zero parts => (fillV st.env zero parts).map fun cs => (.agg cs, st.ob)
  | .bsl own sz zero ln parts =>
    match fillE st.env sz (List.replicate ln zero) parts with
    | none => none
    | some es => if own then some (.sl es (st.ob.length + 2), st.ob ++ [.tok ln sz]) else some (.sl es 0, st.ob)
  | .load n a => match deref st.ob (a.ev st.env) with
    | some (cs, off) => (loadV n cs off).map fun v => (v, st.ob)
    | none => none
  | .store n a x => match a.ev st.env with
    | .ptr o off => match nthO st.ob o with
      | .cells cs => let v := (x.ev st.env).cells
        if v.length = n ∧ off + n ≤ cs.length ∧ v.all VV.isCell = true then some (.dead, st.ob.set o (.cells (setCells cs off v))) else none
      | _ => none
    | _ => none
  | .nilck x => match x.ev st.env with
    | .ptr o off => some (.ptr o off, st.ob)
    | .pim cs off => some (.pim cs off, st.ob)
    | .fn f cap => some (.fn f cap, st.ob)
    | .yld o => some (.yld o, st.ob)
    | _ => none
  | .bin op ty x y => if ty.fits (x.ev st.env) then (binV op (x.ev st.env) (y.ev st.env)).map fun v => (v, st.ob) else none
  | .un op x => match op, x.ev st.env with
    | .neg, .int k n => some (.int k (k.wrap (0 - n)), st.ob)
    | .not, .bool b => some (.bool (!b), st.ob)
    | _, _ => none
  | .cvi k x => match x.ev st.env with
    | .int _ n => some (.int k (k.wrap n), st.ob)
    | _ => none
  | .faddr off x => match x.ev st.env with
    | .ptr o f => some (.ptr o (f + off), st.ob)
    | .pim cs f => some (.pim cs (f + off), st.ob)
    | _ => none
  | .fld off n x => match x.ev st.env with
    | .agg cs => (loadV n cs off).map fun v => (v, st.ob)
    | _ => none
  | .iaddr sz x i => match x.ev st.env, i.ev st.env with
    | .sl es _, .int _ k => match (if 0 ≤ k then es[k.toNat]? else none) with
      | some e => if e.cells.length = sz then some (.pim e.cells 0, st.ob) else none
      | none => none
    | .row o off ln, .int _ k => if 0 ≤ k ∧ k < ln then some (.ptr o (off + k.toNat * sz), st.ob) else none
    | _, _ => none
  | .idx x i => match x.ev st.env, i.ev st.env with
    | .str s, .int _ k => match (if 0 ≤ k then s[k.toNat]? else none) with
      | some b => some (byteInt b, st.ob)
      | none => none
    | _, _ => none
  | .slc 0 x lo hi mx => match x.ev st.env with
    | .str s => if mx.isSome then none else
      (bo st.env s.length s.length hi).bind fun h => (bo st.env h 0 lo).bind fun l => some (.str ((s.take h).drop l), st.ob)
    | _ => none
  | .slc (sz + 1) x lo hi mx => match x.ev st.env with
    | .sl es _ => if (mx.isSome ∧ hi.isNone) ∨ hdSz es (sz + 1) = false then none else
      (bo st.env es.length es.length mx).bind fun m => (bo st.env m es.length hi).bind fun h => (bo st.env h 0 lo).bind fun l =>
        some (if mx.isSome ∧ m = l then .nils else .sl ((es.take h).drop l) 0, st.ob)
    | .nils => if mx.isSome ∧ hi.isNone then none else
      (bo st.env 0 0 mx).bind fun m => (bo st.env m 0 hi).bind fun h => (bo st.env h 0 lo).bind fun _ => some (.nils, st.ob)
    | _ => none
  | .ext x i => match x.ev st.env with
    | .tup vs => match vs[i]? with
      | some v => some (v, st.ob)
      | none => none
    | _ => none
  | VOp.len 0 x => match x.ev st.env with
    | .str s => some (.int .i64 s.length, st.ob)
    | _ => none
  | VOp.len 1 x => match x.ev st.env with
    | .sl es _ => some (.int .i64 es.length, st.ob)
    | .nils => some (.int .i64 0, st.ob)
    | .row _ _ ln => some (.int .i64 ln, st.ob)
    | _ => none
  | VOp.len _ x => match x.ev st.env with
    | .nilm => some (.int .i64 0, st.ob)
    | .mp o => match nthO st.ob o with
      | .map es => some (.int .i64 es.length, st.ob)
      | _ => none
    | _ => none
  | .app sz bytes x y => match (match y.ev st.env with | .sl ys _ => some ys | .nils => some [] | _ => none) with
    | none => none
    | some ys => if hdSz ys sz = false then none else match x.ev st.env with
      | .sl es (t + 2) => match nthO st.ob t with
        | .tok n s => if es.length = n ∧ s = sz ∧ (es.length + ys.length) * bytes ≤ 35184372088832 then some (.sl (es ++ ys) (t + 2), st.ob.set t (.tok (n + ys.length) s)) else none
        | _ => none
      | .nils => if ys.length * bytes ≤ 35184372088832 then some (.sl ys (st.ob.length + 2), st.ob ++ [.tok ys.length sz]) else none
      | _ => none
  | .mm isMax x y => match x.ev st.env, y.ev st.env with
    | .int k a, .int k' b => if k = k' then some (.int k (if isMax then (if a ≥ b then a else b) else (if a ≤ b then a else b)), st.ob) else none
    | _, _ => none
  | .mkfn f cap => if (cap.map fun x => (x.ev st.env).strip).all VV.noHnd then some (.fn f (cap.map fun x => (x.ev st.env).strip), st.ob) else none
  | .mkmap => some (.mp st.ob.length, st.ob ++ [.map []])
  | .lkp ty zero ok m k => if !ty.fits (k.ev st.env) then none else match (match m.ev st.env with
      | .nilm => some none
      | .mp o => match nthO st.ob o with
        | .map es => mfind (k.ev st.env) es
        | _ => none
      | _ => none) with
    | none => none
    | some r => some (if ok then .tup [r.getD zero, .bool r.isSome] else r.getD zero, st.ob)
  | .mset ty m k v => if !ty.fits (k.ev st.env) then none else match m.ev st.env with
    | .mp o => match nthO st.ob o with
      | .map es => if (k.ev st.env).canon then match mput (k.ev st.env) (v.ev st.env).strip es with
        | some es' => if (v.ev st.env).strip.canon then some (.dead, st.ob.set o (.map es')) else none
        | none => none
        else none
      | _ => none
    | _ => none
  | .mdel ty m k => if !ty.fits (k.ev st.env) then none else match m.ev st.env with
    | .mp o => match nthO st.ob o with
      | .map es => match mrem (k.ev st.env) es with
        | some es' => some (.dead, st.ob.set o (.map es'))
        | none => none
      | _ => none
    | _ => none
  | .call .. | .callv .. => none

end Go.V
