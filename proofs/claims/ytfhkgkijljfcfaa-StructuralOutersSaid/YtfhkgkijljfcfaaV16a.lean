/- V, part 16a: the text of code: what is looked at to see that V's text is the machine's. -/
import Derived.Test.YtfhkgkijljfcfaaV16
set_option linter.unusedVariables false
namespace Go.V
open Go.RowKit

def callOk (P : Program) (f : Nat) : Bool := match P.funcs[f]? with | some fn => fn.body.isSome && fn.name != "runtime.NumGoroutine" | none => false

/-! ### The text -/
def mGuard (ops : Array Oper) : Option (Nat × Bool) → Option (Nat × Bool) → Bool
  | none, none => true
  | some (s, b), some (j, b') => b == b' && ((ops[j]?).bind (·.dst) == some s)
  | _, _ => false

def mCall (P : Program) : VOp → Op → Bool
  | .call f args _, .call c => match c.callee with
    | .value (.func f') => f == f' && mOL args c.args.toList && callOk P f
    | _ => false
  | .callv x args _, .call c => match c.callee with
    | .value y => mO x y && mOL args c.args.toList
    | _ => false
  | _, _ => false

def mVI (P : Program) (nt : Nat) (ops : Array Oper) (i : VI) (o : Oper) : Bool :=
  i.dst == o.dst && (match i.dst with | some d => d < nt | none => true) && mGuard ops i.g o.guard && (mOp P i.op o.op || mCall P i.op o.op)

def mVIs (P : Program) (nt : Nat) (ops : Array Oper) : List VI → List Oper → Bool
  | [], [] => true
  | i :: r, o :: s => mVI P nt ops i o && mVIs P nt ops r s
  | _, _ => false

def VOp.opds : VOp → List Opd
  | .mov x => [x]
  | .pick c a b => [c, a, b]
  | .alloc _ => []
  | .box x => [x]
  | .build _ ps => ps.map (·.2.2)
  | .bsl _ _ _ _ ps => ps.map (·.2)
  | .load _ a => [a]
  | .store _ a x => [a, x]
  | .nilck x => [x]
  | .bin _ _ x y => [x, y]
  | .un _ x => [x]
  | .cvi _ x => [x]
  | .faddr _ x => [x]
  | .fld _ _ x => [x]
  | .iaddr _ x i => [x, i]
  | .idx x i => [x, i]
  | .slc _ x lo hi mx => x :: (lo.toList ++ hi.toList ++ mx.toList)
  | .ext x _ => [x]
  | .len _ x => [x]
  | .app _ _ x y => [x, y]
  | .mm _ x y => [x, y]
  | .mkfn _ cap => cap
  | .mkmap => []
  | .lkp _ _ _ m k => [m, k]
  | .mset _ m k v => [m, k, v]
  | .mdel _ m k => [m, k]
  | .call _ args _ => args
  | .callv x args _ => x :: args

def Opd.rd : Opd → List Nat
  | .t s => [s]
  | _ => []

def VI.rd (i : VI) : List Nat := (match i.g with | some (s, _) => [s] | none => []) ++ i.op.opds.flatMap Opd.rd

def clsO : Option (Option Nat × Nat) → Nat
  | none => 0
  | some (some 0, 0) => 3
  | some _ => 2

/-- 0: nothing of the objects read or turned; 1: cells and maps read; 2: something pushed, a count turned; 3: else -/
def VOp.cls : VOp → Nat
  | .load .. | .lkp .. | .len (_ + 2) _ => 1
  | .alloc .. | .box .. | .bsl true .. | .mkmap | .app .. => 2
  | .store .. | .mset .. | .mdel .. => 3
  | .call _ _ own | .callv _ _ own => clsO own
  | _ => 0

/-- two operations, the first ahead of the second, that may change places -/
def comm (i j : VI) : Bool :=
  (match i.dst with | some d => !(j.rd.contains d) && !(j.dst == some d) | none => true) && (match j.dst with | some d => !(i.rd.contains d) | none => true) &&
  (i.op.cls == 0 || j.op.cls == 0 || (i.op.cls == 1 && j.op.cls ≤ 2))

def edgesOf (o : Oper) : List Nat := (o.after.toList.filter (Region.binds .any)).map (·.on)

def addAll : List Nat → List Nat → List Nat
  | [], l => l
  | x :: r, l => addAll r (if l.contains x then l else x :: l)

def ancOf (T : List (List Nat)) : List Nat → List Nat
  | [] => []
  | e :: r => addAll (e :: T.getD e []) (ancOf T r)

def ancT : List Oper → List (List Nat) → List (List Nat)
  | [], T => T
  | o :: r, T => ancT r (T ++ [ancOf T (edgesOf o)])

def freeP (T : List (List Nat)) (x y : Nat × VI) : Bool := !(x.1 == y.1) && ((T.getD y.1 []).contains x.1 || comm x.2 y.2)
def pairsOk (T : List (List Nat)) : List (Nat × VI) → Bool
  | [] => true
  | x :: r => r.all (freeP T x) && pairsOk T r

def topo (ops : Array Oper) : List Nat → List Nat → Bool
  | _, [] => true
  | seen, i :: r => (match ops[i]? with | some o => (edgesOf o).all seen.contains | none => false) && topo ops (i :: seen) r

def gOk (nt : Nat) (i : VI) : Bool := match i.g with | some (s, _) => s < nt | none => true

def mDraw (P : Program) (nt : Nat) (ops : Array Oper) (vis : List VI) (ord : List Nat) : Bool :=
  P.follows .mixedOrders && (ord.length == vis.length) && (ord.length == ops.size) && ((List.range ops.size).all fun k => ord.contains k) &&
  ((ord.zip vis).all fun x => gOk nt x.2 && match ops[x.1]? with | some o => mVI P nt ops x.2 o | none => false) && pairsOk (ancT ops.toList []) (ord.zip vis) && topo ops [] ord

/-- r: within a round of a loop over a function -/
def mVC (P : Program) (nt : Nat) (r : Bool) : VC → Code → Bool
  | .drop _ _ c, d => mVC P nt r c d
  | .own _ _ _ c, d => mVC P nt r c d
  | .skip, .skip => true
  | .reg vis none, .region _ ops false => vis.all (gOk nt) && mVIs P nt ops vis ops.toList
  | .reg vis (some ord), .region _ ops true => mDraw P nt ops vis ord
  | .seq a b, .seq c d => mVC P nt r a c && mVC P nt r b d
  | .cond x a b, .cond y c d => mO x y && mVC P nt r a c && mVC P nt r b d
  | .block i a, .block j c => i == j && mVC P nt r a c
  | .loop a, .loop c => mVC P nt r a c
  | .rfn _ n f ps a b, .rangeFunc g qs c d => !r && n == nt && mO f g && qs.toList == ps && ps.all (· < nt) && mVC P nt true a c && mVC P nt true b d
  | .exit i, .exit j => i == j
  | .ret, .ret => true
  | _, _ => false


def cmP (P : Program) : VC → Nat → Code → Prop := fun v n c => mVC P n true v c = true

end Go.V
