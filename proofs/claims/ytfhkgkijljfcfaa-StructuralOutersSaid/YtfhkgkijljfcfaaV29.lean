/- V, part 29: V run on states that are not known in full: equations with named continuations. -/
import Derived.Test.YtfhkgkijljfcfaaV28
import Derived.Attr
set_option linter.unusedVariables false
set_option linter.unusedSimpArgs false
namespace Go.V
open Go.RowKit

theorem byRfl {α : Sort _} {a b : α} (h : a = b) : a = b := h

def contS (P : Program) (b : VC) (K : Ex → St → Prop) : Ex → St → Prop
  | .nrm, st => Wp P b st K
  | .ext id, st => K (.ext id) st
  | .ret, st => K .ret st
def contB (id : Nat) (K : Ex → St → Prop) : Ex → St → Prop
  | .nrm, st => K .nrm st
  | .ext j, st => if j = id then K .nrm st else K (.ext j) st
  | .ret, st => K .ret st
def nrmK (K : Ex → St → Prop) : St → Prop := fun st => K .nrm st
def opsK (P : Program) (r : List VI) (K : St → Prop) : St → Prop := fun st => Ops P r st K
def opsDK (P : Program) (r : List VI) (K : St → Prop) : St → Prop := fun st => OpsD P r st K

def GuardW (P : Program) (gv : VV) (b : Bool) (d : Option Nat) (o : VOp) (st : St) (k : St → Prop) : Prop :=
  match (match gv with | .bool c => some (c == b) | .tup [] => some false | _ => none) with
  | none => False
  | some false => k { st with env := putD st.env d (.tup []) }
  | some true => OpW P ⟨d, none, o⟩ st k
def GuardD (P : Program) (gv : VV) (b : Bool) (d : Option Nat) (o : VOp) (st : St) (k : St → Prop) : Prop :=
  match (match gv with | .bool c => some (c == b) | .tup [] => some false | _ => none) with
  | none => False
  | some false => k { st with env := putD st.env d (.tup []) }
  | some true => OpD P ⟨d, none, o⟩ st k
def boxV (v : VV) (ob : List Obj) : Option (VV × List Obj) := match v with
  | .dead | .tup _ => none
  | v => some (.ptr ob.length 0, ob ++ [.cells v.cells])
theorem box_agg {cs : List VV} {ob : List Obj} : boxV (.agg cs) ob = some (.ptr ob.length 0, ob ++ [.cells cs]) := byRfl rfl
theorem box_int {q : IntKind} {n : Int} {ob : List Obj} : boxV (.int q n) ob = some (.ptr ob.length 0, ob ++ [.cells [.int q n]]) := byRfl rfl
theorem box_bool {n : Bool} {ob : List Obj} : boxV (.bool n) ob = some (.ptr ob.length 0, ob ++ [.cells [.bool n]]) := byRfl rfl
theorem box_str {n : List UInt8} {ob : List Obj} : boxV (.str n) ob = some (.ptr ob.length 0, ob ++ [.cells [.str n]]) := byRfl rfl
theorem box_sl {l : List VV} {n : Nat} {ob : List Obj} : boxV (.sl l n) ob = some (.ptr ob.length 0, ob ++ [.cells [.sl l n]]) := byRfl rfl
theorem box_nils {ob : List Obj} : boxV .nils ob = some (.ptr ob.length 0, ob ++ [.cells [.nils]]) := byRfl rfl
theorem box_fn {f : Nat} {l : List VV} {ob : List Obj} : boxV (.fn f l) ob = some (.ptr ob.length 0, ob ++ [.cells [.fn f l]]) := byRfl rfl
theorem box_nilf {ob : List Obj} : boxV .nilf ob = some (.ptr ob.length 0, ob ++ [.cells [.nilf]]) := byRfl rfl
theorem box_mp {o : Nat} {ob : List Obj} : boxV (.mp o) ob = some (.ptr ob.length 0, ob ++ [.cells [.mp o]]) := byRfl rfl
theorem box_yld {o : Nat} {ob : List Obj} : boxV (.yld o) ob = some (.ptr ob.length 0, ob ++ [.cells [.yld o]]) := byRfl rfl
def EvK (r : Option (VV × List Obj)) (d : Option Nat) (st : St) (k : St → Prop) : Prop := match r with
  | some (v, ob') => k { st with env := putD st.env d v, ob := ob' }
  | none => False

def CondK (P : Program) (v : VV) (a b : VC) (st : St) (K : Ex → St → Prop) : Prop := match v with
  | .bool t => (t = true → Wp P a st K) ∧ (t = false → Wp P b st K)
  | _ => False
section
variable {P : Program} {st : St} {K : Ex → St → Prop} {k : St → Prop} {d : Option Nat} {o : VOp} {b : Bool}

theorem e_grd {s : Nat} : OpW P ⟨d, some (s, b), o⟩ st k = GuardW P (get st.env s) b d o st k := byRfl rfl
theorem e_grdD {s : Nat} : OpD P ⟨d, some (s, b), o⟩ st k = GuardD P (get st.env s) b d o st k := byRfl rfl
theorem g_tt : GuardW P (.bool true) true d o st k = OpW P ⟨d, none, o⟩ st k := byRfl rfl
theorem g_ff : GuardW P (.bool false) false d o st k = OpW P ⟨d, none, o⟩ st k := byRfl rfl
theorem g_tf : GuardW P (.bool true) false d o st k = k { st with env := putD st.env d (.tup []) } := byRfl rfl
theorem g_ft : GuardW P (.bool false) true d o st k = k { st with env := putD st.env d (.tup []) } := byRfl rfl
theorem g_tup : GuardW P (.tup []) b d o st k = k { st with env := putD st.env d (.tup []) } := byRfl rfl
theorem gd_tt : GuardD P (.bool true) true d o st k = OpD P ⟨d, none, o⟩ st k := byRfl rfl
theorem gd_ff : GuardD P (.bool false) false d o st k = OpD P ⟨d, none, o⟩ st k := byRfl rfl
theorem gd_tf : GuardD P (.bool true) false d o st k = k { st with env := putD st.env d (.tup []) } := byRfl rfl
theorem gd_ft : GuardD P (.bool false) true d o st k = k { st with env := putD st.env d (.tup []) } := byRfl rfl
theorem gd_tup : GuardD P (.tup []) b d o st k = k { st with env := putD st.env d (.tup []) } := byRfl rfl
theorem ow_mov {x0} : OpW P ⟨d, none, .mov x0⟩ st k = EvK ((VOp.mov x0).ev st.toS0) d st k := byRfl rfl
theorem od_mov {x0} : OpD P ⟨d, none, .mov x0⟩ st k = EvK ((VOp.mov x0).ev st.toS0) d st k := byRfl rfl
theorem ow_pick {x0} {x1} {x2} : OpW P ⟨d, none, .pick x0 x1 x2⟩ st k = EvK ((VOp.pick x0 x1 x2).ev st.toS0) d st k := byRfl rfl
theorem od_pick {x0} {x1} {x2} : OpD P ⟨d, none, .pick x0 x1 x2⟩ st k = EvK ((VOp.pick x0 x1 x2).ev st.toS0) d st k := byRfl rfl
theorem ow_alloc {x0} : OpW P ⟨d, none, .alloc x0⟩ st k = EvK ((VOp.alloc x0).ev st.toS0) d st k := byRfl rfl
theorem od_alloc {x0} : OpD P ⟨d, none, .alloc x0⟩ st k = EvK ((VOp.alloc x0).ev st.toS0) d st k := byRfl rfl
theorem ow_box {x0 : Opd} : OpW P ⟨d, none, .box x0⟩ st k = EvK (boxV (x0.ev st.env) st.ob) d st k := byRfl rfl
theorem od_box {x0 : Opd} : OpD P ⟨d, none, .box x0⟩ st k = EvK (boxV (x0.ev st.env) st.ob) d st k := byRfl rfl
theorem ow_build {x0} {x1} : OpW P ⟨d, none, .build x0 x1⟩ st k = EvK ((VOp.build x0 x1).ev st.toS0) d st k := byRfl rfl
theorem od_build {x0} {x1} : OpD P ⟨d, none, .build x0 x1⟩ st k = EvK ((VOp.build x0 x1).ev st.toS0) d st k := byRfl rfl
theorem ow_bsl {x0} {x1} {x2} {x3} {x4} : OpW P ⟨d, none, .bsl x0 x1 x2 x3 x4⟩ st k = EvK ((VOp.bsl x0 x1 x2 x3 x4).ev st.toS0) d st k := byRfl rfl
theorem od_bsl {x0} {x1} {x2} {x3} {x4} : OpD P ⟨d, none, .bsl x0 x1 x2 x3 x4⟩ st k = EvK ((VOp.bsl x0 x1 x2 x3 x4).ev st.toS0) d st k := byRfl rfl
theorem ow_load {x0} {x1} : OpW P ⟨d, none, .load x0 x1⟩ st k = EvK ((VOp.load x0 x1).ev st.toS0) d st k := byRfl rfl
theorem od_load {x0} {x1} : OpD P ⟨d, none, .load x0 x1⟩ st k = EvK ((VOp.load x0 x1).ev st.toS0) d st k := byRfl rfl
theorem ow_store {x0} {x1} {x2} : OpW P ⟨d, none, .store x0 x1 x2⟩ st k = EvK ((VOp.store x0 x1 x2).ev st.toS0) d st k := byRfl rfl
theorem od_store {x0} {x1} {x2} : OpD P ⟨d, none, .store x0 x1 x2⟩ st k = EvK ((VOp.store x0 x1 x2).ev st.toS0) d st k := byRfl rfl
theorem ow_nilck {x0} : OpW P ⟨d, none, .nilck x0⟩ st k = EvK ((VOp.nilck x0).ev st.toS0) d st k := byRfl rfl
theorem od_nilck {x0} : OpD P ⟨d, none, .nilck x0⟩ st k = EvK ((VOp.nilck x0).ev st.toS0) d st k := byRfl rfl
theorem ow_bin {x0} {x1} {x2} {x3} : OpW P ⟨d, none, .bin x0 x1 x2 x3⟩ st k = EvK ((VOp.bin x0 x1 x2 x3).ev st.toS0) d st k := byRfl rfl
theorem od_bin {x0} {x1} {x2} {x3} : OpD P ⟨d, none, .bin x0 x1 x2 x3⟩ st k = EvK ((VOp.bin x0 x1 x2 x3).ev st.toS0) d st k := byRfl rfl
theorem ow_un {x0} {x1} : OpW P ⟨d, none, .un x0 x1⟩ st k = EvK ((VOp.un x0 x1).ev st.toS0) d st k := byRfl rfl
theorem od_un {x0} {x1} : OpD P ⟨d, none, .un x0 x1⟩ st k = EvK ((VOp.un x0 x1).ev st.toS0) d st k := byRfl rfl
theorem ow_cvi {x0} {x1} : OpW P ⟨d, none, .cvi x0 x1⟩ st k = EvK ((VOp.cvi x0 x1).ev st.toS0) d st k := byRfl rfl
theorem od_cvi {x0} {x1} : OpD P ⟨d, none, .cvi x0 x1⟩ st k = EvK ((VOp.cvi x0 x1).ev st.toS0) d st k := byRfl rfl
theorem ow_faddr {x0} {x1} : OpW P ⟨d, none, .faddr x0 x1⟩ st k = EvK ((VOp.faddr x0 x1).ev st.toS0) d st k := byRfl rfl
theorem od_faddr {x0} {x1} : OpD P ⟨d, none, .faddr x0 x1⟩ st k = EvK ((VOp.faddr x0 x1).ev st.toS0) d st k := byRfl rfl
theorem ow_fld {x0} {x1} {x2} : OpW P ⟨d, none, .fld x0 x1 x2⟩ st k = EvK ((VOp.fld x0 x1 x2).ev st.toS0) d st k := byRfl rfl
theorem od_fld {x0} {x1} {x2} : OpD P ⟨d, none, .fld x0 x1 x2⟩ st k = EvK ((VOp.fld x0 x1 x2).ev st.toS0) d st k := byRfl rfl
theorem ow_iaddr {x0} {x1} {x2} : OpW P ⟨d, none, .iaddr x0 x1 x2⟩ st k = EvK ((VOp.iaddr x0 x1 x2).ev st.toS0) d st k := byRfl rfl
theorem od_iaddr {x0} {x1} {x2} : OpD P ⟨d, none, .iaddr x0 x1 x2⟩ st k = EvK ((VOp.iaddr x0 x1 x2).ev st.toS0) d st k := byRfl rfl
theorem ow_idx {x0} {x1} : OpW P ⟨d, none, .idx x0 x1⟩ st k = EvK ((VOp.idx x0 x1).ev st.toS0) d st k := byRfl rfl
theorem od_idx {x0} {x1} : OpD P ⟨d, none, .idx x0 x1⟩ st k = EvK ((VOp.idx x0 x1).ev st.toS0) d st k := byRfl rfl
theorem ow_slc {x0} {x1} {x2} {x3} {x4} : OpW P ⟨d, none, .slc x0 x1 x2 x3 x4⟩ st k = EvK ((VOp.slc x0 x1 x2 x3 x4).ev st.toS0) d st k := byRfl rfl
theorem od_slc {x0} {x1} {x2} {x3} {x4} : OpD P ⟨d, none, .slc x0 x1 x2 x3 x4⟩ st k = EvK ((VOp.slc x0 x1 x2 x3 x4).ev st.toS0) d st k := byRfl rfl
theorem ow_ext {x0} {x1} : OpW P ⟨d, none, .ext x0 x1⟩ st k = EvK ((VOp.ext x0 x1).ev st.toS0) d st k := byRfl rfl
theorem od_ext {x0} {x1} : OpD P ⟨d, none, .ext x0 x1⟩ st k = EvK ((VOp.ext x0 x1).ev st.toS0) d st k := byRfl rfl
theorem ow_len {x0} {x1} : OpW P ⟨d, none, .len x0 x1⟩ st k = EvK ((VOp.len x0 x1).ev st.toS0) d st k := byRfl rfl
theorem od_len {x0} {x1} : OpD P ⟨d, none, .len x0 x1⟩ st k = EvK ((VOp.len x0 x1).ev st.toS0) d st k := byRfl rfl
theorem ow_app {x0} {x1} {x2} {x3} : OpW P ⟨d, none, .app x0 x1 x2 x3⟩ st k = EvK ((VOp.app x0 x1 x2 x3).ev st.toS0) d st k := byRfl rfl
theorem od_app {x0} {x1} {x2} {x3} : OpD P ⟨d, none, .app x0 x1 x2 x3⟩ st k = EvK ((VOp.app x0 x1 x2 x3).ev st.toS0) d st k := byRfl rfl
theorem ow_mm {x0} {x1} {x2} : OpW P ⟨d, none, .mm x0 x1 x2⟩ st k = EvK ((VOp.mm x0 x1 x2).ev st.toS0) d st k := byRfl rfl
theorem od_mm {x0} {x1} {x2} : OpD P ⟨d, none, .mm x0 x1 x2⟩ st k = EvK ((VOp.mm x0 x1 x2).ev st.toS0) d st k := byRfl rfl
theorem ow_mkfn {x0} {x1} : OpW P ⟨d, none, .mkfn x0 x1⟩ st k = EvK ((VOp.mkfn x0 x1).ev st.toS0) d st k := byRfl rfl
theorem od_mkfn {x0} {x1} : OpD P ⟨d, none, .mkfn x0 x1⟩ st k = EvK ((VOp.mkfn x0 x1).ev st.toS0) d st k := byRfl rfl
theorem ow_mkmap : OpW P ⟨d, none, .mkmap ⟩ st k = EvK ((VOp.mkmap ).ev st.toS0) d st k := byRfl rfl
theorem od_mkmap : OpD P ⟨d, none, .mkmap ⟩ st k = EvK ((VOp.mkmap ).ev st.toS0) d st k := byRfl rfl
theorem ow_lkp {x0} {x1} {x2} {x3} {x4} : OpW P ⟨d, none, .lkp x0 x1 x2 x3 x4⟩ st k = EvK ((VOp.lkp x0 x1 x2 x3 x4).ev st.toS0) d st k := byRfl rfl
theorem od_lkp {x0} {x1} {x2} {x3} {x4} : OpD P ⟨d, none, .lkp x0 x1 x2 x3 x4⟩ st k = EvK ((VOp.lkp x0 x1 x2 x3 x4).ev st.toS0) d st k := byRfl rfl
theorem ow_mset {x0} {x1} {x2} {x3} : OpW P ⟨d, none, .mset x0 x1 x2 x3⟩ st k = EvK ((VOp.mset x0 x1 x2 x3).ev st.toS0) d st k := byRfl rfl
theorem od_mset {x0} {x1} {x2} {x3} : OpD P ⟨d, none, .mset x0 x1 x2 x3⟩ st k = EvK ((VOp.mset x0 x1 x2 x3).ev st.toS0) d st k := byRfl rfl
theorem ow_mdel {x0} {x1} {x2} : OpW P ⟨d, none, .mdel x0 x1 x2⟩ st k = EvK ((VOp.mdel x0 x1 x2).ev st.toS0) d st k := byRfl rfl
theorem od_mdel {x0} {x1} {x2} : OpD P ⟨d, none, .mdel x0 x1 x2⟩ st k = EvK ((VOp.mdel x0 x1 x2).ev st.toS0) d st k := byRfl rfl
theorem e_call {f : Nat} {args : List Opd} {own : Option (Option Nat × Nat)} : OpW P ⟨d, none, .call f args own⟩ st k = CallW P f (args.map (Opd.ev st.env)) own d st k := byRfl rfl
theorem e_callD {f : Nat} {args : List Opd} {own : Option (Option Nat × Nat)} : OpD P ⟨d, none, .call f args own⟩ st k = CallD P f (args.map (Opd.ev st.env)) own d st k := byRfl rfl
theorem evk_some {v : VV} {ob' : List Obj} : EvK (some (v, ob')) d st k = k { st with env := putD st.env d v, ob := ob' } := byRfl rfl

theorem e_skip : Wp P .skip st K = K .nrm st := byRfl rfl
theorem e_exit {id : Nat} : Wp P (.exit id) st K = K (.ext id) st := byRfl rfl
theorem e_ret : Wp P .ret st K = K .ret st := byRfl rfl
theorem e_reg {ops : List VI} : Wp P (.reg ops none) st K = Ops P ops st (nrmK K) := byRfl rfl
theorem e_regD {ops : List VI} {o : List Nat} : Wp P (.reg ops (some o)) st K = OpsD P ops st (nrmK K) := byRfl rfl
theorem e_seq {a b : VC} : Wp P (.seq a b) st K = Wp P a st (contS P b K) := by
  simp only [Wp]
  congr 1
  funext e s
  cases e <;> rfl
theorem e_block {id : Nat} {c : VC} : Wp P (.block id c) st K = Wp P c st (contB id K) := by
  simp only [Wp]
  congr 1
  funext e s
  cases e <;> rfl
theorem e_drop {s : List Nat} {c : VC} : Wp P (.drop s none c) st K = Wp P c { st with env := keepE st.env s } K := byRfl rfl
theorem e_dropk {s : List Nat} {k : Nat} {c : VC} (h : dropW st s (some k) = some { st with env := keepE st.env s, ob := st.ob.take (st.base + k) }) : Wp P (.drop s (some k) c) st K = Wp P c { st with env := keepE st.env s, ob := st.ob.take (st.base + k) } K := by
  simp only [Wp, h]
theorem dropW_ok {s : List Nat} {k : Nat} (h1 : st.base + k ≤ st.ob.length) (h2 : st.marks.all (fun o => decide (o < st.base + k)) = true) (h3 : (keepE st.env s).all (fun p => p.2.ids (st.base + k)) = true) (h4 : (st.ob.take (st.base + k)).all (Obj.idsB (st.base + k)) = true) :
    dropW st s (some k) = some { st with env := keepE st.env s, ob := st.ob.take (st.base + k) } := by
  simp only [dropW, h1, h2, h3, h4, and_self, if_true]
theorem e_if {x : Opd} {a b : VC} : Wp P (.cond x a b) st K = CondK P (x.ev st.env) a b st K := by
  simp only [Wp, CondK]
  cases x.ev st.env <;> rfl
theorem if_t {a b : VC} : CondK P (.bool true) a b st K = Wp P a st K := by simp [CondK]
theorem if_f {a b : VC} : CondK P (.bool false) a b st K = Wp P b st K := by simp [CondK]
theorem if_s {t : Bool} {a b : VC} (h1 : t = true → Wp P a st K) (h2 : t = false → Wp P b st K) : CondK P (.bool t) a b st K := ⟨h1, h2⟩
theorem g_s {t : Bool} (h1 : t = b → OpW P ⟨d, none, o⟩ st k) (h2 : t = !b → k { st with env := putD st.env d (.tup []) }) : GuardW P (.bool t) b d o st k := by
  cases t <;> cases b <;> first | exact h1 rfl | exact h2 rfl
theorem gd_s {t : Bool} (h1 : t = b → OpD P ⟨d, none, o⟩ st k) (h2 : t = !b → k { st with env := putD st.env d (.tup []) }) : GuardD P (.bool t) b d o st k := by
  cases t <;> cases b <;> first | exact h1 rfl | exact h2 rfl
theorem w_drop {s : List Nat} {k : Nat} {c : VC} (h1 : st.base + k ≤ st.ob.length) (h2 : st.marks.all (fun o => decide (o < st.base + k)) = true) (h3 : (keepE st.env s).all (fun p => p.2.ids (st.base + k)) = true) (h4 : (st.ob.take (st.base + k)).all (Obj.idsB (st.base + k)) = true)
    (h : Wp P c { st with env := keepE st.env s, ob := st.ob.take (st.base + k) } K) : Wp P (.drop s (some k) c) st K := by
  simp only [Wp, dropW, h1, h2, h3, h4, and_self, if_true]
  exact h
theorem e_cond {x : Opd} {a b : VC} {t : Bool} (h : x.ev st.env = .bool t) : Wp P (.cond x a b) st K = ((t = true → Wp P a st K) ∧ (t = false → Wp P b st K)) := by
  simp only [Wp, h]
theorem contS_nrm {b : VC} : contS P b K .nrm st = Wp P b st K := byRfl rfl
theorem contS_ext {b : VC} {id : Nat} : contS P b K (.ext id) st = K (.ext id) st := byRfl rfl
theorem contS_ret {b : VC} : contS P b K .ret st = K .ret st := byRfl rfl
theorem contB_nrm {id : Nat} : contB id K .nrm st = K .nrm st := byRfl rfl
theorem contB_ret {id : Nat} : contB id K .ret st = K .ret st := byRfl rfl
theorem contB_ext {id j : Nat} : contB id K (.ext j) st = if j = id then K .nrm st else K (.ext j) st := byRfl rfl
theorem nrmK_eq : nrmK K st = K .nrm st := byRfl rfl
theorem ops_nil : Ops P [] st k = k st := byRfl rfl
theorem ops_cons {i : VI} {r : List VI} : Ops P (i :: r) st k = OpW P i st (opsK P r k) := byRfl rfl
theorem opsK_eq {r : List VI} : opsK P r k st = Ops P r st k := byRfl rfl
theorem opsD_nil : OpsD P [] st k = k st := byRfl rfl
theorem opsD_cons {i : VI} {r : List VI} : OpsD P (i :: r) st k = OpD P i st (opsDK P r k) := byRfl rfl
theorem opsDK_eq {r : List VI} : opsDK P r k st = OpsD P r st k := byRfl rfl
theorem callW_pure {f : Nat} {args args' : List VV} {d : Option Nat} {r : VV} (hp : PureC P f args' r) (ha : args.map VV.strip = args') (hi : args'.all (fun v => v.ids 0 && v.noTup) = true) (hk : k { st with env := putD st.env d r.stripT }) : CallW P f args none d st k := by
  subst ha
  exact Or.inl ⟨hi, r, hp, by simpa only [takeR] using hk⟩
theorem callD_pure {f : Nat} {args args' : List VV} {d : Option Nat} {r : VV} (hp : PureC P f args' r) (ha : args.map VV.strip = args') (hi : args'.all (fun v => v.ids 0 && v.noTup) = true) (hk : k { st with env := putD st.env d r.stripT }) : CallD P f args none d st k := by
  subst ha
  exact Or.inl ⟨hi, r, hp, by simpa only [takeR] using hk⟩

end
theorem bb1 : (true == true) = true := byRfl rfl
theorem bb2 : (true == false) = false := byRfl rfl
theorem bb3 : (false == true) = false := byRfl rfl
theorem bb4 : (false == false) = true := byRfl rfl
theorem nn1 : (!true) = false := byRfl rfl
theorem nn2 : (!false) = true := byRfl rfl
theorem nt_int {a : IntKind} {b : Int} : (VV.int a b).noTup = true := byRfl rfl
theorem st0_int {a : IntKind} {b : Int} : (VV.int a b).strip0 = (VV.int a b) := byRfl rfl
theorem st_int {a : IntKind} {b : Int} : (VV.int a b).strip = (VV.int a b) := byRfl rfl
theorem ic_int {a : IntKind} {b : Int} : (VV.int a b).isCell = true := byRfl rfl
theorem stT_int {a : IntKind} {b : Int} : (VV.int a b).stripT = (VV.int a b) := byRfl rfl
theorem ce_int {a : IntKind} {b : Int} : (VV.int a b).cells = [(VV.int a b)] := byRfl rfl
theorem nt_bool {a : Bool} : (VV.bool a).noTup = true := byRfl rfl
theorem st0_bool {a : Bool} : (VV.bool a).strip0 = (VV.bool a) := byRfl rfl
theorem st_bool {a : Bool} : (VV.bool a).strip = (VV.bool a) := byRfl rfl
theorem ic_bool {a : Bool} : (VV.bool a).isCell = true := byRfl rfl
theorem stT_bool {a : Bool} : (VV.bool a).stripT = (VV.bool a) := byRfl rfl
theorem ce_bool {a : Bool} : (VV.bool a).cells = [(VV.bool a)] := byRfl rfl
theorem nt_str {a : List UInt8} : (VV.str a).noTup = true := byRfl rfl
theorem st0_str {a : List UInt8} : (VV.str a).strip0 = (VV.str a) := byRfl rfl
theorem st_str {a : List UInt8} : (VV.str a).strip = (VV.str a) := byRfl rfl
theorem ic_str {a : List UInt8} : (VV.str a).isCell = true := byRfl rfl
theorem stT_str {a : List UInt8} : (VV.str a).stripT = (VV.str a) := byRfl rfl
theorem ce_str {a : List UInt8} : (VV.str a).cells = [(VV.str a)] := byRfl rfl
theorem nt_nilp  : (VV.nilp ).noTup = true := byRfl rfl
theorem st0_nilp  : (VV.nilp ).strip0 = (VV.nilp ) := byRfl rfl
theorem st_nilp  : (VV.nilp ).strip = (VV.nilp ) := byRfl rfl
theorem ic_nilp  : (VV.nilp ).isCell = true := byRfl rfl
theorem stT_nilp  : (VV.nilp ).stripT = (VV.nilp ) := byRfl rfl
theorem ce_nilp  : (VV.nilp ).cells = [(VV.nilp )] := byRfl rfl
theorem nt_ptr {a b : Nat} : (VV.ptr a b).noTup = true := byRfl rfl
theorem st0_ptr {a b : Nat} : (VV.ptr a b).strip0 = (VV.ptr a b) := byRfl rfl
theorem st_ptr {a b : Nat} : (VV.ptr a b).strip = (VV.ptr a b) := byRfl rfl
theorem ic_ptr {a b : Nat} : (VV.ptr a b).isCell = true := byRfl rfl
theorem stT_ptr {a b : Nat} : (VV.ptr a b).stripT = (VV.ptr a b) := byRfl rfl
theorem ce_ptr {a b : Nat} : (VV.ptr a b).cells = [(VV.ptr a b)] := byRfl rfl
theorem nt_pim {a : List VV} {b : Nat} : (VV.pim a b).noTup = true := byRfl rfl
theorem st0_pim {a : List VV} {b : Nat} : (VV.pim a b).strip0 = (VV.pim a b) := byRfl rfl
theorem st_pim {a : List VV} {b : Nat} : (VV.pim a b).strip = (VV.pim a b) := byRfl rfl
theorem ic_pim {a : List VV} {b : Nat} : (VV.pim a b).isCell = true := byRfl rfl
theorem stT_pim {a : List VV} {b : Nat} : (VV.pim a b).stripT = (VV.pim a b) := byRfl rfl
theorem ce_pim {a : List VV} {b : Nat} : (VV.pim a b).cells = [(VV.pim a b)] := byRfl rfl
theorem nt_nils  : (VV.nils ).noTup = true := byRfl rfl
theorem st0_nils  : (VV.nils ).strip0 = (VV.sl [] 0) := byRfl rfl
theorem st_nils  : (VV.nils ).strip = (VV.sl [] 0) := byRfl rfl
theorem ic_nils  : (VV.nils ).isCell = true := byRfl rfl
theorem stT_nils  : (VV.nils ).stripT = (VV.sl [] 0) := byRfl rfl
theorem ce_nils  : (VV.nils ).cells = [(VV.nils )] := byRfl rfl
theorem nt_sl {a : List VV} {b : Nat} : (VV.sl a b).noTup = true := byRfl rfl
theorem st0_sl {a : List VV} {b : Nat} : (VV.sl a b).strip0 = (VV.sl a 0) := byRfl rfl
theorem st_sl {a : List VV} {b : Nat} : (VV.sl a b).strip = (VV.sl a 0) := byRfl rfl
theorem ic_sl {a : List VV} {b : Nat} : (VV.sl a b).isCell = true := byRfl rfl
theorem stT_sl {a : List VV} {b : Nat} : (VV.sl a b).stripT = (VV.sl a 0) := byRfl rfl
theorem ce_sl {a : List VV} {b : Nat} : (VV.sl a b).cells = [(VV.sl a b)] := byRfl rfl
theorem nt_row {a b c : Nat} : (VV.row a b c).noTup = true := byRfl rfl
theorem st0_row {a b c : Nat} : (VV.row a b c).strip0 = (VV.row a b c) := byRfl rfl
theorem st_row {a b c : Nat} : (VV.row a b c).strip = (VV.row a b c) := byRfl rfl
theorem ic_row {a b c : Nat} : (VV.row a b c).isCell = true := byRfl rfl
theorem stT_row {a b c : Nat} : (VV.row a b c).stripT = (VV.row a b c) := byRfl rfl
theorem ce_row {a b c : Nat} : (VV.row a b c).cells = [(VV.row a b c)] := byRfl rfl
theorem nt_nilm  : (VV.nilm ).noTup = true := byRfl rfl
theorem st0_nilm  : (VV.nilm ).strip0 = (VV.nilm ) := byRfl rfl
theorem st_nilm  : (VV.nilm ).strip = (VV.nilm ) := byRfl rfl
theorem ic_nilm  : (VV.nilm ).isCell = true := byRfl rfl
theorem stT_nilm  : (VV.nilm ).stripT = (VV.nilm ) := byRfl rfl
theorem ce_nilm  : (VV.nilm ).cells = [(VV.nilm )] := byRfl rfl
theorem nt_mp {a : Nat} : (VV.mp a).noTup = true := byRfl rfl
theorem st0_mp {a : Nat} : (VV.mp a).strip0 = (VV.mp a) := byRfl rfl
theorem st_mp {a : Nat} : (VV.mp a).strip = (VV.mp a) := byRfl rfl
theorem ic_mp {a : Nat} : (VV.mp a).isCell = true := byRfl rfl
theorem stT_mp {a : Nat} : (VV.mp a).stripT = (VV.mp a) := byRfl rfl
theorem ce_mp {a : Nat} : (VV.mp a).cells = [(VV.mp a)] := byRfl rfl
theorem nt_nilf  : (VV.nilf ).noTup = true := byRfl rfl
theorem st0_nilf  : (VV.nilf ).strip0 = (VV.nilf ) := byRfl rfl
theorem st_nilf  : (VV.nilf ).strip = (VV.nilf ) := byRfl rfl
theorem ic_nilf  : (VV.nilf ).isCell = true := byRfl rfl
theorem stT_nilf  : (VV.nilf ).stripT = (VV.nilf ) := byRfl rfl
theorem ce_nilf  : (VV.nilf ).cells = [(VV.nilf )] := byRfl rfl
theorem nt_fn {a : Nat} {b : List VV} : (VV.fn a b).noTup = true := byRfl rfl
theorem st0_fn {a : Nat} {b : List VV} : (VV.fn a b).strip0 = (VV.fn a b) := byRfl rfl
theorem st_fn {a : Nat} {b : List VV} : (VV.fn a b).strip = (VV.fn a b) := byRfl rfl
theorem ic_fn {a : Nat} {b : List VV} : (VV.fn a b).isCell = true := byRfl rfl
theorem stT_fn {a : Nat} {b : List VV} : (VV.fn a b).stripT = (VV.fn a b) := byRfl rfl
theorem ce_fn {a : Nat} {b : List VV} : (VV.fn a b).cells = [(VV.fn a b)] := byRfl rfl
theorem nt_yld {a : Nat} : (VV.yld a).noTup = true := byRfl rfl
theorem st0_yld {a : Nat} : (VV.yld a).strip0 = (VV.yld a) := byRfl rfl
theorem st_yld {a : Nat} : (VV.yld a).strip = (VV.yld a) := byRfl rfl
theorem ic_yld {a : Nat} : (VV.yld a).isCell = true := byRfl rfl
theorem stT_yld {a : Nat} : (VV.yld a).stripT = (VV.yld a) := byRfl rfl
theorem ce_yld {a : Nat} : (VV.yld a).cells = [(VV.yld a)] := byRfl rfl
theorem nt_it {a : Nat} : (VV.it a).noTup = true := byRfl rfl
theorem st0_it {a : Nat} : (VV.it a).strip0 = (VV.it a) := byRfl rfl
theorem st_it {a : Nat} : (VV.it a).strip = (VV.it a) := byRfl rfl
theorem ic_it {a : Nat} : (VV.it a).isCell = true := byRfl rfl
theorem stT_it {a : Nat} : (VV.it a).stripT = (VV.it a) := byRfl rfl
theorem ce_it {a : Nat} : (VV.it a).cells = [(VV.it a)] := byRfl rfl
theorem nt_agg {a : List VV} : (VV.agg a).noTup = true := byRfl rfl
theorem nt_tup {a : List VV} : (VV.tup a).noTup = false := byRfl rfl
theorem st_agg' {a : List VV} : (VV.agg a).strip = .agg (a.map VV.strip0) := byRfl rfl
theorem stT_agg {a : List VV} : (VV.agg a).stripT = .agg (a.map VV.strip0) := byRfl rfl
theorem stT_tup {a : List VV} : (VV.tup a).stripT = .tup (a.map VV.strip) := byRfl rfl
theorem ce_agg {a : List VV} : (VV.agg a).cells = a := byRfl rfl
def OwnK (P : Program) (v : VV) (s sz : Nat) (c : VC) (st : St) (K : Ex → St → Prop) : Prop := match v with
  | .nils => 0 < sz ∧ Wp P c { st with env := put st.env s (.sl [] (st.ob.length + 2)), ob := st.ob ++ [.tok 0 sz] } K
  | _ => False
theorem e_own {P : Program} {K : Ex → St → Prop} {st : St} {s sz : Nat} {c : VC} : Wp P (.own s none sz c) st K = OwnK P (get st.env s) s sz c st K := by
  simp only [Wp, ownW, OwnK]
  cases get st.env s <;> (by_cases h : sz = 0) <;> simp [h]
  intro; omega
theorem own_nils {P : Program} {K : Ex → St → Prop} {st : St} {s sz : Nat} {c : VC} : OwnK P .nils s (sz + 1) c st K = Wp P c { st with env := put st.env s (.sl [] (st.ob.length + 2)), ob := st.ob ++ [.tok 0 (sz + 1)] } K := by
  simp [OwnK]
/-- a loop's end of round -/
def loopK (K : Ex → St → Prop) (Q : St → Prop) : Ex → St → Prop
  | .nrm, st => Q st
  | .ext id, st => K (.ext id) st
  | .ret, st => K .ret st
theorem loopK_nrm {K : Ex → St → Prop} {st : St} {Q : St → Prop} : loopK K Q .nrm st = Q st := byRfl rfl
theorem loopK_ext {K : Ex → St → Prop} {st : St} {Q : St → Prop} {id : Nat} : loopK K Q (.ext id) st = K (.ext id) st := byRfl rfl
theorem loopK_ret {K : Ex → St → Prop} {st : St} {Q : St → Prop} : loopK K Q .ret st = K .ret st := byRfl rfl

/-- what a round leaves, told at the loop's head -/
def nextI {α : Type} (s : List Nat) (n : Nat) (base : Nat) (marks : List Nat) (good : α → Prop) (m : α → Nat) (E : α → List (Nat × VV)) (O : α → List Obj) (a : α) (st : St) : Prop :=
  ∃ a', good a' ∧ m a' < m a ∧ keepE st.env s = E a' ∧ st.ob.take n = O a' ∧ st.base = base ∧ st.marks = marks

theorem v_for {P : Program} {c : VC} {K : Ex → St → Prop} {s : List Nat} {k : Nat} {α : Type} {base : Nat} {marks : List Nat} (good : α → Prop) (m : α → Nat) (E : α → List (Nat × VV)) (O : α → List Obj)
    (hi : ∀ a, good a → (E a).all (fun p => p.2.ids (base + k)) = true ∧ (O a).all (Obj.idsB (base + k)) = true ∧ (O a).length = base + k) (hm : marks.all (fun o => decide (o < base + k)) = true)
    (h : ∀ a, good a → Wp P c ⟨⟨E a, O a⟩, base, marks⟩ (loopK K (nextI s (base + k) base marks good m E O a))) :
    ∀ a st, good a → keepE st.env s = E a → st.ob.take (base + k) = O a → st.base = base → st.marks = marks → Wp P (.loop (.drop s (some k) c)) st K := by
  intro a st g h1 h2 h3 h4
  refine v_loop (fun a st => good a ∧ keepE st.env s = E a ∧ st.ob.take (base + k) = O a ∧ st.base = base ∧ st.marks = marks) m ?_ a st ⟨g, h1, h2, h3, h4⟩
  rintro a ⟨⟨env, ob⟩, base', marks'⟩ ⟨g, h1, h2, rfl, rfl⟩
  simp only at h1 h2 h ⊢
  obtain ⟨i1, i2, i3⟩ := hi a g
  refine w_drop ?_ hm (by rw [h1]; exact i1) (by rw [h2]; exact i2) ?_
  · have := congrArg List.length h2
    rw [List.length_take, i3] at this
    show base' + k ≤ ob.length
    have hh := Nat.min_le_right (base' + k) ob.length
    rw [this] at hh
    exact hh
  · simp only [h1, h2]
    refine wp_mono _ _ _ (fun e s' hs => ?_) (h a g)
    cases e with
    | nrm => obtain ⟨a', q1, q2, q3, q4, q5, q6⟩ := hs; exact ⟨a', ⟨q1, q3, q4, q5, q6⟩, q2⟩
    | ext id => exact hs
    | ret => exact hs

/- what a run of V takes: one set for simp -/
attribute [go_sem] and_true implies_true fillE fillV hdSz List.replicate_succ List.replicate_zero e_own own_nils nt_int st0_int st_int ic_int stT_int ce_int nt_bool st0_bool st_bool ic_bool stT_bool ce_bool nt_str st0_str st_str ic_str stT_str ce_str nt_nilp st0_nilp st_nilp ic_nilp stT_nilp ce_nilp nt_ptr st0_ptr st_ptr ic_ptr stT_ptr ce_ptr nt_pim st0_pim st_pim ic_pim stT_pim ce_pim nt_nils st0_nils st_nils ic_nils stT_nils ce_nils nt_sl st0_sl st_sl ic_sl stT_sl ce_sl nt_row st0_row st_row ic_row stT_row ce_row nt_nilm st0_nilm st_nilm ic_nilm stT_nilm ce_nilm nt_mp st0_mp st_mp ic_mp stT_mp ce_mp nt_nilf st0_nilf st_nilf ic_nilf stT_nilf ce_nilf nt_fn st0_fn st_fn ic_fn stT_fn ce_fn nt_yld st0_yld st_yld ic_yld stT_yld ce_yld nt_it st0_it st_it ic_it stT_it ce_it nt_agg nt_tup st_agg' stT_agg stT_tup ce_agg loopK_nrm loopK_ext loopK_ret VV.ids idsL Nat.zero_lt_succ decide_true e_if if_t if_f List.cons_append List.getD_cons_succ List.drop_succ_cons List.take_succ_cons List.take_zero Nat.add_zero reduceCtorEq Nat.reduceAdd Nat.reduceMul Nat.reduceSub Nat.reduceEqDiff Nat.reduceLT Nat.reduceLeDiff Nat.reduceBEq Int.reduceAdd Int.reduceToNat Int.reduceLE Int.reduceLT box_agg box_int box_bool box_str box_sl box_nils box_fn box_nilf box_mp box_yld keepE get_put e_grd e_grdD g_tt g_ff g_tf g_ft g_tup gd_tt gd_ff gd_tf gd_ft gd_tup  e_call e_callD evk_some ow_mov od_mov ow_pick od_pick ow_alloc od_alloc ow_box od_box ow_build od_build ow_bsl od_bsl ow_load od_load ow_store od_store ow_nilck od_nilck ow_bin od_bin ow_un od_un ow_cvi od_cvi ow_faddr od_faddr ow_fld od_fld ow_iaddr od_iaddr ow_idx od_idx ow_slc od_slc ow_ext od_ext ow_len od_len ow_app od_app ow_mm od_mm ow_mkfn od_mkfn ow_mkmap od_mkmap ow_lkp od_lkp ow_mset od_mset ow_mdel od_mdel bb1 bb2 bb3 bb4 nn1 nn2 e_regD opsD_nil opsD_cons opsDK_eq e_drop e_skip e_exit e_ret e_reg e_seq e_block contS_nrm contS_ext contS_ret contB_nrm contB_ret contB_ext nrmK_eq ops_nil ops_cons opsK_eq envA V.get putD Opd.ev VOp.ev List.contains_cons List.contains_nil List.map_cons List.map_nil if_true if_false beq_iff_eq Bool.or_false Bool.false_or List.length_map Bool.true_or Bool.or_true Bool.false_eq_true Nat.lt_irrefl Nat.zero_ne_one Ty.fits Kd.fits binV binI binS Option.map_some Int.toNat_natCast Int.natCast_nonneg List.length_cons List.length_nil deref loadV nthO List.getD_cons_zero List.nil_append List.drop_zero List.take Nat.le_refl List.all_cons List.all_nil Bool.and_true Nat.zero_add and_self setCells List.set List.getElem?_cons_zero List.getElem?_cons_succ closeM resOfL resOf Option.bind_some outR true_and
end Go.V
