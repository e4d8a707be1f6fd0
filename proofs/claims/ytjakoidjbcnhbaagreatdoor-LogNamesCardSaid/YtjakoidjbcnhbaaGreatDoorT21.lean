/- This file holds in one the texts An27; each says at its head what it proves. -/
import Derived.Test.YtjakoidjbcnhbaaGreatDoorT20
set_option linter.unusedSimpArgs false
set_option linter.unusedVariables false
section
/- The abstract machine, part 27: one rewrite an operation. -/
namespace Go.AM

section
variable {P : Program} {pol : Pol} {C : Call} {L : MBody → Body} {fn fr : Nat} {ops : Array Oper} {r : List Oper} {t : List V} {H : Heap} {d : Option Nat} {ty u : TypeId} {ps : String} {af : Array Edge} {x y z : Operand}

theorem st_nil : runOps P pol C fn fr ops [] t H = some (.normal, t, H) := rfl

theorem st_guard {op : Op} {j : Nat} {want : Bool} : runOps P pol C fn fr ops ({ dst := d, op := op, type := ty, pos := ps, after := af, guard := some (j, want) } :: r) t H =
    match ((ops[j]?).bind (·.dst)).bind (t[·]?) with
    | some (.bool b) => if b == want then runOps P pol C fn fr ops ({ dst := d, op := op, type := ty, pos := ps, after := af, guard := none } :: r) t H else runOps P pol C fn fr ops r (putT t d nov) H
    | some (.tuple []) => runOps P pol C fn fr ops r (putT t d nov) H
    | _ => none := by
  have e : wantedV ops t { dst := d, op := op, type := ty, pos := ps, after := af, guard := some (j, want) } = match ((ops[j]?).bind (·.dst)).bind (t[·]?) with
    | some (.bool b) => some (b == want)
    | some (.tuple []) => some false
    | _ => none := rfl
  simp only [runOps, e]
  generalize ((ops[j]?).bind (·.dst)).bind (t[·]?) = s
  cases s with
  | none => rfl
  | some v =>
    cases v with
    | bool b => cases b <;> cases want <;> rfl
    | tuple l => cases l <;> rfl
    | _ => rfl

theorem st_val {op : Op} {X : Option V} (h : evOp P (pol.mt fn) fr (hget H) (rho t) { dst := d, op := op, type := ty, pos := ps, after := af, guard := none } = X.map fun v => .val v none) :
    runOps P pol C fn fr ops ({ dst := d, op := op, type := ty, pos := ps, after := af, guard := none } :: r) t H = X.bind fun v => runOps P pol C fn fr ops r (putT t d v) H := by
  simp only [runOps, wantedV, opOne, h]
  cases X <;> rfl

theorem st_step {op : Op} {v : V} {w : Option (Nat × Nat × O)} (h : evOp P (pol.mt fn) fr (hget H) (rho t) { dst := d, op := op, type := ty, pos := ps, after := af, guard := none } = some (.val v w)) :
    runOps P pol C fn fr ops ({ dst := d, op := op, type := ty, pos := ps, after := af, guard := none } :: r) t H = runOps P pol C fn fr ops r (putT t d v) (wr H w) := by
  simp only [runOps, wantedV, opOne, h]

theorem st_pure {op : Op} {v : V} (h : evOp P (pol.mt fn) fr (hget H) (rho t) { dst := d, op := op, type := ty, pos := ps, after := af, guard := none } = some (.val v none)) :
    runOps P pol C fn fr ops ({ dst := d, op := op, type := ty, pos := ps, after := af, guard := none } :: r) t H = runOps P pol C fn fr ops r (putT t d v) H := by
  simp only [runOps, wantedV, opOne, h, wr]

theorem st_move : runOps P pol C fn fr ops ({ dst := d, op := .move x, type := ty, pos := ps, after := af, guard := none } :: r) t H = runOps P pol C fn fr ops r (putT t d (rho t x)) H := st_pure rfl
theorem st_assign : runOps P pol C fn fr ops ({ dst := d, op := .assign x, type := ty, pos := ps, after := af, guard := none } :: r) t H = runOps P pol C fn fr ops r (putT t d (rho t x)) H := st_pure rfl
theorem st_pick {c : Operand} {b : Bool} (h : rho t c = .bool b) : runOps P pol C fn fr ops ({ dst := d, op := .pick c x y, type := ty, pos := ps, after := af, guard := none } :: r) t H =
    runOps P pol C fn fr ops r (putT t d (if b then rho t x else rho t y)) H := st_pure (by simp only [evOp, h])
theorem st_build {qs : Array (Nat × Operand)} : runOps P pol C fn fr ops ({ dst := d, op := .build u qs, type := ty, pos := ps, after := af, guard := none } :: r) t H =
    (buildV P u (qs.toList.map fun p => (p.1, rho t p.2))).bind fun v => runOps P pol C fn fr ops r (putT t d v) H := st_val rfl
theorem st_binOp {op : BinOp} {e : TypeId} : runOps P pol C fn fr ops ({ dst := d, op := .binOp op u x y e, type := ty, pos := ps, after := af, guard := none } :: r) t H =
    (binV P op u x y (rho t x) (rho t y)).bind fun v => runOps P pol C fn fr ops r (putT t d v) H := st_val rfl
theorem st_unOp {op : UnOp} : runOps P pol C fn fr ops ({ dst := d, op := .unOp op u x, type := ty, pos := ps, after := af, guard := none } :: r) t H =
    (unV op (rho t x)).bind fun v => runOps P pol C fn fr ops r (putT t d v) H := st_val rfl
theorem st_indexAddr : runOps P pol C fn fr ops ({ dst := d, op := .indexAddr u x y, type := ty, pos := ps, after := af, guard := none } :: r) t H =
    (indexAddrV P u (rho t x) (rho t y)).bind fun v => runOps P pol C fn fr ops r (putT t d v) H := st_val rfl
theorem st_index : runOps P pol C fn fr ops ({ dst := d, op := .index u x y, type := ty, pos := ps, after := af, guard := none } :: r) t H =
    (indexV P u (rho t x) (rho t y)).bind fun v => runOps P pol C fn fr ops r (putT t d v) H := st_val rfl
theorem st_slice {lo hi mx : Option Operand} : runOps P pol C fn fr ops ({ dst := d, op := .slice u x lo hi mx, type := ty, pos := ps, after := af, guard := none } :: r) t H =
    (sliceV P (hget H) u (rho t x) (lo.map (rho t)) (hi.map (rho t)) (mx.map (rho t))).bind fun v => runOps P pol C fn fr ops r (putT t d v) H := st_val rfl
theorem st_lookup {ok : Bool} : runOps P pol C fn fr ops ({ dst := d, op := .lookup u x y ok, type := ty, pos := ps, after := af, guard := none } :: r) t H =
    (lookupV P (hget H) u (rho t x) (rho t y) ok).bind fun v => runOps P pol C fn fr ops r (putT t d v) H := st_val rfl
theorem st_extract {i : Nat} : runOps P pol C fn fr ops ({ dst := d, op := .extract x i, type := ty, pos := ps, after := af, guard := none } :: r) t H =
    ((match rho t x with | .tuple vs => vs[i]? | _ => none).bind fun v => runOps P pol C fn fr ops r (putT t d v) H) := st_val (by
      simp only [evOp]; cases rho t x <;> rfl)
theorem st_load : runOps P pol C fn fr ops ({ dst := d, op := .load u x, type := ty, pos := ps, after := af, guard := none } :: r) t H =
    ((match rho t x with
      | .ptr f s o => (match hget H f s with
        | some (.cells xs) => readAt P u xs o
        | _ => none)
      | .iptr cs o => readAt P u cs o
      | .rptr cs o => readAt P u cs o
      | _ => none).bind fun v => runOps P pol C fn fr ops r (putT t d v) H) := st_val (by
      simp only [evOp]; cases rho t x <;> first | rfl | skip
      rename_i f s o
      simp only
      cases hget H f s with
      | none => rfl
      | some q => cases q <;> rfl)
theorem st_makeFunc {f : Fn} {a c : Array Operand} : runOps P pol C fn fr ops ({ dst := d, op := .makeFunc f a c, type := ty, pos := ps, after := af, guard := none } :: r) t H =
    runOps P pol C fn fr ops r (putT t d (.func f (a.toList.map (rho t)) (c.toList.map (rho t)))) H := st_pure rfl
theorem st_other {op : Op} : runOps P pol C fn fr ops ({ dst := d, op := op, type := ty, pos := ps, after := af, guard := none } :: r) t H =
    match evOp P (pol.mt fn) fr (hget H) (rho t) { dst := d, op := op, type := ty, pos := ps, after := af, guard := none } with
    | some (.val v w) => runOps P pol C fn fr ops r (putT t d v) (wr H w)
    | some (.panic v) => some (.panic v, t, H)
    | some (.call f args) => (match callOp pol C fn fr d f args H with
      | some (.ret v, H') => runOps P pol C fn fr ops r (putT t d v) H'
      | some (.pan v, H') => some (.panic v, t, H')
      | none => none)
    | some (.round f s args) => (match C none (.yield f s :: args) H with
      | some (.ret v, H') => runOps P pol C fn fr ops r (putT t d v) H'
      | _ => none)
    | none => none := by
  simp only [runOps, wantedV, opOne]
  cases evOp P (pol.mt fn) fr (hget H) (rho t) { dst := d, op := op, type := ty, pos := ps, after := af, guard := none } with
  | none => rfl
  | some s =>
    cases s with
    | val v w => rfl
    | panic v => rfl
    | call f args =>
      simp only
      cases callOp pol C fn fr d f args H with
      | none => rfl
      | some q => obtain ⟨q, H'⟩ := q; cases q <;> rfl
    | round f s args =>
      simp only
      cases C none (.yield f s :: args) H with
      | none => rfl
      | some q => obtain ⟨q, H'⟩ := q; cases q <;> rfl

theorem st_call {f : FuncId} {a : Array Operand} {ts : Array TypeId} : runOps P pol C fn fr ops ({ dst := d, op := .call { callee := .value (.func f), args := a, argTypes := ts }, type := ty, pos := ps, after := af, guard := none } :: r) t H =
    match callOp pol C fn fr d f (a.toList.map (rho t)) H with
    | some (.ret v, H') => runOps P pol C fn fr ops r (putT t d v) H'
    | some (.pan v, H') => some (.panic v, t, H')
    | none => none := by
  rw [st_other]
  simp only [evOp, rho, List.nil_append, List.append_nil]

/-! ### Code: what is still to be done, as a list -/

inductive It where
  | code (c : Code)
  | ops (a : Array Oper) (l : List Oper)
  | opsT (a : Array Oper) (l : List Oper) (T : List FP)
  | block (id : Nat)

def U (P : Program) (pol : Pol) (C : Call) (L : MBody → Body) (fn fr : Nat) : List It → Ex → List V → Heap → Out
  | [], e, t, H => some (e, t, H)
  | .code c :: k, e, t, H => (match e with
    | .normal => (exec P pol C L fn fr c t H).bind fun x => U P pol C L fn fr k x.1 x.2.1 x.2.2
    | e => U P pol C L fn fr k e t H)
  | .ops a l :: k, e, t, H => (match e with
    | .normal => (runOps P pol C fn fr a l t H).bind fun x => U P pol C L fn fr k x.1 x.2.1 x.2.2
    | e => U P pol C L fn fr k e t H)
  | .opsT a l T :: k, e, t, H => (match e with
    | .normal => (runOpsT P pol C fn fr a l t H).bind fun x => if okT (Region.before a) (loud (T.reverse ++ x.2.2)) then U P pol C L fn fr k .normal x.1 x.2.1 else none
    | e => U P pol C L fn fr k e t H)
  | .block id :: k, e, t, H => (match e with
    | .exit i => if i = id then U P pol C L fn fr k .normal t H else U P pol C L fn fr k (.exit i) t H
    | e => U P pol C L fn fr k e t H)

section
variable {k : List It}

theorem u_start (c : Code) : exec P pol C L fn fr c t H = U P pol C L fn fr [.code c] .normal t H := by
  simp only [U]
  cases exec P pol C L fn fr c t H with
  | none => rfl
  | some x => rfl

theorem u_nil {e : Ex} : U P pol C L fn fr [] e t H = some (e, t, H) := rfl
theorem u_seq {a b : Code} : U P pol C L fn fr (.code (.seq a b) :: k) .normal t H = U P pol C L fn fr (.code a :: .code b :: k) .normal t H := by
  simp only [U, exec]
  cases exec P pol C L fn fr a t H with
  | none => rfl
  | some x => obtain ⟨e, t1, H1⟩ := x; cases e <;> rfl
theorem u_region {id : Nat} {l : List Oper} : U P pol C L fn fr (.code (.region id l.toArray false) :: k) .normal t H = U P pol C L fn fr (.ops l.toArray l :: k) .normal t H := by
  simp only [U, exec, Bool.false_eq_true, if_false]
theorem u_draw {id : Nat} {l : List Oper} : U P pol C L fn fr (.code (.region id l.toArray true) :: k) .normal t H = U P pol C L fn fr (.opsT l.toArray l [] :: k) .normal t H := by
  simp only [U, exec, if_true]
  cases runOpsT P pol C fn fr l.toArray l t H with
  | none => rfl
  | some x =>
    obtain ⟨t1, H1, T1⟩ := x
    by_cases h : okT (Region.before l.toArray) (loud T1) = true
    · simp [h]
    · simp [h]
theorem u_ops_nil {a : Array Oper} : U P pol C L fn fr (.ops a [] :: k) .normal t H = U P pol C L fn fr k .normal t H := rfl
theorem u_opsT_nil {a : Array Oper} {T : List FP} : U P pol C L fn fr (.opsT a [] T :: k) .normal t H = if okT (Region.before a) (loud T.reverse) then U P pol C L fn fr k .normal t H else none := by
  simp only [U, runOpsT, Option.bind_some, List.append_nil]
theorem u_skip : U P pol C L fn fr (.code .skip :: k) .normal t H = U P pol C L fn fr k .normal t H := rfl
theorem u_ret : U P pol C L fn fr (.code .ret :: k) .normal t H = U P pol C L fn fr k .ret t H := rfl
theorem u_exit {id : Nat} : U P pol C L fn fr (.code (.exit id) :: k) .normal t H = U P pol C L fn fr k (.exit id) t H := rfl
theorem u_code_ret {c : Code} : U P pol C L fn fr (.code c :: k) .ret t H = U P pol C L fn fr k .ret t H := rfl
theorem u_code_exit {c : Code} {i : Nat} : U P pol C L fn fr (.code c :: k) (.exit i) t H = U P pol C L fn fr k (.exit i) t H := rfl
theorem u_code_panic {c : Code} {v : V} : U P pol C L fn fr (.code c :: k) (.panic v) t H = U P pol C L fn fr k (.panic v) t H := rfl
theorem u_block_normal {i : Nat} : U P pol C L fn fr (.block i :: k) .normal t H = U P pol C L fn fr k .normal t H := rfl
theorem u_block_ret {i : Nat} : U P pol C L fn fr (.block i :: k) .ret t H = U P pol C L fn fr k .ret t H := rfl
theorem u_block_panic {i : Nat} {v : V} : U P pol C L fn fr (.block i :: k) (.panic v) t H = U P pol C L fn fr k (.panic v) t H := rfl
theorem u_block_exit {i j : Nat} : U P pol C L fn fr (.block i :: k) (.exit j) t H = if j = i then U P pol C L fn fr k .normal t H else U P pol C L fn fr k (.exit j) t H := rfl
theorem u_block {id : Nat} {b : Code} : U P pol C L fn fr (.code (.block id b) :: k) .normal t H = U P pol C L fn fr (.code b :: .block id :: k) .normal t H := by
  simp only [U, exec]
  cases exec P pol C L fn fr b t H with
  | none => rfl
  | some x =>
    obtain ⟨e, t1, H1⟩ := x
    cases e <;> first | rfl | (simp only [Option.bind_some]; split <;> rfl)
theorem u_cond {c : Operand} {a b : Code} {v : Bool} (h : rho t c = .bool v) : U P pol C L fn fr (.code (.cond c a b) :: k) .normal t H = if v then U P pol C L fn fr (.code a :: k) .normal t H else U P pol C L fn fr (.code b :: k) .normal t H := by
  simp only [U, exec, h]
  cases v <;> rfl

def loopsOf : Code → List Code
  | .seq a b => loopsOf a ++ loopsOf b
  | .cond _ a b => loopsOf a ++ loopsOf b
  | .block _ b => loopsOf b
  | .loop b => b :: loopsOf b
  | _ => []

def round (P : Program) (pol : Pol) (C : Call) (L : MBody → Body) (fn fr : Nat) (b : Code) : MBody := fun t H => match forget pol fn fr (fstRegion b) t H with
  | some (t, H) => (match headNext b with
    | none => [exec P pol C L fn fr b t H]
    | some x => (match nextC (hget H) (rho t x) with
      | some cs => cs.map fun c => execF P pol C L fn fr b c.1 c.2 t H
      | none => [none]))
  | none => [none]
theorem u_loop {b : Code} : U P pol C L fn fr (.code (.loop b) :: k) .normal t H = (L (round P pol C L fn fr b) t H).bind fun x => U P pol C L fn fr k x.1 x.2.1 x.2.2 := rfl

/-! One operation. -/

theorem u_op {a : Array Oper} {o : Oper} (hw : wantedV a t o = some true) : U P pol C L fn fr (.ops a (o :: r) :: k) .normal t H =
    (opOne P pol C fn fr t H o).bind fun x => U P pol C L fn fr (match x.1 with | .normal => .ops a r :: k | _ => k) x.1 x.2.1 x.2.2 := by
  simp only [U, runOps, hw]
  cases opOne P pol C fn fr t H o with
  | none => rfl
  | some x => obtain ⟨e, t1, H1⟩ := x; cases e <;> rfl

theorem u_guard {a : Array Oper} {op : Op} {j : Nat} {want b : Bool} (h : ((a[j]?).bind (·.dst)).bind (t[·]?) = some (.bool b)) :
    U P pol C L fn fr (.ops a ({ dst := d, op := op, type := ty, pos := ps, after := af, guard := some (j, want) } :: r) :: k) .normal t H =
      if b = want then U P pol C L fn fr (.ops a ({ dst := d, op := op, type := ty, pos := ps, after := af, guard := none } :: r) :: k) .normal t H else U P pol C L fn fr (.ops a r :: k) .normal (putT t d nov) H := by
  simp only [U]
  rw [st_guard, h]
  simp only
  cases b <;> cases want <;> rfl


theorem u_bind {a : Array Oper} {o : Oper} {X : Option V} (h : runOps P pol C fn fr a (o :: r) t H = X.bind fun v => runOps P pol C fn fr a r (putT t d v) H) :
    U P pol C L fn fr (.ops a (o :: r) :: k) .normal t H = X.bind fun v => U P pol C L fn fr (.ops a r :: k) .normal (putT t d v) H := by
  simp only [U, h]
  cases X <;> rfl
theorem u_plain {a : Array Oper} {o : Oper} {v : V} {H' : Heap} (h : runOps P pol C fn fr a (o :: r) t H = runOps P pol C fn fr a r (putT t d v) H') :
    U P pol C L fn fr (.ops a (o :: r) :: k) .normal t H = U P pol C L fn fr (.ops a r :: k) .normal (putT t d v) H' := by
  simp only [U, h]
theorem u_move {a : Array Oper}   : U P pol C L fn fr (.ops a ({ dst := d, op := .move x, type := ty, pos := ps, after := af, guard := none } :: r) :: k) .normal t H =
    U P pol C L fn fr (.ops a r :: k) .normal (putT t d (rho t x)) H := u_plain st_move
theorem u_assign {a : Array Oper}   : U P pol C L fn fr (.ops a ({ dst := d, op := .assign x, type := ty, pos := ps, after := af, guard := none } :: r) :: k) .normal t H =
    U P pol C L fn fr (.ops a r :: k) .normal (putT t d (rho t x)) H := u_plain st_assign
theorem u_pick {a : Array Oper} {c : Operand} {b : Bool} (h : rho t c = .bool b) : U P pol C L fn fr (.ops a ({ dst := d, op := .pick c x y, type := ty, pos := ps, after := af, guard := none } :: r) :: k) .normal t H =
    U P pol C L fn fr (.ops a r :: k) .normal (putT t d (if b then rho t x else rho t y)) H := u_plain (st_pick h)
theorem u_makeFunc {a : Array Oper} {f : Fn} {q c : Array Operand}  : U P pol C L fn fr (.ops a ({ dst := d, op := .makeFunc f q c, type := ty, pos := ps, after := af, guard := none } :: r) :: k) .normal t H =
    U P pol C L fn fr (.ops a r :: k) .normal (putT t d (.func f (q.toList.map (rho t)) (c.toList.map (rho t)))) H := u_plain st_makeFunc
theorem u_build {a : Array Oper} {qs : Array (Nat × Operand)} : U P pol C L fn fr (.ops a ({ dst := d, op := .build u qs, type := ty, pos := ps, after := af, guard := none } :: r) :: k) .normal t H =
    (buildV P u (qs.toList.map fun p => (p.1, rho t p.2))).bind fun v => U P pol C L fn fr (.ops a r :: k) .normal (putT t d v) H := u_bind st_build
theorem u_binOp {a : Array Oper} {op : BinOp} {e : TypeId} : U P pol C L fn fr (.ops a ({ dst := d, op := .binOp op u x y e, type := ty, pos := ps, after := af, guard := none } :: r) :: k) .normal t H =
    (binV P op u x y (rho t x) (rho t y)).bind fun v => U P pol C L fn fr (.ops a r :: k) .normal (putT t d v) H := u_bind st_binOp
theorem u_unOp {a : Array Oper} {op : UnOp} : U P pol C L fn fr (.ops a ({ dst := d, op := .unOp op u x, type := ty, pos := ps, after := af, guard := none } :: r) :: k) .normal t H =
    (unV op (rho t x)).bind fun v => U P pol C L fn fr (.ops a r :: k) .normal (putT t d v) H := u_bind st_unOp
theorem u_indexAddr {a : Array Oper}  : U P pol C L fn fr (.ops a ({ dst := d, op := .indexAddr u x y, type := ty, pos := ps, after := af, guard := none } :: r) :: k) .normal t H =
    (indexAddrV P u (rho t x) (rho t y)).bind fun v => U P pol C L fn fr (.ops a r :: k) .normal (putT t d v) H := u_bind st_indexAddr
theorem u_index {a : Array Oper}  : U P pol C L fn fr (.ops a ({ dst := d, op := .index u x y, type := ty, pos := ps, after := af, guard := none } :: r) :: k) .normal t H =
    (indexV P u (rho t x) (rho t y)).bind fun v => U P pol C L fn fr (.ops a r :: k) .normal (putT t d v) H := u_bind st_index
theorem u_slice {a : Array Oper} {lo hi mx : Option Operand} : U P pol C L fn fr (.ops a ({ dst := d, op := .slice u x lo hi mx, type := ty, pos := ps, after := af, guard := none } :: r) :: k) .normal t H =
    (sliceV P (hget H) u (rho t x) (lo.map (rho t)) (hi.map (rho t)) (mx.map (rho t))).bind fun v => U P pol C L fn fr (.ops a r :: k) .normal (putT t d v) H := u_bind st_slice
theorem u_lookup {a : Array Oper} {ok : Bool} : U P pol C L fn fr (.ops a ({ dst := d, op := .lookup u x y ok, type := ty, pos := ps, after := af, guard := none } :: r) :: k) .normal t H =
    (lookupV P (hget H) u (rho t x) (rho t y) ok).bind fun v => U P pol C L fn fr (.ops a r :: k) .normal (putT t d v) H := u_bind st_lookup
theorem u_extract {a : Array Oper} {i : Nat} : U P pol C L fn fr (.ops a ({ dst := d, op := .extract x i, type := ty, pos := ps, after := af, guard := none } :: r) :: k) .normal t H =
    (match rho t x with | .tuple vs => vs[i]? | _ => none).bind fun v => U P pol C L fn fr (.ops a r :: k) .normal (putT t d v) H := u_bind st_extract
theorem u_load {a : Array Oper}  : U P pol C L fn fr (.ops a ({ dst := d, op := .load u x, type := ty, pos := ps, after := af, guard := none } :: r) :: k) .normal t H =
    (match rho t x with | .ptr f s o => (match hget H f s with | some (.cells xs) => readAt P u xs o | _ => none) | .iptr cs o => readAt P u cs o | .rptr cs o => readAt P u cs o | _ => none).bind fun v => U P pol C L fn fr (.ops a r :: k) .normal (putT t d v) H := u_bind st_load
theorem u_other {a : Array Oper} {op : Op} : U P pol C L fn fr (.ops a ({ dst := d, op := op, type := ty, pos := ps, after := af, guard := none } :: r) :: k) .normal t H =
    match evOp P (pol.mt fn) fr (hget H) (rho t) { dst := d, op := op, type := ty, pos := ps, after := af, guard := none } with
    | some (.val v w) => U P pol C L fn fr (.ops a r :: k) .normal (putT t d v) (wr H w)
    | some (.panic v) => U P pol C L fn fr k (.panic v) t H
    | some (.call f args) => (match callOp pol C fn fr d f args H with
      | some (.ret v, H') => U P pol C L fn fr (.ops a r :: k) .normal (putT t d v) H'
      | some (.pan v, H') => U P pol C L fn fr k (.panic v) t H'
      | none => none)
    | some (.round f s args) => (match C none (.yield f s :: args) H with
      | some (.ret v, H') => U P pol C L fn fr (.ops a r :: k) .normal (putT t d v) H'
      | _ => none)
    | none => none := by
  simp only [U]
  rw [st_other]
  cases evOp P (pol.mt fn) fr (hget H) (rho t) { dst := d, op := op, type := ty, pos := ps, after := af, guard := none } with
  | none => rfl
  | some s =>
    cases s with
    | val v w => rfl
    | panic v => rfl
    | call f args =>
      simp only
      cases callOp pol C fn fr d f args H with
      | none => rfl
      | some q => obtain ⟨q, H'⟩ := q; cases q <;> rfl
    | round f s args =>
      simp only
      cases C none (.yield f s :: args) H with
      | none => rfl
      | some q => obtain ⟨q, H'⟩ := q; cases q <;> rfl
theorem u_call {a : Array Oper} {f : FuncId} {q : Array Operand} {ts : Array TypeId} : U P pol C L fn fr (.ops a ({ dst := d, op := .call { callee := .value (.func f), args := q, argTypes := ts }, type := ty, pos := ps, after := af, guard := none } :: r) :: k) .normal t H =
    match callOp pol C fn fr d f (q.toList.map (rho t)) H with
    | some (.ret v, H') => U P pol C L fn fr (.ops a r :: k) .normal (putT t d v) H'
    | some (.pan v, H') => U P pol C L fn fr k (.panic v) t H'
    | none => none := by
  rw [u_other]
  simp only [evOp, rho, List.nil_append, List.append_nil]
/-! Without what must be found first. -/
theorem u_if {c : Operand} {a b : Code} : U P pol C L fn fr (.code (.cond c a b) :: k) .normal t H =
    match rho t c with
    | .bool v => if v = true then U P pol C L fn fr (.code a :: k) .normal t H else U P pol C L fn fr (.code b :: k) .normal t H
    | _ => none := by
  simp only [U, exec]
  cases rho t c with
  | bool v => cases v <;> rfl
  | _ => rfl
theorem u_sel {a : Array Oper} {c : Operand} : U P pol C L fn fr (.ops a ({ dst := d, op := .pick c x y, type := ty, pos := ps, after := af, guard := none } :: r) :: k) .normal t H =
    match rho t c with
    | .bool b => U P pol C L fn fr (.ops a r :: k) .normal (putT t d (if b = true then rho t x else rho t y)) H
    | _ => none := by
  cases h : rho t c with
  | bool b => exact u_pick h
  | _ => simp only [U, runOps, wantedV, opOne, evOp, h]; rfl
theorem u_when {a : Array Oper} {op : Op} {j : Nat} {want : Bool} :
    U P pol C L fn fr (.ops a ({ dst := d, op := op, type := ty, pos := ps, after := af, guard := some (j, want) } :: r) :: k) .normal t H =
      match ((a[j]?).bind (·.dst)).bind (t[·]?) with
      | some (.bool b) => if b = want then U P pol C L fn fr (.ops a ({ dst := d, op := op, type := ty, pos := ps, after := af, guard := none } :: r) :: k) .normal t H else U P pol C L fn fr (.ops a r :: k) .normal (putT t d nov) H
      | some (.tuple []) => U P pol C L fn fr (.ops a r :: k) .normal (putT t d nov) H
      | _ => none := by
  cases h : ((a[j]?).bind (·.dst)).bind (t[·]?) with
  | none => simp only [U]; rw [st_guard, h]; rfl
  | some v =>
    cases v with
    | bool b => exact u_guard h
    | tuple l => simp only [U]; rw [st_guard, h]; cases l <;> rfl
    | _ => simp only [U]; rw [st_guard, h]; rfl

end
end

section
variable {P : Program} {pol : Pol} {C : Call} {fn fr : Nat} {t : List V} {H : Heap} {u : TypeId} {x y : Operand} {k : IntKind} {m n : Int} {g : Get} {mt : Nat → Bool}

/-! ### What operations come to -/
theorem b_add : binV P .add u x y (.int k m) (.int k n) = some (.int k (k.wrap (m + n))) := by simp only [binV, binI, if_true]
theorem b_sub : binV P .sub u x y (.int k m) (.int k n) = some (.int k (k.wrap (m - n))) := by simp only [binV, binI, if_true]
theorem b_mul : binV P .mul u x y (.int k m) (.int k n) = some (.int k (k.wrap (m * n))) := by simp only [binV, binI, if_true]
theorem b_eql : binV P .eql u x y (.int k m) (.int k n) = some (.bool (m == n)) := by simp only [binV, binI, if_true]
theorem b_neq : binV P .neq u x y (.int k m) (.int k n) = some (.bool (m != n)) := by simp only [binV, binI, if_true]
theorem b_lss : binV P .lss u x y (.int k m) (.int k n) = some (.bool (decide (m < n))) := by simp only [binV, binI, if_true]
theorem b_leq : binV P .leq u x y (.int k m) (.int k n) = some (.bool (decide (m ≤ n))) := by simp only [binV, binI, if_true]
theorem b_gtr : binV P .gtr u x y (.int k m) (.int k n) = some (.bool (decide (m > n))) := by simp only [binV, binI, if_true]
theorem b_geq : binV P .geq u x y (.int k m) (.int k n) = some (.bool (decide (m ≥ n))) := by simp only [binV, binI, if_true]
theorem b_and : binV P .and u x y (.int k m) (.int k n) = binI .and k m n := by simp only [binV, if_true]
theorem b_or : binV P .or u x y (.int k m) (.int k n) = binI .or k m n := by simp only [binV, if_true]
theorem b_xor : binV P .xor u x y (.int k m) (.int k n) = binI .xor k m n := by simp only [binV, if_true]
theorem b_andNot : binV P .andNot u x y (.int k m) (.int k n) = binI .andNot k m n := by simp only [binV, if_true]
theorem b_quo : binV P .quo u x y (.int k m) (.int k n) = binI .quo k m n := by simp only [binV, if_true]
theorem b_rem : binV P .rem u x y (.int k m) (.int k n) = binI .rem k m n := by simp only [binV, if_true]
theorem b_shl {k' : IntKind} : binV P .shl u x y (.int k m) (.int k' n) = shiftI .shl k m n := rfl
theorem b_shr {k' : IntKind} : binV P .shr u x y (.int k m) (.int k' n) = shiftI .shr k m n := rfl
theorem b_sadd {a b : List UInt8} : binV P .add u x y (.str a) (.str b) = binS .add a b := rfl
theorem b_seql {a b : List UInt8} : binV P .eql u x y (.str a) (.str b) = some (.bool (a == b)) := rfl
theorem b_sneq {a b : List UInt8} : binV P .neq u x y (.str a) (.str b) = some (.bool (!(a == b))) := rfl

theorem oc_int : ofConst (.int k n) = .int k n := rfl
theorem oc_bool {b : Bool} : ofConst (.bool b) = .bool b := rfl
theorem oc_str {s : ByteArray} : ofConst (.string s) = .str s.data.toList := rfl
theorem oc_nilslice : ofConst (.slice none 0 0) = .nilslice := rfl
theorem oc_nilptr : ofConst (.pointer none) = .nilptr := rfl
theorem oc_nilmap : ofConst (.map none) = .nilmap := rfl
theorem oc_nilfunc : ofConst .nilFunc = .nilfunc := rfl
theorem oc_nilface : ofConst .nilIface = .nilface := rfl

theorem rd_of {d : TypeDesc} {q : Nat} (h : P.underlying u = some d) (hs : sz P u = some q) (ha : aggD d = false) (cs : List V) (o : Nat) : readAt P u cs o = cs[o]? := by
  simp only [readAt, h, hs, ha, Bool.false_eq_true, if_false]
theorem ia_of {e : TypeId} {q : Nat} (h : P.underlying u = some (.slice e)) (hs : sz P e = some q) (cs : List V) (len : Nat) (full : Bool) :
    indexAddrV P u (.islice cs len full) (.int k n) = if 0 ≤ n ∧ n < len ∧ cs.length = len * q ∧ 0 < q then some (.iptr cs (n.toNat * q)) else none := by
  simp only [indexAddrV, h, hs]
theorem ln_islice {e : TypeId} (h : P.underlying u = some (.slice e)) (cs : List V) (len : Nat) (full : Bool) : lenV P g u (.islice cs len full) = some (.int .i64 len) := by simp only [lenV, h]
theorem ln_nil {e : TypeId} (h : P.underlying u = some (.slice e)) : lenV P g u .nilslice = some (.int .i64 0) := by simp only [lenV, h]
theorem ln_str (h : P.underlying u = some .string) (s : List UInt8) : lenV P g u (.str s) = some (.int .i64 s.length) := by simp only [lenV, h]

theorem bi_len {ts : List TypeId} {d : Option Nat} {v : V} : builtinV P mt fr g d .len (u :: ts).toArray [v] = (lenV P g u v).map fun v => .val v none := rfl
theorem bi_max {ts : Array TypeId} {d : Option Nat} {v : V} {l : List V} : builtinV P mt fr g d .max ts (v :: l) = (minV true v l).map fun v => .val v none := by cases l <;> rfl
theorem bi_min {ts : Array TypeId} {d : Option Nat} {v : V} {l : List V} : builtinV P mt fr g d .min ts (v :: l) = (minV false v l).map fun v => .val v none := by cases l <;> rfl
theorem mx_nil {v : V} {b : Bool} : minV b v [] = some v := rfl
theorem mx_one {b : Bool} {l : List V} : minV b (.int k m) (.int k n :: l) = minV b (.int k (if b then (if n > m then n else m) else (if n < m then n else m))) l := rfl

/-! ### Forgetting -/
theorem refs_none : ∀ (v : V), v.refs (fun _ _ => false) = false := by
  intro v
  refine V.rec (motive_1 := fun v => v.refs (fun _ _ => false) = false) (motive_2 := fun l => refsL (fun _ _ => false) l = false) ?_ ?_ ?_ ?_ ?_ ?_ ?_ ?_ ?_ ?_ ?_ ?_ ?_ ?_ ?_ ?_ ?_ ?_ ?_ ?_ ?_ ?_ ?_ ?_ v <;> intros <;> simp_all [V.refs, refsL]
end
end Go.AM
end
