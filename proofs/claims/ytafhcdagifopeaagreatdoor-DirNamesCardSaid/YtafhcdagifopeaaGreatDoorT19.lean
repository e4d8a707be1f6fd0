/- This file holds in one the texts An27, An28; each says at its head what it proves. -/
import Derived.Test.YtafhcdagifopeaaGreatDoorT18
set_option linter.unusedSimpArgs false
set_option linter.unusedVariables false
section
/- The abstract machine, part 27: one rewrite an operation. -/
namespace Go.AM

section
variable {P : Program} {pol : Pol} {C : Call} {L : MBody → Body} {fn fr : Nat} {ops : Array Oper} {r : List Oper} {t : List V} {H : Heap} {d : Option Nat} {ty u : TypeId} {ps : String} {af : Array Edge} {x y z : Operand}

theorem st_guard {op : Op} {j : Nat} {want : Bool} : runOps P pol C fn fr ops ({ dst := d, op := op, type := ty, pos := ps, after := af, guard := some (j, want) } :: r) t H =
    match ((ops[j]?).bind (·.dst)).bind (t[·]?) with
    | some (.bool b) => if b == want then runOps P pol C fn fr ops ({ dst := d, op := op, type := ty, pos := ps, after := af, guard := none } :: r) t H else runOps P pol C fn fr ops r (putT t d nov) H
    | some (.tuple []) => runOps P pol C fn fr ops r (putT t d nov) H
    | _ => none := by
  have e : wantedV ops t { dst := d, op := op, type := ty, pos := ps, after := af, guard := some (j, want) } = match ((ops[j]?).bind (·.dst)).bind (t[·]?) with
    | some (.bool b) => some (b == want)
    | some (.tuple []) => some false
    | _ => none := rfl
  simp only [runOps, e]
  generalize ((ops[j]?).bind (·.dst)).bind (t[·]?) = s
  cases s with
  | none => rfl
  | some v =>
    cases v with
    | bool b => cases b <;> cases want <;> rfl
    | tuple l => cases l <;> rfl
    | _ => rfl

theorem st_other {op : Op} : runOps P pol C fn fr ops ({ dst := d, op := op, type := ty, pos := ps, after := af, guard := none } :: r) t H =
    match evOp P (pol.mt fn) fr (hget H) (rho t) { dst := d, op := op, type := ty, pos := ps, after := af, guard := none } with
    | some (.val v w) => runOps P pol C fn fr ops r (putT t d v) (wr H w)
    | some (.panic v) => some (.panic v, t, H)
    | some (.call f args) => (match callOp pol C fn fr d f args H with
      | some (.ret v, H') => runOps P pol C fn fr ops r (putT t d v) H'
      | some (.pan v, H') => some (.panic v, t, H')
      | none => none)
    | some (.round f s args) => (match C none (.yield f s :: args) H with
      | some (.ret v, H') => runOps P pol C fn fr ops r (putT t d v) H'
      | _ => none)
    | none => none := by
  simp only [runOps, wantedV, opOne]
  cases evOp P (pol.mt fn) fr (hget H) (rho t) { dst := d, op := op, type := ty, pos := ps, after := af, guard := none } with
  | none => rfl
  | some s =>
    cases s with
    | val v w => rfl
    | panic v => rfl
    | call f args =>
      simp only
      cases callOp pol C fn fr d f args H with
      | none => rfl
      | some q => obtain ⟨q, H'⟩ := q; cases q <;> rfl
    | round f s args =>
      simp only
      cases C none (.yield f s :: args) H with
      | none => rfl
      | some q => obtain ⟨q, H'⟩ := q; cases q <;> rfl

/-! ### Code: what is still to be done, as a list -/

inductive It where
  | code (c : Code)
  | ops (a : Array Oper) (l : List Oper)
  | opsT (a : Array Oper) (l : List Oper) (T : List FP)
  | block (id : Nat)

def U (P : Program) (pol : Pol) (C : Call) (L : MBody → Body) (fn fr : Nat) : List It → Ex → List V → Heap → Out
  | [], e, t, H => some (e, t, H)
  | .code c :: k, e, t, H => (match e with
    | .normal => (exec P pol C L fn fr c t H).bind fun x => U P pol C L fn fr k x.1 x.2.1 x.2.2
    | e => U P pol C L fn fr k e t H)
  | .ops a l :: k, e, t, H => (match e with
    | .normal => (runOps P pol C fn fr a l t H).bind fun x => U P pol C L fn fr k x.1 x.2.1 x.2.2
    | e => U P pol C L fn fr k e t H)
  | .opsT a l T :: k, e, t, H => (match e with
    | .normal => (runOpsT P pol C fn fr a l t H).bind fun x => if okT (Region.before a) (loud (T.reverse ++ x.2.2)) then U P pol C L fn fr k .normal x.1 x.2.1 else none
    | e => U P pol C L fn fr k e t H)
  | .block id :: k, e, t, H => (match e with
    | .exit i => if i = id then U P pol C L fn fr k .normal t H else U P pol C L fn fr k (.exit i) t H
    | e => U P pol C L fn fr k e t H)

section
variable {k : List It}

theorem u_start (c : Code) : exec P pol C L fn fr c t H = U P pol C L fn fr [.code c] .normal t H := by
  simp only [U]
  cases exec P pol C L fn fr c t H with
  | none => rfl
  | some x => rfl

theorem u_nil {e : Ex} : U P pol C L fn fr [] e t H = some (e, t, H) := rfl
theorem u_seq {a b : Code} : U P pol C L fn fr (.code (.seq a b) :: k) .normal t H = U P pol C L fn fr (.code a :: .code b :: k) .normal t H := by
  simp only [U, exec]
  cases exec P pol C L fn fr a t H with
  | none => rfl
  | some x => obtain ⟨e, t1, H1⟩ := x; cases e <;> rfl
theorem u_region {id : Nat} {l : List Oper} : U P pol C L fn fr (.code (.region id l.toArray false) :: k) .normal t H = U P pol C L fn fr (.ops l.toArray l :: k) .normal t H := by
  simp only [U, exec, Bool.false_eq_true, if_false]
theorem u_draw {id : Nat} {l : List Oper} : U P pol C L fn fr (.code (.region id l.toArray true) :: k) .normal t H = U P pol C L fn fr (.opsT l.toArray l [] :: k) .normal t H := by
  simp only [U, exec, if_true]
  cases runOpsT P pol C fn fr l.toArray l t H with
  | none => rfl
  | some x =>
    obtain ⟨t1, H1, T1⟩ := x
    by_cases h : okT (Region.before l.toArray) (loud T1) = true
    · simp [h]
    · simp [h]
theorem u_ops_nil {a : Array Oper} : U P pol C L fn fr (.ops a [] :: k) .normal t H = U P pol C L fn fr k .normal t H := rfl
theorem u_opsT_nil {a : Array Oper} {T : List FP} : U P pol C L fn fr (.opsT a [] T :: k) .normal t H = if okT (Region.before a) (loud T.reverse) then U P pol C L fn fr k .normal t H else none := by
  simp only [U, runOpsT, Option.bind_some, List.append_nil]
theorem u_skip : U P pol C L fn fr (.code .skip :: k) .normal t H = U P pol C L fn fr k .normal t H := rfl
theorem u_ret : U P pol C L fn fr (.code .ret :: k) .normal t H = U P pol C L fn fr k .ret t H := rfl
theorem u_exit {id : Nat} : U P pol C L fn fr (.code (.exit id) :: k) .normal t H = U P pol C L fn fr k (.exit id) t H := rfl
theorem u_code_ret {c : Code} : U P pol C L fn fr (.code c :: k) .ret t H = U P pol C L fn fr k .ret t H := rfl
theorem u_code_exit {c : Code} {i : Nat} : U P pol C L fn fr (.code c :: k) (.exit i) t H = U P pol C L fn fr k (.exit i) t H := rfl
theorem u_code_panic {c : Code} {v : V} : U P pol C L fn fr (.code c :: k) (.panic v) t H = U P pol C L fn fr k (.panic v) t H := rfl
theorem u_block_normal {i : Nat} : U P pol C L fn fr (.block i :: k) .normal t H = U P pol C L fn fr k .normal t H := rfl
theorem u_block_ret {i : Nat} : U P pol C L fn fr (.block i :: k) .ret t H = U P pol C L fn fr k .ret t H := rfl
theorem u_block_panic {i : Nat} {v : V} : U P pol C L fn fr (.block i :: k) (.panic v) t H = U P pol C L fn fr k (.panic v) t H := rfl
theorem u_block_exit {i j : Nat} : U P pol C L fn fr (.block i :: k) (.exit j) t H = if j = i then U P pol C L fn fr k .normal t H else U P pol C L fn fr k (.exit j) t H := rfl
theorem u_block {id : Nat} {b : Code} : U P pol C L fn fr (.code (.block id b) :: k) .normal t H = U P pol C L fn fr (.code b :: .block id :: k) .normal t H := by
  simp only [U, exec]
  cases exec P pol C L fn fr b t H with
  | none => rfl
  | some x =>
    obtain ⟨e, t1, H1⟩ := x
    cases e <;> first | rfl | (simp only [Option.bind_some]; split <;> rfl)
def round (P : Program) (pol : Pol) (C : Call) (L : MBody → Body) (fn fr : Nat) (b : Code) : MBody := fun t H => match forget pol fn fr (fstRegion b) t H with
  | some (t, H) => (match headNext b with
    | none => [exec P pol C L fn fr b t H]
    | some x => (match nextC (hget H) (rho t x) with
      | some cs => cs.map fun c => execF P pol C L fn fr b c.1 c.2 t H
      | none => [none]))
  | none => [none]
/-! One operation. -/

theorem u_guard {a : Array Oper} {op : Op} {j : Nat} {want b : Bool} (h : ((a[j]?).bind (·.dst)).bind (t[·]?) = some (.bool b)) :
    U P pol C L fn fr (.ops a ({ dst := d, op := op, type := ty, pos := ps, after := af, guard := some (j, want) } :: r) :: k) .normal t H =
      if b = want then U P pol C L fn fr (.ops a ({ dst := d, op := op, type := ty, pos := ps, after := af, guard := none } :: r) :: k) .normal t H else U P pol C L fn fr (.ops a r :: k) .normal (putT t d nov) H := by
  simp only [U]
  rw [st_guard, h]
  simp only
  cases b <;> cases want <;> rfl


theorem u_other {a : Array Oper} {op : Op} : U P pol C L fn fr (.ops a ({ dst := d, op := op, type := ty, pos := ps, after := af, guard := none } :: r) :: k) .normal t H =
    match evOp P (pol.mt fn) fr (hget H) (rho t) { dst := d, op := op, type := ty, pos := ps, after := af, guard := none } with
    | some (.val v w) => U P pol C L fn fr (.ops a r :: k) .normal (putT t d v) (wr H w)
    | some (.panic v) => U P pol C L fn fr k (.panic v) t H
    | some (.call f args) => (match callOp pol C fn fr d f args H with
      | some (.ret v, H') => U P pol C L fn fr (.ops a r :: k) .normal (putT t d v) H'
      | some (.pan v, H') => U P pol C L fn fr k (.panic v) t H'
      | none => none)
    | some (.round f s args) => (match C none (.yield f s :: args) H with
      | some (.ret v, H') => U P pol C L fn fr (.ops a r :: k) .normal (putT t d v) H'
      | _ => none)
    | none => none := by
  simp only [U]
  rw [st_other]
  cases evOp P (pol.mt fn) fr (hget H) (rho t) { dst := d, op := op, type := ty, pos := ps, after := af, guard := none } with
  | none => rfl
  | some s =>
    cases s with
    | val v w => rfl
    | panic v => rfl
    | call f args =>
      simp only
      cases callOp pol C fn fr d f args H with
      | none => rfl
      | some q => obtain ⟨q, H'⟩ := q; cases q <;> rfl
    | round f s args =>
      simp only
      cases C none (.yield f s :: args) H with
      | none => rfl
      | some q => obtain ⟨q, H'⟩ := q; cases q <;> rfl
/-! Without what must be found first. -/
theorem u_if {c : Operand} {a b : Code} : U P pol C L fn fr (.code (.cond c a b) :: k) .normal t H =
    match rho t c with
    | .bool v => if v = true then U P pol C L fn fr (.code a :: k) .normal t H else U P pol C L fn fr (.code b :: k) .normal t H
    | _ => none := by
  simp only [U, exec]
  cases rho t c with
  | bool v => cases v <;> rfl
  | _ => rfl
theorem u_when {a : Array Oper} {op : Op} {j : Nat} {want : Bool} :
    U P pol C L fn fr (.ops a ({ dst := d, op := op, type := ty, pos := ps, after := af, guard := some (j, want) } :: r) :: k) .normal t H =
      match ((a[j]?).bind (·.dst)).bind (t[·]?) with
      | some (.bool b) => if b = want then U P pol C L fn fr (.ops a ({ dst := d, op := op, type := ty, pos := ps, after := af, guard := none } :: r) :: k) .normal t H else U P pol C L fn fr (.ops a r :: k) .normal (putT t d nov) H
      | some (.tuple []) => U P pol C L fn fr (.ops a r :: k) .normal (putT t d nov) H
      | _ => none := by
  cases h : ((a[j]?).bind (·.dst)).bind (t[·]?) with
  | none => simp only [U]; rw [st_guard, h]; rfl
  | some v =>
    cases v with
    | bool b => exact u_guard h
    | tuple l => simp only [U]; rw [st_guard, h]; cases l <;> rfl
    | _ => simp only [U]; rw [st_guard, h]; rfl

end
end

section
variable {P : Program} {pol : Pol} {C : Call} {fn fr : Nat} {t : List V} {H : Heap} {u : TypeId} {x y : Operand} {k : IntKind} {m n : Int} {g : Get} {mt : Nat → Bool}

/-! ### What operations come to -/
theorem b_add : binV P .add u x y (.int k m) (.int k n) = some (.int k (k.wrap (m + n))) := by simp only [binV, binI, if_true]
theorem b_sub : binV P .sub u x y (.int k m) (.int k n) = some (.int k (k.wrap (m - n))) := by simp only [binV, binI, if_true]
theorem b_mul : binV P .mul u x y (.int k m) (.int k n) = some (.int k (k.wrap (m * n))) := by simp only [binV, binI, if_true]
theorem b_eql : binV P .eql u x y (.int k m) (.int k n) = some (.bool (m == n)) := by simp only [binV, binI, if_true]
theorem b_neq : binV P .neq u x y (.int k m) (.int k n) = some (.bool (m != n)) := by simp only [binV, binI, if_true]
theorem b_lss : binV P .lss u x y (.int k m) (.int k n) = some (.bool (decide (m < n))) := by simp only [binV, binI, if_true]
theorem b_leq : binV P .leq u x y (.int k m) (.int k n) = some (.bool (decide (m ≤ n))) := by simp only [binV, binI, if_true]
theorem b_gtr : binV P .gtr u x y (.int k m) (.int k n) = some (.bool (decide (m > n))) := by simp only [binV, binI, if_true]
theorem b_geq : binV P .geq u x y (.int k m) (.int k n) = some (.bool (decide (m ≥ n))) := by simp only [binV, binI, if_true]
theorem b_sadd {a b : List UInt8} : binV P .add u x y (.str a) (.str b) = binS .add a b := rfl
theorem b_seql {a b : List UInt8} : binV P .eql u x y (.str a) (.str b) = some (.bool (a == b)) := rfl
theorem b_sneq {a b : List UInt8} : binV P .neq u x y (.str a) (.str b) = some (.bool (!(a == b))) := rfl

theorem oc_int : ofConst (.int k n) = .int k n := rfl
theorem oc_bool {b : Bool} : ofConst (.bool b) = .bool b := rfl
theorem oc_str {s : ByteArray} : ofConst (.string s) = .str s.data.toList := rfl
theorem oc_nilslice : ofConst (.slice none 0 0) = .nilslice := rfl
theorem oc_nilptr : ofConst (.pointer none) = .nilptr := rfl
theorem oc_nilmap : ofConst (.map none) = .nilmap := rfl
theorem oc_nilfunc : ofConst .nilFunc = .nilfunc := rfl
theorem oc_nilface : ofConst .nilIface = .nilface := rfl

theorem rd_of {d : TypeDesc} {q : Nat} (h : P.underlying u = some d) (hs : sz P u = some q) (ha : aggD d = false) (cs : List V) (o : Nat) : readAt P u cs o = cs[o]? := by
  simp only [readAt, h, hs, ha, Bool.false_eq_true, if_false]
theorem ia_of {e : TypeId} {q : Nat} (h : P.underlying u = some (.slice e)) (hs : sz P e = some q) (cs : List V) (len : Nat) (full : Bool) :
    indexAddrV P u (.islice cs len full) (.int k n) = if 0 ≤ n ∧ n < len ∧ cs.length = len * q ∧ 0 < q then some (.iptr cs (n.toNat * q)) else none := by
  simp only [indexAddrV, h, hs]
theorem ln_islice {e : TypeId} (h : P.underlying u = some (.slice e)) (cs : List V) (len : Nat) (full : Bool) : lenV P g u (.islice cs len full) = some (.int .i64 len) := by simp only [lenV, h]
theorem ln_nil {e : TypeId} (h : P.underlying u = some (.slice e)) : lenV P g u .nilslice = some (.int .i64 0) := by simp only [lenV, h]
theorem bi_len {ts : List TypeId} {d : Option Nat} {v : V} : builtinV P mt fr g d .len (u :: ts).toArray [v] = (lenV P g u v).map fun v => .val v none := rfl
theorem bi_max {ts : Array TypeId} {d : Option Nat} {v : V} {l : List V} : builtinV P mt fr g d .max ts (v :: l) = (minV true v l).map fun v => .val v none := by cases l <;> rfl
theorem bi_min {ts : Array TypeId} {d : Option Nat} {v : V} {l : List V} : builtinV P mt fr g d .min ts (v :: l) = (minV false v l).map fun v => .val v none := by cases l <;> rfl
theorem mx_nil {v : V} {b : Bool} : minV b v [] = some v := rfl
theorem mx_one {b : Bool} {l : List V} : minV b (.int k m) (.int k n :: l) = minV b (.int k (if b then (if n > m then n else m) else (if n < m then n else m))) l := rfl

/-! ### Forgetting -/
theorem refs_none : ∀ (v : V), v.refs (fun _ _ => false) = false := by
  intro v
  refine V.rec (motive_1 := fun v => v.refs (fun _ _ => false) = false) (motive_2 := fun l => refsL (fun _ _ => false) l = false) ?_ ?_ ?_ ?_ ?_ ?_ ?_ ?_ ?_ ?_ ?_ ?_ ?_ ?_ ?_ ?_ ?_ ?_ ?_ ?_ ?_ ?_ ?_ ?_ v <;> intros <;> simp_all [V.refs, refsL]
end
end Go.AM
end
section
/- The abstract machine, part 28: forgetting at a loop's head, calls, in the words of the step lemmas. -/
namespace Go.AM

theorem refsL_none : ∀ (l : List V), refsL (fun _ _ => false) l = false
  | [] => rfl
  | x :: l => by simp [refsL, refs_none x, refsL_none l]
theorem refsM_none : ∀ (l : List (V × V)), refsM (fun _ _ => false) l = false
  | [] => rfl
  | (a, b) :: l => by simp [refsM, refs_none, refsM_none l]
theorem orefs_none (o : O) : o.refs (fun _ _ => false) = false := by
  cases o with
  | iter m a b c => cases m <;> rfl
  | _ => simp [O.refs, refsL_none, refsM_none]
theorem clearF_none : ∀ (f : Frame), clearF (fun _ _ => false) f = true
  | [] => rfl
  | (a, o) :: r => by simp [clearF, orefs_none, clearF_none r]
theorem clearH_none : ∀ (H : Heap), clearH (fun _ _ => false) H = true
  | [] => rfl
  | f :: r => by simp [clearH, clearF_none, clearH_none r]
theorem fdel_none : ∀ (f : Frame), fdel (fun _ => false) f = f
  | [] => rfl
  | (a, o) :: r => by simp [fdel, fdel_none r]
theorem modify_same {α : Type} (f : α → α) (h : ∀ x, f x = x) : ∀ (l : List α) (i : Nat), l.modify i f = l
  | [], i => by simp
  | x :: l, 0 => by simp [h]
  | x :: l, i + 1 => by simp [modify_same f h l i]

theorem forget_keep {pol : Pol} {fn fr r : Nat} {kt : List Nat} {t : List V} {H : Heap} (h : pol.keep fn r = some (kt, [])) (hm : pol.move fn r = none := by rfl) : forget pol fn fr r t H = some (maskT kt t 0, H) := by
  have e : (fun f s : Nat => f == fr && ([] : List Nat).contains s) = fun _ _ => false := by funext f s; simp
  have e2 : (fun s : Nat => ([] : List Nat).contains s) = fun _ => false := by funext s; simp
  unfold forget forgetK
  rw [h]
  simp only [e, e2]
  rw [refsL_none, modify_same _ fdel_none, clearH_none]
  simp only [Bool.false_eq_true, if_false, if_true, hm]

theorem forget_drop {pol : Pol} {fn fr r : Nat} {kt ds : List Nat} {t : List V} {H : Heap} (hk : pol.keep fn r = some (kt, ds)) (h1 : refsL (fun f s => f == fr && ds.contains s) (maskT kt t 0) = false) (h2 : clearH (fun f s => f == fr && ds.contains s) (H.modify fr (fdel fun s => ds.contains s)) = true) (hm : pol.move fn r = none := by rfl) :
    forget pol fn fr r t H = some (maskT kt t 0, H.modify fr (fdel fun s => ds.contains s)) := by
  simp only [forget, forgetK, hk, h1, h2, if_true, Bool.false_eq_true, if_false, hm]

section
variable {P : Program} {pol : Pol} {C : Call} {L : MBody → Body} {fn fr : Nat} {t : List V} {H : Heap}

theorem round_eq {b : Code} {t1 : List V} {H1 : Heap} (hn : headNext b = none) (h : forget pol fn fr (fstRegion b) t H = some (t1, H1)) : round P pol C L fn fr b t H = [U P pol C L fn fr [.code b] .normal t1 H1] := by
  simp only [round, h, hn]
  rw [u_start]

def ending (P : Program) (F : Func) (b : Nat) : Out → Option (Rt × Heap)
  | some (.normal, t, H) | some (.ret, t, H) => (match resV P F t H with
    | some v => some (.ret v, popF b v H)
    | none => none)
  | some (.panic v, _, H) => some (.pan v, popF b v H)
  | _ => none

theorem call_ofS {f : FuncId} {F : Func} {c : Code} {args : List V} {r : Rt × Heap} (hF : P.funcs[f]? = some F) (hc : F.body = some c)
    (h : ending P F H.length (settleO (pol.settle f) (U P pol (callW P pol) loopW f H.length [.code c] .normal (args ++ List.replicate (F.ntmps - args.length) .bad) (H ++ [[]]))) = some r) : callW P pol f args H = some r := by
  refine callW_of ?_
  show callF P pol (callW P pol) loopW f args H = some r
  unfold callF
  rw [hF]
  simp only [hc, u_start]
  rw [← h]
  rfl
theorem call_of {f : FuncId} {F : Func} {c : Code} {args : List V} {r : Rt × Heap} (hF : P.funcs[f]? = some F) (hc : F.body = some c)
    (h : ending P F H.length (U P pol (callW P pol) loopW f H.length [.code c] .normal (args ++ List.replicate (F.ntmps - args.length) .bad) (H ++ [[]])) = some r) (hs : pol.settle f = [] := by rfl) : callW P pol f args H = some r :=
  call_ofS hF hc (by rw [hs, settleO_nil]; exact h)

theorem frz_islice {g : Get} {cs : List V} {n : Nat} {b : Bool} : frz g depth (.islice cs n b) = some (.islice cs n b) := rfl
theorem frz_nilslice {g : Get} : frz g depth .nilslice = some .nilslice := rfl
theorem frz_int {g : Get} {k : IntKind} {n : Int} : frz g depth (.int k n) = some (.int k n) := rfl
theorem frz_bool {g : Get} {b : Bool} : frz g depth (.bool b) = some (.bool b) := rfl
theorem frz_str {g : Get} {s : List UInt8} : frz g depth (.str s) = some (.str s) := rfl
theorem frzL_cons {f : V → Option V} {x y : V} {l m : List V} (h : f x = some y) (h2 : frzL f l = some m) : frzL f (x :: l) = some (y :: m) := by simp only [frzL, h, h2]

theorem callOp_pure {dst : Option Nat} {f : FuncId} {args args' : List V} {v v' : V} {H' : Heap} (hp : pol.prim f = none) (hq : pol.pure fn f = true) (ha : frzL (frz (fun _ _ => none) depth) args = some args')
    (h : C f args' [] = some (.ret v, H')) (hv : frz (hget H') depth v = some v') : callOp pol C fn fr dst f args H = some (.ret v', H) := by
  simp only [callOp, hp, hq, if_true, ha, h, hv, Option.map_some]

end


section
variable {P : Program} {pol : Pol} {C : Call} {L : MBody → Body} {fn fr : Nat} {t : List V} {H : Heap} {k : List It} {r : List Oper} {d : Option Nat} {ty : TypeId} {ps : String} {af : Array Edge} {x y : Operand}

def gd (a : Array Oper) (t : List V) (j : Nat) : Option V := ((a[j]?).bind (·.dst)).bind (t[·]?)

end
end Go.AM
end
