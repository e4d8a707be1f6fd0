/- This file holds in one the texts An14; each says at its head what it proves. -/
import Derived.Test.YtafhcdagifopeaaGreatDoorT9
set_option linter.unusedSimpArgs false
set_option linter.unusedVariables false
section
/- The abstract machine, part 14: the machine itself: regions, code, calls, with fuel. -/
namespace Go.AM

structure Pol where
  pure : FuncId → FuncId → Bool
  mt : FuncId → Nat → Bool
  keep : FuncId → Nat → Option (List Nat × List Nat)
  prim : FuncId → Option (Nat → Option Nat → Get → List V → Option (V × Option (Nat × Nat × O)))
  /-- Is such a call handed frozen arguments, though it is on the caller's heap? -/
  thin : FuncId → FuncId → Bool := fun _ _ => false
  /-- Is such a call on an empty heap, its result's object taken over? -/
  lift : FuncId → FuncId → Bool := fun _ _ => false
  /-- Does such a call only look at the caller's heap? -/
  look : FuncId → FuncId → Bool := fun _ _ => false
  /-- Slots that point to slices whose elements no longer change behind the function's body. -/
  settle : FuncId → List Nat := fun _ => []
  /-- At a loop's head: slots of lists, and the one slot that the list that is left goes to. -/
  move : FuncId → Nat → Option (List Nat × Nat) := fun _ _ => none

inductive Ex where
  | normal
  | exit (id : Nat)
  | ret
  | panic (v : V)

inductive Rt where
  | ret (v : V)
  | pan (v : V)


/-! ### Equality, reckoned -/
mutual
def V.eqb : V → V → Bool
  | .bad, .bad => true
  | .bool a, .bool b => a == b
  | .int k n, .int l m => decide (k = l) && decide (n = m)
  | .str a, .str b => decide (a = b)
  | .nilptr, .nilptr => true
  | .ptr f s o, .ptr f' s' o' => Nat.beq f f' && Nat.beq s s' && Nat.beq o o'
  | .iptr a o, .iptr b o' => eqbL a b && Nat.beq o o'
  | .rptr a o, .rptr b o' => eqbL a b && Nat.beq o o'
  | .nilslice, .nilslice => true
  | .islice a n x, .islice b m y => eqbL a b && Nat.beq n m && (x == y)
  | .gslice f s a n e, .gslice f' s' b m e' => Nat.beq f f' && Nat.beq s s' && eqbL a b && Nat.beq n m && Nat.beq e e'
  | .mslice f s o n c e, .mslice f' s' o' n' c' e' => Nat.beq f f' && Nat.beq s s' && Nat.beq o o' && Nat.beq n n' && decide (c = c') && Nat.beq e e'
  | .nilmap, .nilmap => true
  | .map f s, .map f' s' => Nat.beq f f' && Nat.beq s s'
  | .func f a b, .func f' a' b' => decide (f = f') && eqbL a a' && eqbL b b'
  | .nilfunc, .nilfunc => true
  | .nilface, .nilface => true
  | .byte, .byte => true
  | .face t v, .face t' v' => Nat.beq t t' && v.eqb v'
  | .agg a, .agg b => eqbL a b
  | .tuple a, .tuple b => eqbL a b
  | .yield f s, .yield f' s' => Nat.beq f f' && Nat.beq s s'
  | _, _ => false
def eqbL : List V → List V → Bool
  | [], [] => true
  | x :: xs, y :: ys => x.eqb y && eqbL xs ys
  | _, _ => false
end

theorem V.eqb_iff : ∀ (a b : V), a.eqb b = true ↔ a = b := by
  intro a
  refine V.rec (motive_1 := fun a => ∀ b, a.eqb b = true ↔ a = b) (motive_2 := fun l => ∀ m, eqbL l m = true ↔ l = m) ?_ ?_ ?_ ?_ ?_ ?_ ?_ ?_ ?_ ?_ ?_ ?_ ?_ ?_ ?_ ?_ ?_ ?_ ?_ ?_ ?_ ?_ ?_ ?_ a <;> intros <;> rename_i b <;> cases b <;> simp_all [V.eqb, eqbL, and_assoc]
theorem eqbL_iff : ∀ (l m : List V), eqbL l m = true ↔ l = m
  | [], [] => by simp [eqbL]
  | [], _ :: _ => by simp [eqbL]
  | _ :: _, [] => by simp [eqbL]
  | x :: xs, y :: ys => by simp [eqbL, V.eqb_iff, eqbL_iff xs ys]

def eqbM : List (V × V) → List (V × V) → Bool
  | [], [] => true
  | (a, b) :: r, (c, d) :: s => a.eqb c && b.eqb d && eqbM r s
  | _, _ => false
theorem eqbM_iff : ∀ (l m : List (V × V)), eqbM l m = true ↔ l = m
  | [], [] => by simp [eqbM]
  | [], _ :: _ => by simp [eqbM]
  | _ :: _, [] => by simp [eqbM]
  | (a, b) :: xs, (c, d) :: ys => by simp [eqbM, V.eqb_iff, eqbM_iff xs ys]

def O.eqb : O → O → Bool
  | .cells a, .cells b => eqbL a b
  | .grow n, .grow m => Nat.beq n m
  | .map a bs c, .map b ds d => eqbM a b && decide (bs = ds) && Nat.beq c d
  | .iter m s l t, .iter m' s' l' t' => decide (m = m') && Nat.beq s s' && decide (l = l') && Nat.beq t t'
  | .loop a b c d t, .loop a' b' c' d' t' => Nat.beq a a' && decide (b = b') && Nat.beq c c' && Nat.beq d d' && eqbL t t'
  | .siter l p, .siter l' p' => decide (l = l') && Nat.beq p p'
  | .dead, .dead => true
  | _, _ => false
theorem O.eqb_iff : ∀ (a b : O), a.eqb b = true ↔ a = b := by
  intro a b
  cases a <;> cases b <;> simp [O.eqb, eqbL_iff, eqbM_iff, and_assoc]

def eqbF : Frame → Frame → Bool
  | [], [] => true
  | (k, o) :: r, (l, p) :: s => Nat.beq k l && o.eqb p && eqbF r s
  | _, _ => false
theorem eqbF_iff : ∀ (a b : Frame), eqbF a b = true ↔ a = b
  | [], [] => by simp [eqbF]
  | [], _ :: _ => by simp [eqbF]
  | _ :: _, [] => by simp [eqbF]
  | (k, o) :: xs, (l, p) :: ys => by simp [eqbF, O.eqb_iff, eqbF_iff xs ys]

def eqbH : Heap → Heap → Bool
  | [], [] => true
  | f :: r, g :: s => eqbF f g && eqbH r s
  | _, _ => false
theorem eqbH_iff : ∀ (a b : Heap), eqbH a b = true ↔ a = b
  | [], [] => by simp [eqbH]
  | [], _ :: _ => by simp [eqbH]
  | _ :: _, [] => by simp [eqbH]
  | f :: xs, g :: ys => by simp [eqbH, eqbF_iff, eqbH_iff xs ys]

def Ex.eqb : Ex → Ex → Bool
  | .normal, .normal => true
  | .exit i, .exit j => Nat.beq i j
  | .ret, .ret => true
  | .panic v, .panic w => v.eqb w
  | _, _ => false
theorem Ex.eqb_iff : ∀ (a b : Ex), a.eqb b = true ↔ a = b := by
  intro a b
  cases a <;> cases b <;> simp [Ex.eqb, V.eqb_iff]

abbrev Out := Option (Ex × List V × Heap)
def eqbO : Out → Out → Bool
  | none, none => true
  | some (e, t, H), some (e', t', H') => e.eqb e' && eqbL t t' && eqbH H H'
  | _, _ => false
theorem eqbO_iff : ∀ (a b : Out), eqbO a b = true ↔ a = b := by
  intro a b
  rcases a with _ | ⟨e, t, H⟩ <;> rcases b with _ | ⟨e', t', H'⟩ <;> simp [eqbO, Ex.eqb_iff, eqbL_iff, eqbH_iff, and_assoc]

def agree : List Out → Out
  | [] => none
  | [x] => x
  | x :: y :: r => if eqbO x (agree (y :: r)) then x else none

theorem agree_one (x : Out) : agree [x] = x := rfl
theorem agree_all : ∀ {l : List Out} {r : Ex × List V × Heap}, agree l = some r → ∀ x ∈ l, x = some r
  | [], _, h => by cases h
  | [x], r, h => by
    intro y hy
    rw [List.mem_singleton] at hy
    subst hy; exact h
  | x :: y :: l, r, h => by
    simp only [agree] at h
    split at h
    · rename_i he
      rw [eqbO_iff] at he
      subst h
      intro z hz
      rcases List.mem_cons.1 hz with rfl | hz
      · rfl
      · exact agree_all he.symm z hz
    · cases h
theorem agree_ne {l : List Out} {r : Ex × List V × Heap} (h : agree l = some r) : l ≠ [] := by
  rintro rfl; cases h
theorem agree_of : ∀ {l : List Out} {r : Ex × List V × Heap}, l ≠ [] → (∀ x ∈ l, x = some r) → agree l = some r
  | [], _, h, _ => absurd rfl h
  | [x], r, _, h => h x (by simp)
  | x :: y :: l, r, _, h => by
    have h1 := agree_of (l := y :: l) (r := r) (by simp) (fun z hz => h z (List.mem_cons_of_mem _ hz))
    have h2 := h x (by simp)
    subst h2
    simp only [agree, h1]
    rw [if_pos ((eqbO_iff _ _).2 rfl)]
theorem agree_iff {l : List Out} {r : Ex × List V × Heap} : agree l = some r ↔ l ≠ [] ∧ ∀ x ∈ l, x = some r :=
  ⟨fun h => ⟨agree_ne h, agree_all h⟩, fun h => agree_of h.1 h.2⟩

abbrev Call := Option FuncId → List V → Heap → Option (Rt × Heap)

def rho (t : List V) : Operand → V
  | .tmp i => t.getD i .bad
  | .const v => ofConst v
  | .global _ => .bad
  | .func f => .func (.func f) [] []

def putT (t : List V) (dst : Option Nat) (v : V) : List V :=
  match dst with
  | some d => t.set d v
  | none => t

abbrev nov : V := .tuple []

def wantedV (ops : Array Oper) (t : List V) (o : Oper) : Option Bool :=
  match o.guard with
  | none => some true
  | some (j, want) => match ((ops[j]?).bind (·.dst)).bind (t[·]?) with
    | some (.bool b) => some (b == want)
    | some (.tuple []) => some false
    | _ => none

def frzL (f : V → Option V) : List V → Option (List V)
  | [] => some []
  | x :: xs => match f x, frzL f xs with
    | some y, some ys => some (y :: ys)
    | _, _ => none
def frz (g : Get) : Nat → V → Option V
  | 0, _ => none
  | n + 1, v => match v with
    | .mslice f s o len cap esz => (match g f s with
      | some (.cells xs) => if o + len * esz ≤ xs.length then (frzL (frz g n) ((xs.drop o).take (len * esz))).map fun cs => .islice cs len (cap == some len) else none
      | _ => none)
    | .gslice _ _ cs len _ => (frzL (frz g n) cs).map fun cs => .islice cs len false
    | .rptr cs o => (frzL (frz g n) cs).map fun cs => .iptr cs o
    | .ptr f s o => (match g f s with
      | some (.cells xs) => (frzL (frz g n) xs).map fun cs => .iptr cs o
      | _ => none)
    | .map _ _ => none
    | .yield _ _ => none
    | .agg cs => (frzL (frz g n) cs).map .agg
    | .tuple cs => (frzL (frz g n) cs).map .tuple
    | .face t x => (frz g n x).map (.face t)
    | .func fn a b => (match frzL (frz g n) a, frzL (frz g n) b with
      | some a, some b => some (.func fn a b)
      | _, _ => none)
    | v => some v
def depth : Nat := 12

mutual
def V.refs (p : Nat → Nat → Bool) : V → Bool
  | .ptr f s _ | .mslice f s _ _ _ _ | .map f s | .yield f s => p f s
  | .gslice f s cs _ _ => p f s || refsL p cs
  | .rptr cs _ => refsL p cs
  | .func _ a b => refsL p a || refsL p b
  | .face _ v => v.refs p
  | .agg xs | .tuple xs => refsL p xs
  | _ => false
def refsL (p : Nat → Nat → Bool) : List V → Bool
  | [] => false
  | x :: xs => x.refs p || refsL p xs
end
def refsM (p : Nat → Nat → Bool) : List (V × V) → Bool
  | [] => false
  | (k, x) :: r => k.refs p || x.refs p || refsM p r
def O.refs (p : Nat → Nat → Bool) : O → Bool
  | .cells xs => refsL p xs
  | .map es _ _ => refsM p es
  | .iter (some m) _ _ _ => p m.1 m.2
  | .loop _ _ _ _ t => refsL p t
  | _ => false
def clearF (p : Nat → Nat → Bool) : Frame → Bool
  | [] => true
  | (_, o) :: r => !o.refs p && clearF p r
def clearH (p : Nat → Nat → Bool) : Heap → Bool
  | [] => true
  | fr :: r => clearF p fr && clearH p r

def fdel (p : Nat → Bool) : Frame → Frame
  | [] => []
  | (k, o) :: r => if p k then fdel p r else (k, o) :: fdel p r

def thinArgs (pol : Pol) (fn f : FuncId) (args : List V) : Option (List V) := if pol.thin fn f then frzL (frz (fun _ _ => none) depth) args else some args

def frzN (g : Get) : Nat → V → Option V
  | 0, _ => none
  | n + 1, v => match v with
    | .mslice f s o len cap esz => (match g f s with
      | some (.cells xs) => if o + len * esz ≤ xs.length then (frzL (frzN g n) ((xs.drop o).take (len * esz))).map fun cs => .islice cs len (cap == some len) else none
      | _ => none)
    | .ptr f s o => (match g f s with
      | some (.cells xs) => (frzL (frzN g n) xs).map fun cs => .iptr cs o
      | _ => none)
    | .gslice f s cs len _ => (match g f s with
      | some (.grow k) => if k = len then (frzL (frzN g n) cs).map fun cs => .islice cs len false else none
      | _ => none)
    | .agg cs => (frzL (frzN g n) cs).map .agg
    | .tuple cs => (frzL (frzN g n) cs).map .tuple
    | .face t x => (frzN g n x).map (.face t)
    | .bool b => some (.bool b)
    | .int k m => some (.int k m)
    | .str s => some (.str s)
    | .nilptr => some .nilptr
    | .nilslice => some .nilslice
    | .nilmap => some .nilmap
    | .nilfunc => some .nilfunc
    | .nilface => some .nilface
    | .byte => some .byte
    | _ => none

def frzM (f : V → Option V) : List (V × V) → Option (List (V × V))
  | [] => some []
  | (k, x) :: r => match f k, f x, frzM f r with
    | some k, some x, some r => some ((k, x) :: r)
    | _, _, _ => none

def liftV (H' : Heap) (fr : Nat) (dst : Option Nat) (H : Heap) (v : V) : Option (V × Nat × O) :=
  match v, dst with
  | .map f s, some d => (match hget H fr d, hget H' f s with
    | none, some (.map es bs clk) => (frzM (frz (hget H') depth) es).map fun es => (.map fr d, d, .map es bs clk)
    | _, _ => none)
  | .mslice f s o len cap esz, some d => (match hget H fr d, hget H' f s with
    | none, some (.cells xs) => if pureL xs = true then some (.mslice fr d o len cap esz, d, .cells xs) else none
    | _, _ => none)
  | _, _ => none

section
variable (P : Program) (pol : Pol) (C : Call) (fn fr : Nat)

def maskT (keep : List Nat) : List V → Nat → List V
  | [], _ => []
  | x :: xs, i => (if keep.contains i then x else .bad) :: maskT keep xs (i + 1)

def forgetK (r : Nat) (t : List V) (H : Heap) : Option (List V × Heap) :=
  match pol.keep fn r with
  | none => some (t, H)
  | some (kt, ds) =>
    if refsL (fun f s => f == fr && ds.contains s) (maskT kt t 0) then none
    else if clearH (fun f s => f == fr && ds.contains s) (H.modify fr (fdel fun s => ds.contains s)) then some (maskT kt t 0, H.modify fr (fdel fun s => ds.contains s))
    else none

def renV (fr a b : Nat) : V → V
  | .gslice f s cs n e => if f = fr ∧ s = a then .gslice fr b cs n e else .gslice f s cs n e
  | x => x
abbrev slotP (fr s : Nat) : Nat → Nat → Bool := fun f s' => f == fr && [s].contains s'
def dropOne (fr s : Nat) (t : List V) (H : Heap) : Option Heap :=
  if refsL (slotP fr s) t then some H
  else if clearH (slotP fr s) (H.modify fr (fdel fun x => [s].contains x)) then some (H.modify fr (fdel fun x => [s].contains x)) else none
def dropAll (fr : Nat) (t : List V) : List Nat → Heap → Option Heap
  | [], H => some H
  | s :: r, H => match dropOne fr s t H with
    | some H => dropAll fr t r H
    | none => none
def moveOne (fr a b : Nat) (t : List V) (H : Heap) : Option (List V × Heap) :=
  match hget H fr a, hget H fr b with
  | some (.grow n), none =>
    if refsL (slotP fr a) (t.map (renV fr a b)) then none
    else if clearH (slotP fr a) (H.modify fr (fdel fun x => [a].contains x)) then some (t.map (renV fr a b), hset (H.modify fr (fdel fun x => [a].contains x)) fr b (.grow n))
    else none
  | _, _ => some (t, H)
def moveAll (fr b : Nat) : List Nat → List V → Heap → Option (List V × Heap)
  | [], t, H => some (t, H)
  | a :: r, t, H => match moveOne fr a b t H with
    | some (t, H) => moveAll fr b r t H
    | none => none
def forget (r : Nat) (t : List V) (H : Heap) : Option (List V × Heap) :=
  match forgetK pol fn fr r t H with
  | none => none
  | some (t, H) => (match pol.move fn r with
    | none => some (t, H)
    | some (ds, c) => (match dropAll fr t (c :: ds) H with
      | none => none
      | some H => moveAll fr c ds t H))

def callOp (dst : Option Nat) (f : FuncId) (args : List V) (H : Heap) : Option (Rt × Heap) :=
  match pol.prim f with
  | some g => (g fr dst (hget H) args).map fun x => (.ret x.1, wr H x.2)
  | none =>
    if pol.pure fn f then
      match frzL (frz (fun _ _ => none) depth) args with
      | some args => (match C f args [] with
        | some (.ret v, H') => (frz (hget H') depth v).map fun v => (.ret v, H)
        | some (.pan v, H') => (frz (hget H') depth v).map fun v => (.pan v, H)
        | none => none)
      | none => none
    else if pol.lift fn f then
      match frzL (frz (fun _ _ => none) depth) args with
      | some args => (match C f args [] with
        | some (.ret v, H') => (liftV H' fr dst H v).map fun x => (.ret x.1, wr H (some (fr, x.2.1, x.2.2)))
        | _ => none)
      | none => none
    else if pol.look fn f then
      match frzL (frz (hget H) depth) args with
      | some args => (match C f args [] with
        | some (.ret v, H') => (frzN (hget H') depth v).map fun v => (.ret v, H)
        | _ => none)
      | none => none
    else (match thinArgs pol fn f args with
      | some args => C f args H
      | none => none)

def opOne (t : List V) (H : Heap) (o : Oper) : Option (Ex × List V × Heap) :=
  match evOp P (pol.mt fn) fr (hget H) (rho t) o with
  | none => none
  | some (.val v w) => some (.normal, putT t o.dst v, wr H w)
  | some (.panic v) => some (.panic v, t, H)
  | some (.call f args) => (match callOp pol C fn fr o.dst f args H with
    | some (.ret v, H') => some (.normal, putT t o.dst v, H')
    | some (.pan v, H') => some (.panic v, t, H')
    | none => none)
  | some (.round f s args) => (match C none (.yield f s :: args) H with
    | some (.ret v, H') => some (.normal, putT t o.dst v, H')
    | _ => none)

def runOps (ops : Array Oper) : List Oper → List V → Heap → Option (Ex × List V × Heap)
  | [], t, H => some (.normal, t, H)
  | o :: r, t, H => match wantedV ops t o with
    | none => none
    | some false => runOps ops r (putT t o.dst nov) H
    | some true => (match opOne P pol C fn fr t H o with
      | some (.normal, t, H) => runOps ops r t H
      | x => x)

abbrev MBody := List V → Heap → List Out

def after (k : List V → Heap → Out) : Out → Out
  | some (.normal, t, H) => k t H
  | r => r

def loopN (body : MBody) : Nat → List V → Heap → Out
  | 0, _, _ => none
  | n + 1, t, H => agree ((body t H).map (after (loopN body n)))

def leftE (seen : List Nat) : List (V × V) → List Nat → List ((V × V) × Nat)
  | e :: es, b :: bs => if seen.contains b then leftE seen es bs else (e, b) :: leftE seen es bs
  | _, _ => []

def nextC (g : Get) (x : V) : Option (List (V × Option (Nat × Nat × O))) :=
  match x with
  | .ptr f s 0 => (match g f s with
    | some (.iter none _ _ _) => some [(.tuple [.bool false], some (f, s, .dead))]
    | some (.iter (some m) since seen stepped) => (match g m.1 m.2 with
      | some (.map es bs clk) => if bs.all (fun b => decide (b < since)) && decide (since ≤ stepped) then
          (match leftE seen es bs with
          | [] => some [(.tuple [.bool false], some (f, s, .dead))]
          | l => some (l.map fun e => (.tuple [.bool true, e.1.1, e.1.2], some (f, s, .iter (some m) since (seen ++ [e.2]) clk))))
        else none
      | _ => none)
    | _ => none)
  | _ => none

def headNext : Code → Option Operand
  | .region _ ops false => (match ops.toList with
    | o :: _ => (match o.guard, o.op with
      | none, .next x false => some x
      | _, _ => none)
    | [] => none)
  | .seq a _ => headNext a
  | _ => none

def fstRegion : Code → Nat
  | .region id _ _ => id
  | .seq a _ => fstRegion a
  | .cond _ a _ => fstRegion a
  | .block _ b => fstRegion b
  | .loop b => fstRegion b
  | .scope b => fstRegion b
  | _ => 0

end

def V.id? : V → Option (Nat × Nat)
  | .ptr f s _ | .gslice f s _ _ _ | .mslice f s _ _ _ _ | .map f s | .yield f s => some (f, s)
  | _ => none

def quietOp : Op → Bool
  | .move _ | .assign _ | .pick _ _ _ | .build _ _ | .nilCheck _ | .binOp _ _ _ _ _ | .unOp _ _ _ | .makeInterface _ _ | .makeFunc _ _ _ | .fieldAddr _ _ _ | .field _ _ _
  | .indexAddr _ _ _ | .index _ _ _ | .extract _ _ | .typeAssert _ _ _ _ | .sliceToArrayPointer _ _ => true
  | _ => false

def farOp : Op → Bool
  | .entry _ => true
  | _ => false

def idsOf (fr : Nat) (ρ : Operand → V) (o : Oper) : List (Nat × Nat) :=
  (match o.dst with | some d => [(fr, d)] | none => []) ++ o.op.operands.toList.filterMap fun x => (ρ x).id?

inductive FP where
  | quiet
  | ids (r w : List (Nat × Nat))
  | all
  deriving DecidableEq, Inhabited

def meets (a b : List (Nat × Nat)) : Bool := a.any fun x => b.contains x

def FP.indep : FP → FP → Bool
  | .quiet, _ | _, .quiet => true
  | .ids r w, .ids r' w' => !meets w r' && !meets w w' && !meets w' r
  | _, _ => false

section
variable (P : Program) (pol : Pol) (C : Call) (fn fr : Nat)

def fpOf (t : List V) (H : Heap) (o : Oper) : FP :=
  if quietOp o.op then .quiet else if farOp o.op then .all else
  match evOp P (pol.mt fn) fr (hget H) (rho t) o with
  | some (.val _ none) => .ids (idsOf fr (rho t) o) []
  | some (.val _ (some (f, s, _))) => .ids (idsOf fr (rho t) o) [(f, s)]
  | some (.call f _) => if (pol.prim f).isNone && pol.pure fn f then .quiet else if (pol.prim f).isNone && pol.lift fn f then (match o.dst with
    | some d => .ids (idsOf fr (rho t) o) [(fr, d)]
    | none => .all) else .all
  | _ => .all

def runOpsT (ops : Array Oper) : List Oper → List V → Heap → Option (List V × Heap × List FP)
  | [], t, H => some (t, H, [])
  | o :: r, t, H => match wantedV ops t o with
    | none => none
    | some false => (match runOpsT ops r (putT t o.dst nov) H with
      | some (t', H', T) => some (t', H', .quiet :: T)
      | none => none)
    | some true => (match opOne P pol C fn fr t H o with
      | some (.normal, t1, H1) => (match runOpsT ops r t1 H1 with
        | some (t', H', T) => some (t', H', fpOf P pol fn fr t H o :: T)
        | none => none)
      | _ => none)
end

def okT (bef : Array Nat) : List (FP × Nat) → Bool
  | [] => true
  | (a, i) :: r => r.all (fun (b, j) => (bef.getD j 0).testBit i || a.indep b) && okT bef r
def FP.loud : FP → Bool
  | .quiet => false
  | _ => true
def loud (T : List FP) : List (FP × Nat) := T.zipIdx.filter fun x => x.1.loud

abbrev Body := List V → Heap → Out

def loopId (a b : Code) : Nat := if fstRegion a = 0 then fstRegion b else fstRegion a
def findLoop (rid : Nat) : Code → Option (Array Tmp × Code × Code)
  | .seq a b | .cond _ a b => (match findLoop rid a with
    | some x => some x
    | none => findLoop rid b)
  | .block _ b | .loop b | .scope b => findLoop rid b
  | .rangeFunc _ ps a b => if loopId a b = rid then some (ps, a, b) else (match findLoop rid a with
    | some x => some x
    | none => findLoop rid b)
  | _ => none
def loopIds : Code → List Nat
  | .seq a b | .cond _ a b => loopIds a ++ loopIds b
  | .block _ b | .loop b | .scope b => loopIds b
  | .rangeFunc _ _ a b => loopId a b :: (loopIds a ++ loopIds b)
  | _ => []
def loopAt (P : Program) (fn : FuncId) (rid : Nat) : Option (Array Tmp × Code × Code) :=
  match P.funcs[fn]? with
  | some F => (match F.body with
    | some c => findLoop rid c
    | none => none)
  | none => none
def loopSlot (rid : Nat) : Nat := 1000000 + rid
def putArgs : List V → List (Tmp × V) → List V
  | t, [] => t
  | t, p :: r => putArgs (t.set p.1 p.2) r
def loopEnd (fr s : Nat) (t : List V) (H : Heap) : Out :=
  match hget H fr s with
  | some (.loop st pend _ _ _) => if st = 1 then none else
    if refsL (slotP fr s) t then none else if clearH (slotP fr s) (H.modify fr (fdel fun x => [s].contains x)) then
      (match pend with
      | none => some (.normal, t, H.modify fr (fdel fun x => [s].contains x))
      | some none => some (.ret, t, H.modify fr (fdel fun x => [s].contains x))
      | some (some i) => some (.exit i, t, H.modify fr (fdel fun x => [s].contains x)))
    else none
  | _ => none

section
variable (P : Program) (pol : Pol) (C : Call) (L : MBody → Body) (fn fr : Nat)

mutual
def exec : Code → Body
  | .skip => fun t H => some (.normal, t, H)
  | .region _ ops draw => fun t H => if draw then (match runOpsT P pol C fn fr ops ops.toList t H with
      | some (t', H', T) => if okT (Region.before ops) (loud T) then some (.normal, t', H') else none
      | none => none) else runOps P pol C fn fr ops ops.toList t H
  | .seq a b => fun t H => (match exec a t H with
    | some (.normal, t, H) => exec b t H
    | r => r)
  | .cond c x y => fun t H => (match rho t c with
    | .bool b => if b then exec x t H else exec y t H
    | _ => none)
  | .block id b => fun t H => (match exec b t H with
    | some (.exit i, t, H) => if i = id then some (.normal, t, H) else some (.exit i, t, H)
    | r => r)
  | .loop b => fun t H => L (fun t H => match forget pol fn fr (fstRegion b) t H with
    | some (t, H) => (match headNext b with
      | none => [exec b t H]
      | some x => (match nextC (hget H) (rho t x) with
        | some cs => cs.map fun c => execF b c.1 c.2 t H
        | none => [none]))
    | none => [none]) t H
  | .exit id => fun t H => some (.exit id, t, H)
  | .ret => fun t H => some (.ret, t, H)
  | .rangeFunc g _ a b => fun t H => (match rho t g with
    | .func (.func f) first cap => (match hget H fr (loopSlot (loopId a b)) with
      | none => (match C f (first ++ [.yield fr (loopSlot (loopId a b))] ++ cap) (hset H fr (loopSlot (loopId a b)) (.loop 0 none fn (loopId a b) t)) with
        | some (.ret _, H2) => loopEnd fr (loopSlot (loopId a b)) t H2
        | _ => none)
      | some _ => none)
    | _ => none)
  | _ => fun _ _ => none
def execF : Code → V → Option (Nat × Nat × O) → Body
  | .region _ ops _ => fun v w t H => (match ops.toList with
    | o :: r => runOps P pol C fn fr ops r (putT t o.dst v) (wr H w)
    | [] => none)
  | .seq a b => fun v w t H => (match execF a v w t H with
    | some (.normal, t, H) => exec b t H
    | r => r)
  | _ => fun _ _ _ _ => none
end

def resOne (t : List V) (H : Heap) : ResultVar → Option V
  | .tmp i => some (t.getD i .bad)
  | .cell a T => (match t.getD a .bad with
    | .ptr f s o => (match hget H f s with
      | some (.cells xs) => readAt P T xs o
      | _ => none)
    | _ => none)
def resL (t : List V) (H : Heap) : List ResultVar → Option (List V)
  | [] => some []
  | r :: rs => match resOne P t H r, resL t H rs with
    | some v, some vs => some (v :: vs)
    | _, _ => none
def resV (f : Func) (t : List V) (H : Heap) : Option V :=
  match resL P t H f.results.toList with
  | some [v] => some v
  | some vs => some (.tuple vs)
  | none => none

def popF (b : Nat) (v : V) (H : Heap) : Heap :=
  if !v.refs (fun f _ => Nat.ble b f) && clearH (fun f _ => Nat.ble b f) (H.take b) then H.take b else H

def settle1 (t : List V) (H : Heap) (k : Nat) : Option Heap :=
  match t.getD k .bad with
  | .ptr f s o => (match hget H f s with
    | some (.cells xs) => (match xs[o]? with
      | some (.mslice f1 s1 o1 len cap esz) => (match hget H f1 s1 with
        | some (.cells ys) => if o1 + len * esz ≤ ys.length ∧ pureL ys = true ∧ ¬ (f = f1 ∧ s = s1) then
            some (hset (hset H f1 s1 .dead) f s (.cells (xs.set o (.islice ((ys.drop o1).take (len * esz)) len (cap == some len))))) else none
        | _ => none)
      | some _ => some H
      | none => none)
    | _ => none)
  | .tuple [] => some H
  | .bad => some H
  | _ => none
def settleL : List Nat → List V → Heap → Option Heap
  | [], _, H => some H
  | k :: ks, t, H => match settle1 t H k with
    | some H => settleL ks t H
    | none => none
def settleO (ks : List Nat) : Out → Out
  | some (.normal, t, H) => (settleL ks t H).map fun H => (.normal, t, H)
  | some (.ret, t, H) => (settleL ks t H).map fun H => (.ret, t, H)
  | r => r
theorem settleO_nil (x : Out) : settleO [] x = x := by
  rcases x with _ | ⟨e, t, H⟩
  · rfl
  · cases e <;> rfl

def roundEnd (fo so b : Nat) (e : Ex) (H : Heap) : Option (Rt × Heap) :=
  match hget H fo so with
  | some (.loop _ _ fL rid t0) => (match e with
    | .normal => some (.ret (.bool true), popF b (.bool true) (hset H fo so (.loop 0 none fL rid t0)))
    | .ret => some (.ret (.bool false), popF b (.bool false) (hset H fo so (.loop 2 (some none) fL rid t0)))
    | .exit i => some (.ret (.bool false), popF b (.bool false) (hset H fo so (.loop 2 (some (some i)) fL rid t0)))
    | .panic _ => none)
  | _ => none
def callR (fo so : Nat) (args : List V) (H : Heap) : Option (Rt × Heap) :=
  match hget H fo so with
  | some (.loop 0 _ fL rid t0) => (match loopAt P fL rid with
    | some (ps, a, b) => if args.length = ps.size then
        (match exec P pol C L fL H.length a (putArgs t0 (ps.toList.zip args)) (H ++ [[]]) with
        | some (.normal, t1, H1) => (match hget H1 fo so with
          | some (.loop 0 pend fL' rid' t0') => (match exec P pol C L fL H.length b t1 (hset H1 fo so (.loop 1 pend fL' rid' t0')) with
            | some (e, _, H2) => roundEnd fo so H.length e H2
            | none => none)
          | _ => none)
        | _ => none) else none
    | none => none)
  | _ => none

def callF (f : FuncId) (args : List V) (H : Heap) : Option (Rt × Heap) :=
  match P.funcs[f]? with
  | some F => (match F.body with
    | some c => (match settleO (pol.settle f) (exec P pol C L f H.length c (args ++ List.replicate (F.ntmps - args.length) .bad) (H ++ [[]])) with
      | some (.normal, t, H') | some (.ret, t, H') => (match resV P F t H' with
        | some v => some (.ret v, popF H.length v H')
        | none => none)
      | some (.panic v, _, H') => some (.pan v, popF H.length v H')
      | _ => none)
    | none => none)
  | none => none
def callB (f : Option FuncId) (args : List V) (H : Heap) : Option (Rt × Heap) :=
  match f with
  | some f => callF P pol C L f args H
  | none => (match args with
    | .yield fo so :: rest => callR P pol C L fo so rest H
    | _ => none)
end

def callN (P : Program) (pol : Pol) : Nat → Call
  | 0 => fun _ _ _ => none
  | n + 1 => callB P pol (callN P pol n) (fun b => loopN b n)

end Go.AM
end
