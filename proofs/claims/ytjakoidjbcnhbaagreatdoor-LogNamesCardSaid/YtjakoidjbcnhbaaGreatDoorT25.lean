/- This file holds in one the texts Bx14, Bx51; each says at its head what it proves. -/
import Derived.Test.YtjakoidjbcnhbaaGreatDoorT11
import Derived.Test.YtjakoidjbcnhbaaGreatDoorT14
set_option linter.unusedSimpArgs false
set_option linter.unusedVariables false
section
/- The machine for closed laws, part 14: the machine itself. All objects lie in one frame, each by a number of its own. -/
namespace Go.AM.BM

abbrev Prim := Nat → Option Nat → Get → List V → Option (V × Option (Nat × Nat × O))
structure Pol where
  prim : FuncId → Option Prim
  loop : FuncId → Nat → Option (List V → Heap → Option (List V × Heap)) := fun _ _ => none
  /-- What they answer becomes cells that no longer change. -/
  fix : FuncId → Bool := fun _ => false
  /-- Which of their arguments becomes cells that no longer change. -/
  fixA : FuncId → Option Nat := fun _ => none

def eqbG : Option O → Option O → Bool
  | none, none => true
  | some a, some b => a.eqb b
  | _, _ => false
theorem eqbG_iff : ∀ (a b : Option O), eqbG a b = true ↔ a = b := by
  intro a b
  cases a <;> cases b <;> simp [eqbG, O.eqb_iff]


def topOf : Frame → Nat
  | [] => 0
  | (k, _) :: r => max (k + 1) (topOf r)
def nextOf : Heap → Nat
  | [] => 0
  | f :: _ => topOf f
def wrL : Heap → List (Nat × Nat × O) → Heap
  | H, [] => H
  | H, (f, s, o) :: r => wrL (hset H f s o) r
def atN (o : Oper) (nm : Nat) : Oper := { o with dst := some nm }

def growV (P : Program) (g : Get) (nm : Nat) (t t2 : TypeId) (s x : V) : Option (V × List (Nat × Nat × O)) :=
  match P.underlying t, s with
  | some (.slice e), .mslice f sl 0 len none e' => (match sz P e, byt P e, zeroCells P e with
    | some n, some by_, some z => if z.length = n ∧ e' = n ∧ 0 < n then
      (match g f sl, g 0 nm, appSrc P g t2 n by_ z x with
      | some (.cells xs), none, some (new, m + 1) => if xs.length = len * n ∧ roomy (len + (m + 1)) by_ ∧ new.all V.scalar then
          some (.mslice 0 nm 0 (len + (m + 1)) none n, [(f, sl, .dead), (0, nm, .cells (xs ++ new))]) else none
      | _, _, _ => none) else none
    | _, _, _ => none)
  | _, _ => none
def clearV (P : Program) (g : Get) (t : TypeId) (s : V) : Option (V × List (Nat × Nat × O)) :=
  match P.underlying t with
  | some (.slice e) => (match sz P e, zeroCells P e, s with
    | some _, some _, .nilslice => some (.tuple [], [])
    | some n, some z, .mslice f sl o len _ e' => if len = 0 then some (.tuple [], []) else (match g f sl with
      | some (.cells xs) => if e' = n ∧ z.length = n ∧ o + len * n ≤ xs.length ∧ 0 < n then some (.tuple [], [(f, sl, .cells (splice xs o (zerosN z len)))]) else none
      | _ => none)
    | _, _, _ => none)
  | _ => none
def moreOp (P : Program) (g : Get) (r : Operand → V) (nm : Nat) (o : Op) : Option (V × List (Nat × Nat × O)) :=
  match o with
  | .call c => (match c.callee, c.args.toList, c.argTypes.toList with
    | .builtin .append, [s, x], t :: t2 :: _ => growV P g nm t t2 (r s) (r x)
    | .builtin .clear, [s], [t] => clearV P g t (r s)
    | _, _, _ => none)
  | _ => none

section
variable (P : Program) (pol : Pol) (C : Call)

def fix1 (g : Get) (v : V) : Option (V × Option (Nat × Nat × O)) := match v with
  | .mslice f s o len cap esz => (match g f s with
    | some (.cells xs) => if o + len * esz ≤ xs.length ∧ pureL xs = true then some (.islice ((xs.drop o).take (len * esz)) len (cap == some len), some (f, s, .dead)) else none
    | _ => none)
  | v => some (v, none)
def fixV (g : Get) (v : V) : Option (V × Option (Nat × Nat × O)) := match v with
  | .tuple (x :: r) => (fix1 g x).map fun y => (.tuple (y.1 :: r), y.2)
  | v => fix1 g v
def fixR (b : Bool) (x : Option (Rt × Heap)) : Option (Rt × Heap) := match b with
  | false => x
  | true => (match x with
    | some (.ret v, H) => (match fixV (hget H) v with
      | some (v', w) => some (.ret v', wr H w)
      | none => none)
    | x => x)
def fixAt (g : Get) (i : Option Nat) (args : List V) : Option (List V × Option (Nat × Nat × O)) := match i with
  | none => some (args, none)
  | some i => (match args[i]? with
    | some x => (match fix1 g x with
      | some (y, w) => some (args.set i y, w)
      | none => none)
    | none => none)
def callOp (nm : Nat) (f : FuncId) (args : List V) (H : Heap) : Option (Rt × Heap) :=
  match pol.prim f with
  | some g => (g 0 (some nm) (hget H) args).map fun x => (.ret x.1, wr H x.2)
  | none => (match fixAt (hget H) (pol.fixA f) args with
    | some (as, w) => fixR (pol.fix f) (C (some f) as (wr H w))
    | none => none)

def opOne (nm : Nat) (t : List V) (H : Heap) (o : Oper) : Option (Ex × List V × Heap) :=
  match evOp P (fun _ => true) 0 (hget H) (rho t) (atN o nm) with
  | none => (match moreOp P (hget H) (rho t) nm o.op with
    | some (v, ws) => some (.normal, putT t o.dst v, wrL H ws)
    | none => none)
  | some (.val v w) => some (.normal, putT t o.dst v, wr H w)
  | some (.panic v) => some (.panic v, t, H)
  | some (.call f args) => (match callOp pol C (nextOf H) f args H with
    | some (.ret v, H') => some (.normal, putT t o.dst v, H')
    | some (.pan v, H') => some (.panic v, t, H')
    | none => none)
  | some (.round f s args) => (match C none (.yield f s :: args) H with
    | some (.ret v, H') => some (.normal, putT t o.dst v, H')
    | _ => none)

def runOps (ops : Array Oper) : List Oper → List V → Heap → Option (Ex × List V × Heap)
  | [], t, H => some (.normal, t, H)
  | o :: r, t, H => match wantedV ops t o with
    | none => none
    | some false => runOps ops r (putT t o.dst nov) H
    | some true => (match opOne P pol C (nextOf H) t H o with
      | some (.normal, t, H) => runOps ops r t H
      | x => x)
def loopN (body : Body) : Nat → Body
  | 0, _, _ => none
  | n + 1, t, H => match body t H with
    | some (.normal, t, H) => loopN body n t H
    | r => r


end

inductive FP where
  | quiet
  | ids (r w : List (Nat × Nat)) (fresh : Bool)
  | call (k : Nat → Nat → Bool)
  | all

def FP.indep : FP → FP → Bool
  | .quiet, _ | _, .quiet => true
  | .ids r w _, .ids r' w' _ => !meets w r' && !meets w w' && !meets w' r
  | .call k, .ids r w fresh => (w.isEmpty || fresh) && r.all fun x => k x.1 x.2
  | .ids r w _, .call k => w.isEmpty && r.all fun x => k x.1 x.2
  | _, _ => false

def idsL (ws : List (Nat × Nat × O)) : List (Nat × Nat) := ws.map fun x => (x.1, x.2.1)
def isFresh (nm : Nat) (H : Heap) : List (Nat × Nat × O) → Bool
  | [(f, s, _)] => Nat.beq f 0 && Nat.beq s nm && (hget H 0 nm).isNone
  | _ => false
def keeps (lim : Nat) (H H1 : Heap) : Nat → Nat → Bool := fun f s => Nat.ble lim (nextOf H) && eqbG (hget H f s) (hget H1 f s)

section
variable (P : Program) (pol : Pol) (C : Call)

def fpOf (lim nm : Nat) (t : List V) (H H1 : Heap) (o : Oper) : FP :=
  if quietOp o.op then .quiet else if farOp o.op then .all else
  match evOp P (fun _ => true) 0 (hget H) (rho t) (atN o nm) with
  | some (.val _ w) => .ids (idsOf 0 (rho t) (atN o nm)) (idsL w.toList) (isFresh nm H w.toList)
  | none => (match moreOp P (hget H) (rho t) nm o.op with
    | some (_, ws) => .ids (idsOf 0 (rho t) (atN o nm)) (idsL ws) (isFresh nm H ws)
    | none => .all)
  | some (.call _ _) => .call (keeps lim H H1)
  | _ => .all

def runOpsT (ops : Array Oper) (lim : Nat) : Nat → List Oper → List V → Heap → Option (List V × Heap × List FP)
  | _, [], t, H => some (t, H, [])
  | nm, o :: r, t, H => match wantedV ops t o with
    | none => none
    | some false => (match runOpsT ops lim (nm + 1) r (putT t o.dst nov) H with
      | some (t', H', T) => some (t', H', .quiet :: T)
      | none => none)
    | some true => (match opOne P pol C nm t H o with
      | some (.normal, t1, H1) => (match runOpsT ops lim (nm + 1) r t1 H1 with
        | some (t', H', T) => some (t', H', fpOf P lim nm t H H1 o :: T)
        | none => none)
      | _ => none)
end

def okT (bef : Array Nat) : List (FP × Nat) → Bool
  | [] => true
  | (a, i) :: r => r.all (fun (b, j) => (bef.getD j 0).testBit i || a.indep b) && okT bef r
def FP.loud : FP → Bool
  | .quiet => false
  | _ => true
def loud (T : List FP) : List (FP × Nat) := T.zipIdx.filter fun x => x.1.loud


def loopEnd (s : Nat) (t : List V) (H : Heap) : Out :=
  match hget H 0 s with
  | some (.loop st pend _ _ _) => if st = 1 then none else
      (match pend with
      | none => some (.normal, t, hset H 0 s .dead)
      | some none => some (.ret, t, hset H 0 s .dead)
      | some (some i) => some (.exit i, t, hset H 0 s .dead))
  | _ => none

section
variable (P : Program) (pol : Pol) (C : Call) (L : Body → Body) (fn : Nat)

mutual
def exec : Code → Body
  | .skip => fun t H => some (.normal, t, H)
  | .region _ ops draw => fun t H => if draw then (match hget H 0 (nextOf H + ops.size) with
      | some _ => none
      | none => (match runOpsT P pol C ops (nextOf H + ops.size) (nextOf H) ops.toList t (hset H 0 (nextOf H + ops.size) .dead) with
        | some (t', H', T) => if okT (Region.before ops) (loud T) then some (.normal, t', H') else none
        | none => none)) else runOps P pol C ops ops.toList t H
  | .seq a b => fun t H => (match exec a t H with
    | some (.normal, t, H) => exec b t H
    | r => r)
  | .cond c x y => fun t H => (match rho t c with
    | .bool b => if b then exec x t H else exec y t H
    | _ => none)
  | .block id b => fun t H => (match exec b t H with
    | some (.exit i, t, H) => if i = id then some (.normal, t, H) else some (.exit i, t, H)
    | r => r)
  | .loop b => fun t H => (match pol.loop fn (fstRegion b) with
    | some g => (g t H).map fun x => (.normal, x.1, x.2)
    | none => L (fun t H => match headNext b with
      | none => exec b t H
      | some x => (match nextC (hget H) (rho t x) with
        | some [c] => execF b c.1 c.2 t H
        | _ => none)) t H)
  | .exit id => fun t H => some (.exit id, t, H)
  | .ret => fun t H => some (.ret, t, H)
  | .rangeFunc g _ a b => fun t H => (match rho t g with
    | .func (.func f) first cap => (match hget H 0 (nextOf H) with
      | none => (match C (some f) (first ++ [.yield 0 (nextOf H)] ++ cap) (hset H 0 (nextOf H) (.loop 0 none fn (loopId a b) t)) with
        | some (.ret _, H2) => loopEnd (nextOf H) t H2
        | _ => none)
      | some _ => none)
    | _ => none)
  | _ => fun _ _ => none
def execF : Code → V → Option (Nat × Nat × O) → Body
  | .region _ ops _ => fun v w t H => (match ops.toList with
    | o :: r => runOps P pol C ops r (putT t o.dst v) (wr H w)
    | [] => none)
  | .seq a b => fun v w t H => (match execF a v w t H with
    | some (.normal, t, H) => exec b t H
    | r => r)
  | _ => fun _ _ _ _ => none
end

def roundEnd (fo so : Nat) (e : Ex) (H : Heap) : Option (Rt × Heap) :=
  match hget H fo so with
  | some (.loop _ _ fL rid t0) => (match e with
    | .normal => some (.ret (.bool true), hset H fo so (.loop 0 none fL rid t0))
    | .ret => some (.ret (.bool false), hset H fo so (.loop 2 (some none) fL rid t0))
    | .exit i => some (.ret (.bool false), hset H fo so (.loop 2 (some (some i)) fL rid t0))
    | .panic _ => none)
  | _ => none
def callR (fo so : Nat) (args : List V) (H : Heap) : Option (Rt × Heap) :=
  match hget H fo so with
  | some (.loop 0 _ fL rid t0) => (match loopAt P fL rid with
    | some (ps, a, b) => if args.length = ps.size then
        (match exec P pol C L fL a (putArgs t0 (ps.toList.zip args)) H with
        | some (.normal, t1, H1) => (match hget H1 fo so with
          | some (.loop 0 pend fL' rid' t0') => (match exec P pol C L fL b t1 (hset H1 fo so (.loop 1 pend fL' rid' t0')) with
            | some (e, _, H2) => roundEnd fo so e H2
            | none => none)
          | _ => none)
        | _ => none) else none
    | none => none)
  | _ => none

def callF (f : FuncId) (args : List V) (H : Heap) : Option (Rt × Heap) :=
  match P.funcs[f]? with
  | some F => (match F.body with
    | some c => (match exec P pol C L f c (args ++ List.replicate (F.ntmps - args.length) .bad) H with
      | some (.normal, t, H') | some (.ret, t, H') => (match resV P F t H' with
        | some v => some (.ret v, H')
        | none => none)
      | some (.panic v, _, H') => some (.pan v, H')
      | _ => none)
    | none => none)
  | none => none
def callB (f : Option FuncId) (args : List V) (H : Heap) : Option (Rt × Heap) :=
  match f with
  | some f => callF P pol C L f args H
  | none => (match args with
    | .yield fo so :: rest => callR P pol C L fo so rest H
    | _ => none)
end

def callN (P : Program) (pol : Pol) : Nat → Call
  | 0 => fun _ _ _ => none
  | n + 1 => callB P pol (callN P pol n) (fun b => loopN b n)

end Go.AM.BM
end
section
/- The machine for closed laws: what an operation comes to, it comes to beside more objects, too. -/
namespace Go.AM.BM

def GLe (g g' : Get) : Prop := ∀ f s x, g f s = some x → g' f s = some x

section
variable {P : Program} {mt : Nat → Bool} {fr : Nat} {g g' : Get}

theorem sliceCells_mono (hg : GLe g g') {esz : Nat} {x : V} {r : List V × Nat} (h : sliceCells g esz x = some r) : sliceCells g' esz x = some r := by
  unfold sliceCells at h ⊢
  cases x <;> try exact h
  rename_i f s o0 len cap e0
  cases hq : g f s with
  | none => exfalso; simp only [hq] at h; (repeat' split at h) <;> cases h
  | some o => simp only [hg _ _ _ hq]; simp only [hq] at h; exact h
theorem new_mono {dst : Option Nat} {o : O} {v : Nat → V} (hd : ∀ d, dst = some d → g' fr d = g fr d) : new g' fr dst o v = new g fr dst o v := new_congr fun d e => hd d e
theorem sliceV_mono (hg : GLe g g') {t : TypeId} {x : V} {lo hi mx : Option V} {r : V} (h : sliceV P g t x lo hi mx = some r) : sliceV P g' t x lo hi mx = some r := by
  unfold sliceV at h ⊢
  cases x <;> try exact h
  rename_i f s o0
  cases hq : g f s with
  | none => exfalso; simp only [hq] at h; (repeat' split at h) <;> first | (cases h; done) | (simp at h; done)
  | some o => simp only [hg _ _ _ hq]; simp only [hq] at h; exact h
theorem lookupV_mono (hg : GLe g g') {t : TypeId} {m k : V} {ok : Bool} {r : V} (h : lookupV P g t m k ok = some r) : lookupV P g' t m k ok = some r := by
  unfold lookupV at h ⊢
  cases m <;> try exact h
  rename_i f s
  cases hq : g f s with
  | none => exfalso; simp only [hq] at h; (repeat' split at h) <;> cases h
  | some o => simp only [hg _ _ _ hq]; simp only [hq] at h; exact h
theorem updateV_mono (hg : GLe g g') {t : TypeId} {m k x : V} {r : Step} (h : updateV P g t m k x = some r) : updateV P g' t m k x = some r := by
  unfold updateV at h ⊢
  cases m <;> try exact h
  rename_i f s
  cases hq : g f s with
  | none => exfalso; simp only [hq] at h; (repeat' split at h) <;> cases h
  | some o => simp only [hg _ _ _ hq]; simp only [hq] at h; exact h
theorem appSrc_mono (hg : GLe g g') {t2 : TypeId} {n b : Nat} {z : List V} {x : V} {r : List V × Nat} (h : appSrc P g t2 n b z x = some r) : appSrc P g' t2 n b z x = some r := by
  unfold appSrc at h ⊢
  split at h <;> try exact h
  exact sliceCells_mono hg h
theorem grown_mono {dst : Option Nat} {cs chk : List V} {n esz : Nat} (hd : ∀ d, dst = some d → g' fr d = g fr d) : grown mt g' fr dst cs chk n esz = grown mt g fr dst cs chk n esz := grown_congr fun d e => hd d e
theorem appendTo_mono (hg : GLe g g') {dst : Option Nat} (hd : ∀ d, dst = some d → g' fr d = g fr d) {n b m : Nat} {s : V} {nw : List V} {st : Step} (h : appendTo mt fr g dst n b s nw m = some st) : appendTo mt fr g' dst n b s nw m = some st := by
  unfold appendTo at h ⊢
  have e : ∀ cs chk n esz, grown mt g' fr dst cs chk n esz = grown mt g fr dst cs chk n esz := fun cs chk n esz => grown_mono hd
  simp only [e]
  cases s <;> try exact h
  case islice cs len full => cases full <;> exact h
  case gslice f s cs len e0 =>
    cases hq : g f s with
    | none => exfalso; simp only [hq] at h; (repeat' split at h) <;> cases h
    | some o => simp only [hg _ _ _ hq]; simp only [hq] at h; exact h
  rename_i f s o0 len cap e0
  cases hq : g f s with
  | none => exfalso; simp only [hq] at h; (repeat' split at h) <;> cases h
  | some o => simp only [hg _ _ _ hq]; simp only [hq] at h; exact h
theorem appendV_mono (hg : GLe g g') {dst : Option Nat} (hd : ∀ d, dst = some d → g' fr d = g fr d) {t t2 : TypeId} {s x : V} {st : Step} (h : appendV P mt fr g dst t t2 s x = some st) : appendV P mt fr g' dst t t2 s x = some st := by
  unfold appendV at h ⊢
  split at h <;> try (cases h; done)
  split at h <;> try (cases h; done)
  split at h <;> try (cases h; done)
  rename_i h5
  rw [if_pos h5]
  split at h
  · cases h
  · rename_i he; rw [appSrc_mono hg he]; exact h
  · rename_i he; rw [appSrc_mono hg he]; exact appendTo_mono hg hd h
theorem lenV_mono (hg : GLe g g') {t : TypeId} {x : V} {r : V} (h : lenV P g t x = some r) : lenV P g' t x = some r := by
  unfold lenV at h ⊢
  cases hu : P.underlying t with
  | none => rw [hu] at h; cases h
  | some d =>
    rw [hu] at h
    cases d <;> cases x <;> first | exact h | (cases h; done) | skip
    rename_i f s
    cases hq : g f s with
    | none => exfalso; simp only [hq] at h; cases h
    | some o => simp only [hg _ _ _ hq]; simp only [hq] at h; exact h
theorem copySrc_mono (hg : GLe g g') {n : Nat} {x : V} {r : List V × Nat} (h : copySrc g n x = some r) : copySrc g' n x = some r := by
  unfold copySrc at h ⊢
  split at h <;> try exact h
  exact sliceCells_mono hg h
theorem copyTo_mono (hg : GLe g g') {n m : Nat} {d : V} {cs : List V} {r : Step} (h : copyTo g n d cs m = some r) : copyTo g' n d cs m = some r := by
  unfold copyTo at h ⊢
  cases d <;> try exact h
  rename_i f s o0 len cap e0
  cases hq : g f s with
  | none => exfalso; simp only [hq] at h; (repeat' split at h) <;> cases h
  | some o => simp only [hg _ _ _ hq]; simp only [hq] at h; exact h
theorem copyV_mono (hg : GLe g g') {t : TypeId} {d s : V} {r : Step} (h : copyV P g t d s = some r) : copyV P g' t d s = some r := by
  unfold copyV at h ⊢
  split at h <;> try (cases h; done)
  split at h <;> try (cases h; done)
  split at h <;> try (cases h; done)
  rename_i he
  rw [copySrc_mono hg he]
  exact copyTo_mono hg h
theorem deleteV_mono (hg : GLe g g') {t : TypeId} {m k : V} {r : Step} (h : deleteV P g t m k = some r) : deleteV P g' t m k = some r := by
  unfold deleteV at h ⊢
  cases m <;> try exact h
  rename_i f s
  cases hq : g f s with
  | none => exfalso; simp only [hq] at h; (repeat' split at h) <;> cases h
  | some o => simp only [hg _ _ _ hq]; simp only [hq] at h; exact h
theorem convertV_mono (hg : GLe g g') {s d : TypeId} {x : V} {r : Step} (h : convertV P g s d x = some r) : convertV P g' s d x = some r := by
  unfold convertV at h ⊢
  split at h <;> try exact h
  · split at h <;> try (cases h; done)
    split at h <;> try (cases h; done)
    rename_i he
    rw [sliceCells_mono hg he]; exact h
  · split at h <;> try (cases h; done)
    rename_i h1
    rw [if_pos h1]
    split at h <;> try (cases h; done)
    rename_i h2 h3
    simp only [h2, hg _ _ _ h3]; exact h
theorem builtinV_mono (hg : GLe g g') {dst : Option Nat} (hd : ∀ d, dst = some d → g' fr d = g fr d) {b : Builtin} {ts : Array TypeId} {args : List V} {r : Step} (h : builtinV P mt fr g dst b ts args = some r) : builtinV P mt fr g' dst b ts args = some r := by
  unfold builtinV at h ⊢
  split at h <;> try exact h
  · split at h <;> try (cases h; done)
    exact appendV_mono hg hd h
  · split at h <;> try (cases h; done)
    obtain ⟨v, h2, h3⟩ := Option.map_eq_some_iff.1 h
    rw [lenV_mono hg h2, ← h3]; rfl
  · split at h <;> try (cases h; done)
    exact copyV_mono hg h
  · split at h <;> try (cases h; done)
    exact deleteV_mono hg h
theorem rangeV_mono (hg : GLe g g') {dst : Option Nat} (hd : ∀ d, dst = some d → g' fr d = g fr d) {t : TypeId} {x : V} {r : Step} (h : rangeV P g fr dst t x = some r) : rangeV P g' fr dst t x = some r := by
  unfold rangeV at h ⊢
  have nw : ∀ (ob : O) (v : Nat → V), new g' fr dst ob v = new g fr dst ob v := fun ob v => new_mono hd
  simp only [nw]
  cases hu : P.underlying t with
  | none => rw [hu] at h; cases h
  | some d =>
    rw [hu] at h
    cases d <;> cases x <;> first | exact h | (cases h; done) | skip
    rename_i f s
    cases hq : g f s with
    | none => exfalso; simp only [hq] at h; cases h
    | some o => simp only [hg _ _ _ hq]; simp only [hq] at h; exact h
theorem entryV_mono (hg : GLe g g') {x : V} {r : V} (h : entryV g x = some r) : entryV g' x = some r := by
  unfold entryV at h ⊢
  split at h <;> try (cases h; done)
  split at h <;> try (cases h; done)
  rename_i h1
  rw [hg _ _ _ h1]
  simp only
  split at h <;> try (cases h; done)
  rename_i h2 h3
  simp only [hg _ _ _ h2, h3]; exact h
theorem mapEntryV_mono (hg : GLe g g') {t : TypeId} {m k : V} {r : Step} (h : mapEntryV P g t m k = some r) : mapEntryV P g' t m k = some r := by
  unfold mapEntryV at h ⊢
  cases m <;> try exact h
  rename_i f s
  cases hq : g f s with
  | none => exfalso; simp only [hq] at h; (repeat' split at h) <;> cases h
  | some o => simp only [hg _ _ _ hq]; simp only [hq] at h; exact h
theorem entryStoreV_mono (hg : GLe g g') {m s x : V} {r : Step} (h : entryStoreV g m s x = some r) : entryStoreV g' m s x = some r := by
  unfold entryStoreV at h ⊢
  split at h <;> try (cases h; done)
  split at h <;> try (cases h; done)
  rename_i h1
  rw [hg _ _ _ h1]; exact h

theorem map_mono {α β : Type} {a b : Option α} {f : α → β} {r : β} (hab : ∀ x, a = some x → b = some x) (h : a.map f = some r) : b.map f = some r := by
  obtain ⟨v, h2, h3⟩ := Option.map_eq_some_iff.1 h
  rw [hab _ h2, ← h3]; rfl

theorem evOp_mono (hg : GLe g g') {ρ : Operand → V} {o : Oper} (hd : ∀ d, o.dst = some d → g' fr d = g fr d) {st : Step} (h : evOp P mt fr g ρ o = some st) : evOp P mt fr g' ρ o = some st := by
  have nw : ∀ (ob : O) (v : Nat → V), new g' fr o.dst ob v = new g fr o.dst ob v := fun ob v => new_mono hd
  unfold evOp at h ⊢
  cases ho : o.op <;> rw [ho] at h <;> simp only [nw] at h ⊢ <;> try exact h
  case load =>
    split at h <;> try exact h
    split at h <;> try (cases h; done)
    rename_i he; rw [hg _ _ _ he]; exact h
  case store =>
    split at h <;> try (cases h; done)
    split at h <;> try (cases h; done)
    rename_i he; rw [hg _ _ _ he]; exact h
  case convert =>
    split at h
    · exact h
    · exact convertV_mono hg h
  case slice => exact map_mono (fun x hx => sliceV_mono hg hx) h
  case lookup => exact map_mono (fun x hx => lookupV_mono hg hx) h
  case mapUpdate => exact updateV_mono hg h
  case insert => exact updateV_mono hg h
  case call c =>
    cases hc : c.callee <;> rw [hc] at h <;> simp only at h ⊢ <;> try exact h
    exact builtinV_mono hg hd h
  case range => exact rangeV_mono hg hd h
  case entry => exact map_mono (fun x hx => entryV_mono hg hx) h
  case mapEntry => exact mapEntryV_mono hg h
  case entryStore => exact entryStoreV_mono hg h

def Tgt (g : Get) (fr : Nat) (dst : Option Nat) (st : Step) : Prop := ∀ v f s o, st = .val v (some (f, s, o)) → (∃ x, g f s = some x) ∨ (f = fr ∧ dst = some s)
theorem Tgt.none {dst : Option Nat} {v : V} : Tgt g fr dst (.val v none) := fun _ _ _ _ h => by cases h
theorem Tgt.of {dst : Option Nat} {v : V} {f s : Nat} {o x : O} (h : g f s = some x) : Tgt g fr dst (.val v (some (f, s, o))) := fun _ _ _ _ e => by cases e; exact .inl ⟨x, h⟩
theorem new_tgt {dst : Option Nat} {o : O} {v : Nat → V} {st : Step} (h : new g fr dst o v = some st) : Tgt g fr dst st := by
  unfold new at h
  (repeat' split at h) <;> cases h
  exact fun _ _ _ _ e => by cases e; exact .inr ⟨rfl, rfl⟩
theorem grown_tgt {dst : Option Nat} {cs chk : List V} {n esz : Nat} {st : Step} (h : grown mt g fr dst cs chk n esz = some st) : Tgt g fr dst st := by
  unfold grown at h
  (repeat' split at h) <;> first | (cases h; done) | exact new_tgt h
theorem updateV_tgt {dst : Option Nat} {t : TypeId} {m k x : V} {st : Step} (h : updateV P g t m k x = some st) : Tgt g fr dst st := by
  unfold updateV at h
  (repeat' split at h) <;> cases h <;> exact Tgt.of (by assumption)
theorem appendTo_tgt {dst : Option Nat} {n b m : Nat} {s : V} {nw : List V} {st : Step} (h : appendTo mt fr g dst n b s nw m = some st) : Tgt g fr dst st := by
  unfold appendTo at h
  (repeat' split at h) <;> first | (cases h; done) | exact grown_tgt h | (cases h; exact Tgt.of (by assumption))
theorem appendV_tgt {dst : Option Nat} {t t2 : TypeId} {s x : V} {st : Step} (h : appendV P mt fr g dst t t2 s x = some st) : Tgt g fr dst st := by
  unfold appendV at h
  (repeat' split at h) <;> first | (cases h; done) | exact appendTo_tgt h | (cases h; exact Tgt.none)
theorem copyV_tgt {dst : Option Nat} {t : TypeId} {d s : V} {st : Step} (h : copyV P g t d s = some st) : Tgt g fr dst st := by
  unfold copyV copyTo at h
  (repeat' split at h) <;> first | (cases h; done) | (cases h; exact Tgt.none) | (cases h; exact Tgt.of (by assumption))
theorem deleteV_tgt {dst : Option Nat} {t : TypeId} {m k : V} {st : Step} (h : deleteV P g t m k = some st) : Tgt g fr dst st := by
  unfold deleteV at h
  (repeat' split at h) <;> first | (cases h; done) | (cases h; exact Tgt.none) | (cases h; exact Tgt.of (by assumption))
theorem convertV_tgt {dst : Option Nat} {s d : TypeId} {x : V} {st : Step} (h : convertV P g s d x = some st) : Tgt g fr dst st := by
  unfold convertV at h
  (repeat' split at h) <;> first | (cases h; done) | (cases h; exact Tgt.none) | (cases h; exact Tgt.of (by assumption)) | (obtain ⟨_, _, rfl⟩ := Option.map_eq_some_iff.1 h; exact Tgt.none)
theorem mapv_tgt {dst : Option Nat} {x : Option V} {st : Step} (h : (x.map fun v => Step.val v none) = some st) : Tgt g fr dst st := by
  obtain ⟨_, _, rfl⟩ := Option.map_eq_some_iff.1 h; exact Tgt.none
theorem builtinV_tgt {dst : Option Nat} {b : Builtin} {ts : Array TypeId} {args : List V} {st : Step} (h : builtinV P mt fr g dst b ts args = some st) : Tgt g fr dst st := by
  unfold builtinV at h
  (repeat' split at h) <;> first | (cases h; done) | exact appendV_tgt h | exact copyV_tgt h | exact deleteV_tgt h | exact mapv_tgt h
theorem rangeV_tgt {dst : Option Nat} {t : TypeId} {x : V} {st : Step} (h : rangeV P g fr dst t x = some st) : Tgt g fr dst st := by
  unfold rangeV at h
  (repeat' split at h) <;> first | (cases h; done) | exact new_tgt h
theorem mapEntryV_tgt {dst : Option Nat} {t : TypeId} {m k : V} {st : Step} (h : mapEntryV P g t m k = some st) : Tgt g fr dst st := by
  unfold mapEntryV at h
  (repeat' split at h) <;> first | (cases h; done) | (cases h; exact Tgt.of (by assumption))
theorem entryStoreV_tgt {dst : Option Nat} {m s x : V} {st : Step} (h : entryStoreV g m s x = some st) : Tgt g fr dst st := by
  unfold entryStoreV at h
  split at h <;> try (cases h; done)
  split at h <;> try (cases h; done)
  obtain ⟨_, _, rfl⟩ := Option.map_eq_some_iff.1 h
  exact Tgt.of (by assumption)

theorem evOp_tgt {ρ : Operand → V} {o : Oper} {st : Step} (h : evOp P mt fr g ρ o = some st) : Tgt g fr o.dst st := by
  unfold evOp at h
  cases ho : o.op <;> rw [ho] at h <;> simp only at h
  case alloc => obtain ⟨_, _, h⟩ := Option.bind_eq_some_iff.1 h; exact new_tgt h
  case box => obtain ⟨_, _, h⟩ := Option.bind_eq_some_iff.1 h; exact new_tgt h
  case convert =>
    split at h
    · exact new_tgt h
    · exact convertV_tgt h
  case mapUpdate => exact updateV_tgt h
  case insert => exact updateV_tgt h
  case range => exact rangeV_tgt h
  case mapEntry => exact mapEntryV_tgt h
  case entryStore => exact entryStoreV_tgt h
  case call c =>
    split at h
    · exact builtinV_tgt h
    · split at h <;> cases h <;> exact fun _ _ _ _ e => by cases e
    · cases h
  all_goals ((repeat' split at h) <;> first | (cases h; done) | exact mapv_tgt h | exact new_tgt h | (cases h; exact Tgt.none) | (cases h; exact Tgt.of (by assumption)) | (cases h; exact fun _ _ _ _ e => by cases e))

theorem growV_mono (hg : GLe g g') {nm : Nat} (hd : g' 0 nm = g 0 nm) {t t2 : TypeId} {s x : V} {r : V × List (Nat × Nat × O)} (h : growV P g nm t t2 s x = some r) : growV P g' nm t t2 s x = some r := by
  unfold growV at h ⊢
  split at h <;> try (cases h; done)
  split at h <;> try (cases h; done)
  split at h <;> try (cases h; done)
  rename_i h1
  rw [if_pos h1]
  split at h <;> try (cases h; done)
  rename_i h2 h3 h4
  rw [hg _ _ _ h2, hd, h3, appSrc_mono hg h4]
  exact h
theorem clearV_mono (hg : GLe g g') {t : TypeId} {s : V} {r : V × List (Nat × Nat × O)} (h : clearV P g t s = some r) : clearV P g' t s = some r := by
  unfold clearV at h ⊢
  split at h <;> try (cases h; done)
  split at h <;> try (cases h; done)
  · exact h
  · split at h
    · rename_i e; rw [if_pos e]; exact h
    rename_i e; rw [if_neg e]
    split at h <;> try (cases h; done)
    rename_i he
    rw [hg _ _ _ he]; exact h
theorem moreOp_mono (hg : GLe g g') {nm : Nat} (hd : g' 0 nm = g 0 nm) {ρ : Operand → V} {o : Op} {r : V × List (Nat × Nat × O)} (h : moreOp P g ρ nm o = some r) : moreOp P g' ρ nm o = some r := by
  unfold moreOp at h ⊢
  split at h <;> try (cases h; done)
  split at h <;> try (cases h; done)
  · exact growV_mono hg hd h
  · exact clearV_mono hg h
theorem moreOp_tgt {nm : Nat} {ρ : Operand → V} {o : Op} {v : V} {ws : List (Nat × Nat × O)} (h : moreOp P g ρ nm o = some (v, ws)) : ∀ x ∈ ws, (∃ y, g x.1 x.2.1 = some y) ∨ (x.1 = 0 ∧ x.2.1 = nm) := by
  unfold moreOp at h
  split at h <;> try (cases h; done)
  split at h <;> try (cases h; done)
  · unfold growV at h
    (repeat' split at h) <;> cases h
    rename_i h2 h3 h4 _
    intro x hx
    simp only [List.mem_cons, List.not_mem_nil, or_false] at hx
    rcases hx with rfl | rfl
    · exact .inl ⟨_, h2⟩
    · exact .inr ⟨rfl, rfl⟩
  · unfold clearV at h
    (repeat' split at h) <;> cases h
    · intro x hx; cases hx
    · intro x hx; cases hx
    · rename_i he _
      intro x hx
      rw [List.mem_singleton] at hx
      subst hx
      exact .inl ⟨_, he⟩

end
end Go.AM.BM
end
