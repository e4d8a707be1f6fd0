/- This file holds in one the texts An28, An29, An30; each says at its head what it proves. -/
import Derived.Test.YtjakoidjbcnhbaaGreatDoorT21
set_option linter.unusedSimpArgs false
set_option linter.unusedVariables false
section
/- The abstract machine, part 28: forgetting at a loop's head, calls, in the words of the step lemmas. -/
namespace Go.AM

theorem refsL_none : ∀ (l : List V), refsL (fun _ _ => false) l = false
  | [] => rfl
  | x :: l => by simp [refsL, refs_none x, refsL_none l]
theorem refsM_none : ∀ (l : List (V × V)), refsM (fun _ _ => false) l = false
  | [] => rfl
  | (a, b) :: l => by simp [refsM, refs_none, refsM_none l]
theorem orefs_none (o : O) : o.refs (fun _ _ => false) = false := by
  cases o with
  | iter m a b c => cases m <;> rfl
  | _ => simp [O.refs, refsL_none, refsM_none]
theorem clearF_none : ∀ (f : Frame), clearF (fun _ _ => false) f = true
  | [] => rfl
  | (a, o) :: r => by simp [clearF, orefs_none, clearF_none r]
theorem clearH_none : ∀ (H : Heap), clearH (fun _ _ => false) H = true
  | [] => rfl
  | f :: r => by simp [clearH, clearF_none, clearH_none r]
theorem fdel_none : ∀ (f : Frame), fdel (fun _ => false) f = f
  | [] => rfl
  | (a, o) :: r => by simp [fdel, fdel_none r]
theorem modify_same {α : Type} (f : α → α) (h : ∀ x, f x = x) : ∀ (l : List α) (i : Nat), l.modify i f = l
  | [], i => by simp
  | x :: l, 0 => by simp [h]
  | x :: l, i + 1 => by simp [modify_same f h l i]

theorem forget_keep {pol : Pol} {fn fr r : Nat} {kt : List Nat} {t : List V} {H : Heap} (h : pol.keep fn r = some (kt, [])) (hm : pol.move fn r = none := by rfl) : forget pol fn fr r t H = some (maskT kt t 0, H) := by
  have e : (fun f s : Nat => f == fr && ([] : List Nat).contains s) = fun _ _ => false := by funext f s; simp
  have e2 : (fun s : Nat => ([] : List Nat).contains s) = fun _ => false := by funext s; simp
  unfold forget forgetK
  rw [h]
  simp only [e, e2]
  rw [refsL_none, modify_same _ fdel_none, clearH_none]
  simp only [Bool.false_eq_true, if_false, if_true, hm]

theorem forget_drop {pol : Pol} {fn fr r : Nat} {kt ds : List Nat} {t : List V} {H : Heap} (hk : pol.keep fn r = some (kt, ds)) (h1 : refsL (fun f s => f == fr && ds.contains s) (maskT kt t 0) = false) (h2 : clearH (fun f s => f == fr && ds.contains s) (H.modify fr (fdel fun s => ds.contains s)) = true) (hm : pol.move fn r = none := by rfl) :
    forget pol fn fr r t H = some (maskT kt t 0, H.modify fr (fdel fun s => ds.contains s)) := by
  simp only [forget, forgetK, hk, h1, h2, if_true, Bool.false_eq_true, if_false, hm]

section
variable {P : Program} {pol : Pol} {C : Call} {L : MBody → Body} {fn fr : Nat} {t : List V} {H : Heap}

theorem round_eq {b : Code} {t1 : List V} {H1 : Heap} (hn : headNext b = none) (h : forget pol fn fr (fstRegion b) t H = some (t1, H1)) : round P pol C L fn fr b t H = [U P pol C L fn fr [.code b] .normal t1 H1] := by
  simp only [round, h, hn]
  rw [u_start]

theorem maskT_length (kt : List Nat) : ∀ (t : List V) (i : Nat), (maskT kt t i).length = t.length
  | [], _ => rfl
  | x :: t, i => by simp [maskT, maskT_length kt t]
theorem maskT_mask (kt : List Nat) : ∀ (t : List V) (i : Nat), maskT kt (maskT kt t i) i = maskT kt t i
  | [], _ => rfl
  | x :: t, i => by
    simp only [maskT, maskT_mask kt t]
    split <;> rfl
theorem loop_mask {b : Code} {kt : List Nat} (h : pol.keep fn (fstRegion b) = some (kt, [])) (hm : pol.move fn (fstRegion b) = none := by rfl) : loopW (round P pol C L fn fr b) t H = loopW (round P pol C L fn fr b) (maskT kt t 0) H := by
  rw [loopW_eq, loopW_eq (t := maskT kt t 0)]
  simp only [round, forget_keep h hm, maskT_mask]

def ending (P : Program) (F : Func) (b : Nat) : Out → Option (Rt × Heap)
  | some (.normal, t, H) | some (.ret, t, H) => (match resV P F t H with
    | some v => some (.ret v, popF b v H)
    | none => none)
  | some (.panic v, _, H) => some (.pan v, popF b v H)
  | _ => none

theorem call_ofS {f : FuncId} {F : Func} {c : Code} {args : List V} {r : Rt × Heap} (hF : P.funcs[f]? = some F) (hc : F.body = some c)
    (h : ending P F H.length (settleO (pol.settle f) (U P pol (callW P pol) loopW f H.length [.code c] .normal (args ++ List.replicate (F.ntmps - args.length) .bad) (H ++ [[]]))) = some r) : callW P pol f args H = some r := by
  refine callW_of ?_
  show callF P pol (callW P pol) loopW f args H = some r
  unfold callF
  rw [hF]
  simp only [hc, u_start]
  rw [← h]
  rfl
theorem call_of {f : FuncId} {F : Func} {c : Code} {args : List V} {r : Rt × Heap} (hF : P.funcs[f]? = some F) (hc : F.body = some c)
    (h : ending P F H.length (U P pol (callW P pol) loopW f H.length [.code c] .normal (args ++ List.replicate (F.ntmps - args.length) .bad) (H ++ [[]])) = some r) (hs : pol.settle f = [] := by rfl) : callW P pol f args H = some r :=
  call_ofS hF hc (by rw [hs, settleO_nil]; exact h)

theorem frz_islice {g : Get} {cs : List V} {n : Nat} {b : Bool} : frz g depth (.islice cs n b) = some (.islice cs n b) := rfl
theorem frz_nilslice {g : Get} : frz g depth .nilslice = some .nilslice := rfl
theorem frz_int {g : Get} {k : IntKind} {n : Int} : frz g depth (.int k n) = some (.int k n) := rfl
theorem frz_bool {g : Get} {b : Bool} : frz g depth (.bool b) = some (.bool b) := rfl
theorem frz_str {g : Get} {s : List UInt8} : frz g depth (.str s) = some (.str s) := rfl
theorem frzL_cons {f : V → Option V} {x y : V} {l m : List V} (h : f x = some y) (h2 : frzL f l = some m) : frzL f (x :: l) = some (y :: m) := by simp only [frzL, h, h2]

theorem callOp_pure {dst : Option Nat} {f : FuncId} {args args' : List V} {v v' : V} {H' : Heap} (hp : pol.prim f = none) (hq : pol.pure fn f = true) (ha : frzL (frz (fun _ _ => none) depth) args = some args')
    (h : C f args' [] = some (.ret v, H')) (hv : frz (hget H') depth v = some v') : callOp pol C fn fr dst f args H = some (.ret v', H) := by
  simp only [callOp, hp, hq, if_true, ha, h, hv, Option.map_some]

end


section
variable {P : Program} {pol : Pol} {C : Call} {L : MBody → Body} {fn fr : Nat} {t : List V} {H : Heap} {k : List It} {r : List Oper} {d : Option Nat} {ty : TypeId} {ps : String} {af : Array Edge} {x y : Operand}

def gd (a : Array Oper) (t : List V) (j : Nat) : Option V := ((a[j]?).bind (·.dst)).bind (t[·]?)

theorem u_when_t {a : Array Oper} {op : Op} {j : Nat} {want : Bool} (h : gd a t j = some (.bool want)) :
    U P pol C L fn fr (.ops a ({ dst := d, op := op, type := ty, pos := ps, after := af, guard := some (j, want) } :: r) :: k) .normal t H =
      U P pol C L fn fr (.ops a ({ dst := d, op := op, type := ty, pos := ps, after := af, guard := none } :: r) :: k) .normal t H := by
  rw [u_guard h, if_pos rfl]
theorem u_when_f {a : Array Oper} {op : Op} {j : Nat} {want : Bool} (h : gd a t j = some (.bool !want)) :
    U P pol C L fn fr (.ops a ({ dst := d, op := op, type := ty, pos := ps, after := af, guard := some (j, want) } :: r) :: k) .normal t H =
      U P pol C L fn fr (.ops a r :: k) .normal (putT t d nov) H := by
  rw [u_guard h, if_neg (by cases want <;> simp)]
theorem u_if_t {c : Operand} {a b : Code} (h : rho t c = .bool true) : U P pol C L fn fr (.code (.cond c a b) :: k) .normal t H = U P pol C L fn fr (.code a :: k) .normal t H := by
  rw [u_cond h, if_pos rfl]
theorem u_if_f {c : Operand} {a b : Code} (h : rho t c = .bool false) : U P pol C L fn fr (.code (.cond c a b) :: k) .normal t H = U P pol C L fn fr (.code b :: k) .normal t H := by
  rw [u_cond h, if_neg (by decide)]
theorem u_sel_t {a : Array Oper} {c : Operand} (h : rho t c = .bool true) : U P pol C L fn fr (.ops a ({ dst := d, op := .pick c x y, type := ty, pos := ps, after := af, guard := none } :: r) :: k) .normal t H =
    U P pol C L fn fr (.ops a r :: k) .normal (putT t d (rho t x)) H := by rw [u_pick h, if_pos rfl]
theorem u_sel_f {a : Array Oper} {c : Operand} (h : rho t c = .bool false) : U P pol C L fn fr (.ops a ({ dst := d, op := .pick c x y, type := ty, pos := ps, after := af, guard := none } :: r) :: k) .normal t H =
    U P pol C L fn fr (.ops a r :: k) .normal (putT t d (rho t y)) H := by rw [u_pick h, if_neg (by decide)]
end
end Go.AM
end
section
/- The abstract machine, part 29: the step lemmas, with nothing of the rest under a binder. -/
namespace Go.AM

section
variable (P : Program) (pol : Pol) (C : Call) (L : MBody → Body) (fn fr : Nat)

def UB (X : Option V) (d : Option Nat) (k : List It) (t : List V) (H : Heap) : Out := X.bind fun v => U P pol C L fn fr k .normal (putT t d v) H
def UC (X : Option (Rt × Heap)) (d : Option Nat) (k k' : List It) (t : List V) : Out := match X with
  | some (.ret v, H) => U P pol C L fn fr k .normal (putT t d v) H
  | some (.pan v, H) => U P pol C L fn fr k' (.panic v) t H
  | none => none
def UR (X : Option (Rt × Heap)) (d : Option Nat) (k : List It) (t : List V) : Out := match X with
  | some (.ret v, H) => U P pol C L fn fr k .normal (putT t d v) H
  | _ => none
def US (X : Option Step) (d : Option Nat) (k k' : List It) (t : List V) (H : Heap) : Out := match X with
  | some (.val v w) => U P pol C L fn fr k .normal (putT t d v) (wr H w)
  | some (.panic v) => U P pol C L fn fr k' (.panic v) t H
  | some (.call f args) => UC P pol C L fn fr (callOp pol C fn fr d f args H) d k k' t
  | some (.round f s args) => UR P pol C L fn fr (C none (.yield f s :: args) H) d k t
  | none => none
def UL (X : Out) (k : List It) : Out := X.bind fun x => U P pol C L fn fr k x.1 x.2.1 x.2.2
def UI (v : V) (k k' : List It) (t : List V) (H : Heap) : Out := match v with
  | .bool true => U P pol C L fn fr k .normal t H
  | .bool false => U P pol C L fn fr k' .normal t H
  | _ => none
def UG (v : Option V) (want : Bool) (k k' : List It) (d : Option Nat) (t : List V) (H : Heap) : Out := match v with
  | some (.bool b) => if b = want then U P pol C L fn fr k .normal t H else U P pol C L fn fr k' .normal (putT t d nov) H
  | some (.tuple []) => U P pol C L fn fr k' .normal (putT t d nov) H
  | _ => none
end

section
variable {P : Program} {pol : Pol} {C : Call} {L : MBody → Body} {fn fr : Nat} {ops : Array Oper} {r : List Oper} {t : List V} {H : Heap} {d : Option Nat} {ty u : TypeId} {ps : String} {af : Array Edge} {x y z : Operand} {k k' : List It} {v : V} {a : Array Oper}

theorem ub_some : UB P pol C L fn fr (some v) d k t H = U P pol C L fn fr k .normal (putT t d v) H := rfl
theorem uc_ret : UC P pol C L fn fr (some (.ret v, H)) d k k' t = U P pol C L fn fr k .normal (putT t d v) H := rfl
theorem uc_pan : UC P pol C L fn fr (some (.pan v, H)) d k k' t = U P pol C L fn fr k' (.panic v) t H := rfl
theorem us_val {w : Option (Nat × Nat × O)} : US P pol C L fn fr (some (.val v w)) d k k' t H = U P pol C L fn fr k .normal (putT t d v) (wr H w) := rfl
theorem us_call {f : FuncId} {args : List V} : US P pol C L fn fr (some (.call f args)) d k k' t H = UC P pol C L fn fr (callOp pol C fn fr d f args H) d k k' t := rfl
theorem us_panic : US P pol C L fn fr (some (.panic v)) d k k' t H = U P pol C L fn fr k' (.panic v) t H := rfl
theorem ul_some {e : Ex} : UL P pol C L fn fr (some (e, t, H)) k = U P pol C L fn fr k e t H := rfl
theorem ui_true : UI P pol C L fn fr (.bool true) k k' t H = U P pol C L fn fr k .normal t H := rfl
theorem ui_false : UI P pol C L fn fr (.bool false) k k' t H = U P pol C L fn fr k' .normal t H := rfl
theorem ug_tt : UG P pol C L fn fr (some (.bool true)) true k k' d t H = U P pol C L fn fr k .normal t H := rfl
theorem ug_ff : UG P pol C L fn fr (some (.bool false)) false k k' d t H = U P pol C L fn fr k .normal t H := rfl
theorem ug_tf : UG P pol C L fn fr (some (.bool true)) false k k' d t H = U P pol C L fn fr k' .normal (putT t d nov) H := rfl
theorem ug_ft : UG P pol C L fn fr (some (.bool false)) true k k' d t H = U P pol C L fn fr k' .normal (putT t d nov) H := rfl

theorem ug_no {want : Bool} : UG P pol C L fn fr (some (.tuple [])) want k k' d t H = U P pol C L fn fr k' .normal (putT t d nov) H := rfl
theorem w_loop {b : Code} : U P pol C L fn fr (.code (.loop b) :: k) .normal t H = UL P pol C L fn fr (L (round P pol C L fn fr b) t H) k := rfl
theorem w_cond {c : Operand} {p q : Code} : U P pol C L fn fr (.code (.cond c p q) :: k) .normal t H = UI P pol C L fn fr (rho t c) (.code p :: k) (.code q :: k) t H := by
  rw [u_if]
  cases rho t c with
  | bool b => cases b <;> rfl
  | _ => rfl
theorem w_guard {op : Op} {j : Nat} {want : Bool} : U P pol C L fn fr (.ops a ({ dst := d, op := op, type := ty, pos := ps, after := af, guard := some (j, want) } :: r) :: k) .normal t H =
    UG P pol C L fn fr (gd a t j) want (.ops a ({ dst := d, op := op, type := ty, pos := ps, after := af, guard := none } :: r) :: k) (.ops a r :: k) d t H := by
  rw [u_when]; rfl
theorem w_op {op : Op} : U P pol C L fn fr (.ops a ({ dst := d, op := op, type := ty, pos := ps, after := af, guard := none } :: r) :: k) .normal t H =
    US P pol C L fn fr (evOp P (pol.mt fn) fr (hget H) (rho t) { dst := d, op := op, type := ty, pos := ps, after := af, guard := none }) d (.ops a r :: k) k t H := by
  rw [u_other]
  cases evOp P (pol.mt fn) fr (hget H) (rho t) { dst := d, op := op, type := ty, pos := ps, after := af, guard := none } with
  | none => rfl
  | some s =>
    cases s with
    | val v w => rfl
    | panic v => rfl
    | call f args =>
      simp only [US, UC]
      cases callOp pol C fn fr d f args H with
      | none => rfl
      | some q => obtain ⟨q, H'⟩ := q; cases q <;> rfl
    | round f s args =>
      simp only [US, UR]
      cases C none (.yield f s :: args) H with
      | none => rfl
      | some q => obtain ⟨q, H'⟩ := q; cases q <;> rfl
theorem tok_int {mt : Nat → Bool} {dst : Option Nat} {s d : TypeId} {k : IntKind} {n : Int} : tokOf P mt dst s d (.int k n) = none := by
  unfold tokOf
  split
  · rename_i h; cases h
  · rfl
theorem us_round {f s : Nat} {args : List V} : US P pol C L fn fr (some (.round f s args)) d k k' t H = UR P pol C L fn fr (C none (.yield f s :: args) H) d k t := rfl
theorem ur_ret : UR P pol C L fn fr (some (.ret v, H)) d k t = U P pol C L fn fr k .normal (putT t d v) H := rfl
end
end Go.AM
end
section
/- The abstract machine, part 30: what holds of an outcome (W), of a call (CW), of a call on an empty heap (Fz); rules for branches, loops and calls. -/
namespace Go.AM

def W (X : Out) (Q : Ex → List V → Heap → Prop) : Prop := match X with
  | some (e, t, H) => Q e t H
  | none => False

theorem W.mono {X : Out} {Q Q' : Ex → List V → Heap → Prop} (h : W X Q) (k : ∀ e t H, Q e t H → Q' e t H) : W X Q' := by
  cases X with
  | none => exact h
  | some x => exact k _ _ _ h
theorem W.of_eq {X : Out} {e : Ex} {t : List V} {H : Heap} {Q : Ex → List V → Heap → Prop} (h : X = some (e, t, H)) (k : Q e t H) : W X Q := by subst h; exact k
theorem W.out {X : Out} {Q : Ex → List V → Heap → Prop} (h : W X Q) : ∃ e t H, X = some (e, t, H) ∧ Q e t H := by
  cases X with
  | none => exact h.elim
  | some x => exact ⟨_, _, _, rfl, h⟩

section
variable {P : Program} {pol : Pol} {C : Call} {L : MBody → Body} {fn fr : Nat} {t : List V} {H : Heap} {d : Option Nat} {k k' : List It} {Q : Ex → List V → Heap → Prop}

theorem W.done {e : Ex} (h : Q e t H) : W (some (e, t, H)) Q := h
theorem W.ite {b : Bool} (h1 : b = true → W (U P pol C L fn fr k .normal t H) Q) (h2 : b = false → W (U P pol C L fn fr k' .normal t H) Q) : W (UI P pol C L fn fr (.bool b) k k' t H) Q := by
  cases b with
  | true => exact h1 rfl
  | false => exact h2 rfl
theorem W.guard {b want : Bool} (h1 : b = want → W (U P pol C L fn fr k .normal t H) Q) (h2 : b = (!want) → W (U P pol C L fn fr k' .normal (putT t d nov) H) Q) : W (UG P pol C L fn fr (some (.bool b)) want k k' d t H) Q := by
  unfold UG
  by_cases h : b = want
  · simp only [h, if_true]; exact h1 h
  · simp only [h, if_false]; exact h2 (by cases b <;> cases want <;> simp_all)
theorem W.guardT {b : Bool} (h1 : b = true → W (U P pol C L fn fr k .normal t H) Q) (h2 : b = false → W (U P pol C L fn fr k' .normal (putT t d nov) H) Q) : W (UG P pol C L fn fr (some (.bool b)) true k k' d t H) Q := W.guard h1 h2
theorem W.guardF {b : Bool} (h1 : b = false → W (U P pol C L fn fr k .normal t H) Q) (h2 : b = true → W (U P pol C L fn fr k' .normal (putT t d nov) H) Q) : W (UG P pol C L fn fr (some (.bool b)) false k k' d t H) Q := W.guard h1 h2
theorem W.ul {X : Out} (h : W X fun e t H => W (U P pol C L fn fr k e t H) Q) : W (UL P pol C L fn fr X k) Q := by
  cases X with
  | none => exact h.elim
  | some x => exact h
theorem W.uc {X : Option (Rt × Heap)} {v : V} {H' : Heap} (h : X = some (.ret v, H')) (h2 : W (U P pol C L fn fr k .normal (putT t d v) H') Q) : W (UC P pol C L fn fr X d k k' t) Q := by
  subst h; exact h2

theorem W.loop {α : Type} {b : Code} (I : α → List V → Heap → Prop) (m : α → Nat)
    (step : ∀ a t H, I a t H → ∃ t1 H1, forget pol fn fr (fstRegion b) t H = some (t1, H1) ∧ W (U P pol C loopW fn fr [.code b] .normal t1 H1) fun e t2 H2 => match e with
      | .normal => ∃ a', I a' t2 H2 ∧ m a' < m a
      | e => Q e t2 H2) (a : α) (h : I a t H) (hn : headNext b = none := by rfl) : W (loopW (round P pol C loopW fn fr b) t H) Q := by
  induction hm : m a using Nat.strongRecOn generalizing a t H with
  | ind n ih =>
    subst hm
    obtain ⟨t1, H1, h1, h2⟩ := step a t H h
    obtain ⟨e, t2, H2, h3, h4⟩ := h2.out
    rw [loopW_one ((round_eq hn h1).trans (by rw [h3]))]
    cases e with
    | normal =>
      obtain ⟨a', h5, h6⟩ := h4
      exact ih _ h6 a' h5 rfl
    | exit i => exact h4
    | ret => exact h4
    | panic v => exact h4

theorem W.loopS {α : Type} {b : Code} {kt : List Nat} (hk : pol.keep fn (fstRegion b) = some (kt, [])) (S : α → List V) (HS : α → Heap) (I : α → Prop) (m : α → Nat)
    (step : ∀ a, I a → W (U P pol C loopW fn fr [.code b] .normal (S a) (HS a)) fun e t2 H2 => match e with
      | .normal => ∃ a', maskT kt t2 0 = S a' ∧ H2 = HS a' ∧ I a' ∧ m a' < m a
      | e => Q e t2 H2) (a : α) (h : I a) (ht : maskT kt t 0 = S a) (hH : H = HS a) (hn : headNext b = none := by rfl) (hm : pol.move fn (fstRegion b) = none := by rfl) : W (loopW (round P pol C loopW fn fr b) t H) Q := by
  refine W.loop (Q := Q) (fun a t H => maskT kt t 0 = S a ∧ H = HS a ∧ I a) m ?_ a ⟨ht, hH, h⟩ hn
  rintro a t H ⟨h1, h2, h3⟩
  refine ⟨S a, HS a, by rw [forget_keep hk hm, h1, h2], (step a h3).mono ?_⟩
  intro e t2 H2 h4
  cases e with
  | normal => obtain ⟨a', q1, q2, q3, q4⟩ := h4; exact ⟨a', ⟨q1, q2, q3⟩, q4⟩
  | exit i => exact h4
  | ret => exact h4
  | panic v => exact h4

def End (P : Program) (F : Func) (b : Nat) (R : Rt → Heap → Prop) (e : Ex) (t : List V) (H : Heap) : Prop := match e with
  | .normal | .ret => ∃ v, resV P F t H = some v ∧ R (.ret v) (popF b v H)
  | .panic v => R (.pan v) (popF b v H)
  | .exit _ => False
theorem End.ret {F : Func} {b : Nat} {R : Rt → Heap → Prop} {v : V} (h : resV P F t H = some v) (h2 : R (.ret v) (popF b v H)) : End P F b R .ret t H := ⟨v, h, h2⟩
theorem End.normal {F : Func} {b : Nat} {R : Rt → Heap → Prop} {v : V} (h : resV P F t H = some v) (h2 : R (.ret v) (popF b v H)) : End P F b R .normal t H := ⟨v, h, h2⟩

def CW (P : Program) (pol : Pol) (f : FuncId) (args : List V) (H : Heap) (R : Rt → Heap → Prop) : Prop := ∃ r H', callW P pol f args H = some (r, H') ∧ R r H'
theorem CW.mono {f : FuncId} {args : List V} {R R' : Rt → Heap → Prop} (h : CW P pol f args H R) (k : ∀ r H', R r H' → R' r H') : CW P pol f args H R' := by
  obtain ⟨r, H', h1, h2⟩ := h; exact ⟨r, H', h1, k _ _ h2⟩

theorem cw_of {f : FuncId} {F : Func} {c : Code} {args : List V} {R : Rt → Heap → Prop} (hF : P.funcs[f]? = some F) (hc : F.body = some c)
    (h : W (U P pol (callW P pol) loopW f H.length [.code c] .normal (args ++ List.replicate (F.ntmps - args.length) .bad) (H ++ [[]])) (End P F H.length R)) (hs : pol.settle f = [] := by rfl) : CW P pol f args H R := by
  obtain ⟨e, t', H', h1, h2⟩ := h.out
  have key : ∀ r, ending P F H.length (some (e, t', H')) = some r → callW P pol f args H = some r := fun r hr => call_of hF hc (by rw [h1]; exact hr) hs
  cases e with
  | normal =>
    obtain ⟨v, h3, h4⟩ := h2
    exact ⟨_, _, key (.ret v, popF H.length v H') (by simp only [ending, h3]), h4⟩
  | ret =>
    obtain ⟨v, h3, h4⟩ := h2
    exact ⟨_, _, key (.ret v, popF H.length v H') (by simp only [ending, h3]), h4⟩
  | exit i => exact h2.elim
  | panic v => exact ⟨_, _, key (.pan v, popF H.length v H') rfl, h2⟩

theorem cw_ofS {f : FuncId} {F : Func} {c : Code} {args : List V} {R : Rt → Heap → Prop} (hF : P.funcs[f]? = some F) (hc : F.body = some c)
    (h : W (U P pol (callW P pol) loopW f H.length [.code c] .normal (args ++ List.replicate (F.ntmps - args.length) .bad) (H ++ [[]])) fun e t H' => match e with
      | .normal | .ret => ∃ H2, settleL (pol.settle f) t H' = some H2 ∧ End P F H.length R .ret t H2
      | e => End P F H.length R e t H') : CW P pol f args H R := by
  obtain ⟨e, t', H', h1, h2⟩ := h.out
  have key : ∀ r, ending P F H.length (settleO (pol.settle f) (some (e, t', H'))) = some r → callW P pol f args H = some r := fun r hr => call_ofS hF hc (by rw [h1]; exact hr)
  cases e with
  | normal =>
    obtain ⟨H2, hl, v, h3, h4⟩ := h2
    exact ⟨_, _, key (.ret v, popF H.length v H2) (by simp only [settleO, hl, Option.map_some, ending, h3]), h4⟩
  | ret =>
    obtain ⟨H2, hl, v, h3, h4⟩ := h2
    exact ⟨_, _, key (.ret v, popF H.length v H2) (by simp only [settleO, hl, Option.map_some, ending, h3]), h4⟩
  | exit i => exact h2.elim
  | panic v => exact ⟨_, _, key (.pan v, popF H.length v H') rfl, h2⟩

def Fz (P : Program) (pol : Pol) (f : FuncId) (args : List V) (R : V → Prop) : Prop := ∃ v H' v', callW P pol f args [] = some (.ret v, H') ∧ frz (hget H') depth v = some v' ∧ R v'
theorem Fz.mono {f : FuncId} {args : List V} {R R' : V → Prop} (h : Fz P pol f args R) (k : ∀ v, R v → R' v) : Fz P pol f args R' := by
  obtain ⟨v, H', v', h1, h2, h3⟩ := h; exact ⟨v, H', v', h1, h2, k _ h3⟩
theorem Fz.of_cw {f : FuncId} {args : List V} {R : V → Prop} (h : CW P pol f args [] fun r H' => ∃ v, r = .ret v ∧ ∃ v', frz (hget H') depth v = some v' ∧ R v') : Fz P pol f args R := by
  obtain ⟨r, H', h1, v, rfl, v', h2, h3⟩ := h; exact ⟨v, H', v', h1, h2, h3⟩

theorem Fz.op' {f : FuncId} {args args' : List V} {R : V → Prop} (h : Fz P pol f args' R) (hp : pol.prim f = none) (ha : frzL (frz (fun _ _ => none) depth) args = some args') :
    ∃ v, R v ∧ ∀ (fn fr : Nat) (d : Option Nat) (H : Heap), pol.pure fn f = true → callOp pol (callW P pol) fn fr d f args H = some (.ret v, H) := by
  obtain ⟨v, H', v', h1, h2, h3⟩ := h
  exact ⟨v', h3, fun fn fr d H hq => callOp_pure hp hq ha h1 h2⟩
theorem Fz.op {f : FuncId} {args : List V} {R : V → Prop} (h : Fz P pol f args R) (hp : pol.prim f = none) (ha : frzL (frz (fun _ _ => none) depth) args = some args) :
    ∃ v, R v ∧ ∀ (fn fr : Nat) (d : Option Nat) (H : Heap), pol.pure fn f = true → callOp pol (callW P pol) fn fr d f args H = some (.ret v, H) := by
  obtain ⟨v, H', v', h1, h2, h3⟩ := h
  exact ⟨v', h3, fun fn fr d H hq => callOp_pure hp hq ha h1 h2⟩
theorem callOp_in {f : FuncId} {args : List V} {r : Rt × Heap} (hp : pol.prim f = none) (hq : pol.pure fn f = false) (ht : pol.thin fn f = false) (h : callW P pol f args H = some r) (hl : pol.lift fn f = false := by rfl) (hk : pol.look fn f = false := by rfl) : callOp pol (callW P pol) fn fr d f args H = some r := by
  simp only [callOp, hp, hq, hl, hk, thinArgs, ht, Bool.false_eq_true, if_false, h]
theorem callOp_thin {f : FuncId} {args args' : List V} {r : Rt × Heap} (hp : pol.prim f = none) (hq : pol.pure fn f = false) (ht : pol.thin fn f = true) (ha : frzL (frz (fun _ _ => none) depth) args = some args') (h : callW P pol f args' H = some r) (hl : pol.lift fn f = false := by rfl) (hk : pol.look fn f = false := by rfl) :
    callOp pol (callW P pol) fn fr d f args H = some r := by
  simp only [callOp, hp, hq, hl, hk, thinArgs, ht, if_true, ha, Bool.false_eq_true, if_false, h]
end

/-! ### A value that names no object freezes alike everywhere -/
theorem or_false_left {a b : Bool} (h : (a || b) = false) : a = false := by cases a <;> simp_all
theorem or_false_right {a b : Bool} (h : (a || b) = false) : b = false := by cases a <;> simp_all
theorem frz_noRefs (g g' : Get) : ∀ (n : Nat), (∀ v : V, v.refs (fun _ _ => true) = false → frz g n v = frz g' n v)
  | 0 => fun _ _ => rfl
  | n + 1 => by
    have ih := frz_noRefs g g' n
    have ihL : ∀ l : List V, refsL (fun _ _ => true) l = false → frzL (frz g n) l = frzL (frz g' n) l := by
      intro l
      induction l with
      | nil => intro _; rfl
      | cons x l ihl =>
        intro h
        simp only [refsL, Bool.or_eq_false_iff] at h
        simp only [frzL, ih x h.1, ihl h.2]
    intro v h
    cases v with
    | ptr => simp [V.refs] at h
    | gslice => simp [V.refs] at h
    | mslice => simp [V.refs] at h
    | map => simp [V.refs] at h
    | func fn a b =>
      simp only [V.refs, Bool.or_eq_false_iff] at h
      simp only [frz, ihL a h.1, ihL b h.2]
    | face t x => simp only [V.refs] at h; simp only [frz, ih x h]
    | agg cs => simp only [V.refs] at h; simp only [frz, ihL cs h]
    | tuple cs => simp only [V.refs] at h; simp only [frz, ihL cs h]
    | rptr cs o => simp only [V.refs] at h; simp only [frz, ihL cs h]
    | _ => rfl

theorem refs_ext {p q : Nat → Nat → Bool} (h : ∀ a b, p a b = q a b) (v : V) : v.refs p = v.refs q := by
  have : p = q := by funext a b; exact h a b
  rw [this]

theorem frz_popF (v : V) (H : Heap) (n : Nat) : frz (hget (popF 0 v H)) n v = frz (hget H) n v := by
  unfold popF
  split
  · rename_i h
    simp only [Bool.and_eq_true, Bool.not_eq_true'] at h
    apply frz_noRefs
    rw [← h.1]
    exact refs_ext (fun a b => by simp) v
  · rfl

section
variable {P : Program} {pol : Pol}
def EndZ (P : Program) (F : Func) (R : V → Prop) (e : Ex) (t : List V) (H : Heap) : Prop := match e with
  | .normal | .ret => ∃ v v', resV P F t H = some v ∧ frz (hget H) depth v = some v' ∧ R v'
  | _ => False
theorem EndZ.ret {F : Func} {R : V → Prop} {t : List V} {H : Heap} {v v' : V} (h : resV P F t H = some v) (h1 : frz (hget H) depth v = some v') (h2 : R v') : EndZ P F R .ret t H := ⟨v, v', h, h1, h2⟩
theorem EndZ.normal {F : Func} {R : V → Prop} {t : List V} {H : Heap} {v v' : V} (h : resV P F t H = some v) (h1 : frz (hget H) depth v = some v') (h2 : R v') : EndZ P F R .normal t H := ⟨v, v', h, h1, h2⟩
theorem fz_of {f : FuncId} {F : Func} {c : Code} {args : List V} {R : V → Prop} (hF : P.funcs[f]? = some F) (hc : F.body = some c)
    (h : W (U P pol (callW P pol) loopW f 0 [.code c] .normal (args ++ List.replicate (F.ntmps - args.length) .bad) [[]]) (EndZ P F R)) (hs : pol.settle f = [] := by rfl) : Fz P pol f args R := by
  apply Fz.of_cw
  refine cw_of hF hc (h.mono ?_) hs
  intro e t H h
  cases e with
  | normal => obtain ⟨v, v', h1, h2, h3⟩ := h; exact ⟨v, h1, v, rfl, v', by rw [← h2]; exact frz_popF v H depth, h3⟩
  | ret => obtain ⟨v, v', h1, h2, h3⟩ := h; exact ⟨v, h1, v, rfl, v', by rw [← h2]; exact frz_popF v H depth, h3⟩
  | exit i => exact h.elim
  | panic v => exact h.elim
end

/-! ### Slices that no longer change -/

def IsSl (esz : Nat) (v : V) (cells : List V) (n : Nat) : Prop := cells.length = n * esz ∧ ((v = .nilslice ∧ n = 0) ∨ ∃ full, v = .islice cells n full)

theorem IsSl.mk {esz : Nat} {cells : List V} {n : Nat} {full : Bool} (h : cells.length = n * esz) : IsSl esz (.islice cells n full) cells n := ⟨h, .inr ⟨full, rfl⟩⟩
theorem IsSl.nil {esz : Nat} : IsSl esz .nilslice [] 0 := ⟨by simp, .inl ⟨rfl, rfl⟩⟩

section
variable {P : Program} {esz n : Nat} {v : V} {cells : List V} {u e : TypeId} {g : Get} {k : IntKind}
theorem IsSl.frz (h : IsSl esz v cells n) (m : Nat) : AM.frz g (m + 1) v = some v := by
  obtain ⟨_, ⟨rfl, _⟩ | ⟨f, rfl⟩⟩ := h <;> rfl
theorem IsSl.len (hu : P.underlying u = some (.slice e)) (h : IsSl esz v cells n) : ∀ g, lenV P g u v = some (.int .i64 n) := by
  intro g
  obtain ⟨_, ⟨rfl, rfl⟩ | ⟨f, rfl⟩⟩ := h
  · exact ln_nil hu
  · exact ln_islice hu _ _ _
theorem IsSl.at (hu : P.underlying u = some (.slice e)) (hs : sz P e = some esz) (he : 0 < esz) (h : IsSl esz v cells n) {i : Int} (h0 : 0 ≤ i) (hi : i < n) : indexAddrV P u v (.int k i) = some (.iptr cells (i.toNat * esz)) := by
  obtain ⟨hl, ⟨rfl, rfl⟩ | ⟨f, rfl⟩⟩ := h
  · omega
  · rw [ia_of hu hs, if_pos ⟨h0, hi, hl, he⟩]
theorem IsSl.sc (h : IsSl esz v cells n) : sliceCells g esz v = some (cells, n) := by
  obtain ⟨hl, ⟨rfl, rfl⟩ | ⟨f, rfl⟩⟩ := h
  · have : cells = [] := List.eq_nil_of_length_eq_zero (by simpa using hl)
    subst this; rfl
  · simp [sliceCells, hl]
theorem IsSl.noRefs (h : IsSl esz v cells n) (p : Nat → Nat → Bool) : v.refs p = false := by
  obtain ⟨_, ⟨rfl, _⟩ | ⟨f, rfl⟩⟩ := h <;> rfl
theorem IsSl.pure (h : IsSl esz v cells n) : v.pure = true := by
  obtain ⟨_, ⟨rfl, _⟩ | ⟨f, rfl⟩⟩ := h <;> rfl
end

theorem cutI_of {cells : List V} {n esz : Nat} {full : Bool} (hl : cells.length = n * esz) (lo hi : Option Int) (h0 : 0 ≤ lo.getD 0) (h1 : lo.getD 0 ≤ hi.getD n) (h2 : hi.getD n ≤ n) :
    ∃ f, cutI cells n full esz lo hi none = some (.islice ((cells.drop ((lo.getD 0).toNat * esz)).take (((hi.getD n).toNat - (lo.getD 0).toNat) * esz)) ((hi.getD n).toNat - (lo.getD 0).toNat) f) := by
  refine ⟨(full || (none : Option Int).isSome) && ((n : Int).toNat == (hi.getD n).toNat), ?_⟩
  simp only [cutI, hl, if_true, cuts, Option.getD_none]
  rw [if_pos ⟨by omega, by omega, by omega, by omega, h0, h1, by simp⟩]

theorem IsSl.cut {P : Program} {esz n : Nat} {v : V} {cells : List V} {u e : TypeId} (hu : P.underlying u = some (.slice e)) (hs : sz P e = some esz) (h : IsSl esz v cells n) (lo hi : Option Int)
    (h0 : 0 ≤ lo.getD 0) (h1 : lo.getD 0 ≤ hi.getD n) (h2 : hi.getD n ≤ n) :
    ∃ w, (∀ g, sliceV P g u v (lo.map (.int .i64)) (hi.map (.int .i64)) none = some w) ∧ IsSl esz w ((cells.drop ((lo.getD 0).toNat * esz)).take (((hi.getD n).toNat - (lo.getD 0).toNat) * esz)) ((hi.getD n).toNat - (lo.getD 0).toNat) := by
  have ol : optInt (lo.map (.int .i64)) = some lo := by cases lo <;> rfl
  have oh : optInt (hi.map (.int .i64)) = some hi := by cases hi <;> rfl
  have on : optInt none = some none := rfl
  obtain ⟨hl, ⟨rfl, rfl⟩ | ⟨f, rfl⟩⟩ := h
  · refine ⟨.nilslice, fun g => ?_, ?_⟩
    · simp only [sliceV, ol, oh, on, hu, hs, cuts]
      rw [if_pos ⟨by simp, by simp, by simp only [Int.natCast_zero] at *; omega, by simp at *; omega, h0, h1, by simp⟩]
    · have : cells = [] := List.eq_nil_of_length_eq_zero (by simpa using hl)
      subst this
      have e : (hi.getD (0 : Nat)).toNat - (lo.getD 0).toNat = 0 := by omega
      rw [e]
      exact ⟨by simp, .inl ⟨rfl, rfl⟩⟩
  · obtain ⟨f', e⟩ := cutI_of (full := f) hl lo hi h0 h1 h2
    refine ⟨_, fun g => ?_, IsSl.mk (full := f') ?_⟩
    · simp only [sliceV, ol, oh, on, hu, hs]
      exact e
    · rw [List.length_take, List.length_drop, hl, ← Nat.sub_mul]
      apply Nat.min_eq_left
      apply Nat.mul_le_mul_right
      omega

def IsBytes (v : V) (l : List UInt8) : Prop := IsSl 1 v (ofBytes l) l.length
theorem ofBytes_length (l : List UInt8) : (ofBytes l).length = l.length := by simp [ofBytes]
theorem ofBytes_get (l : List UInt8) (i : Nat) : (ofBytes l)[i]? = (l[i]?).map fun b => .int .u8 b.toNat := by simp [ofBytes]
theorem ofBytes_take (l : List UInt8) (n : Nat) : (ofBytes l).take n = ofBytes (l.take n) := by simp [ofBytes]
theorem ofBytes_drop (l : List UInt8) (n : Nat) : (ofBytes l).drop n = ofBytes (l.drop n) := by simp [ofBytes]
theorem ofBytes_append (l m : List UInt8) : ofBytes (l ++ m) = ofBytes l ++ ofBytes m := by simp [ofBytes]
theorem IsBytes.mk (l : List UInt8) (full : Bool) : IsBytes (.islice (ofBytes l) l.length full) l := IsSl.mk (by simp [ofBytes_length])
theorem IsBytes.nil : IsBytes .nilslice [] := IsSl.nil
theorem bytesOf_ofBytes : ∀ l : List UInt8, AM.bytesOf (ofBytes l) = some l
  | [] => rfl
  | b :: l => by
    have := bytesOf_ofBytes l
    simp only [ofBytes, List.map_cons, AM.bytesOf] at this ⊢
    rw [this]
    simp
theorem IsBytes.bytesV {v : V} {l : List UInt8} {g : Get} (h : IsBytes v l) : bytesV g v = some l := by
  have hc := IsSl.sc (g := g) h
  obtain ⟨_, ⟨rfl, _⟩ | ⟨f, rfl⟩⟩ := h <;> simp only [AM.bytesV, hc, bytesOf_ofBytes]

theorem IsBytes.cut {P : Program} {v : V} {l : List UInt8} {u e : TypeId} (hu : P.underlying u = some (.slice e)) (hs : sz P e = some 1) (h : IsBytes v l) (lo hi : Option Int)
    (h0 : 0 ≤ lo.getD 0) (h1 : lo.getD 0 ≤ hi.getD l.length) (h2 : hi.getD l.length ≤ l.length) :
    ∃ w, (∀ g, sliceV P g u v (lo.map (.int .i64)) (hi.map (.int .i64)) none = some w) ∧ IsBytes w ((l.drop (lo.getD 0).toNat).take ((hi.getD l.length).toNat - (lo.getD 0).toNat)) := by
  obtain ⟨w, h3, h4⟩ := IsSl.cut hu hs h lo hi h0 h1 h2
  refine ⟨w, h3, ?_⟩
  simp only [Nat.mul_one, ofBytes_drop, ofBytes_take] at h4
  unfold IsBytes
  rwa [show ((l.drop (lo.getD 0).toNat).take ((hi.getD l.length).toNat - (lo.getD 0).toNat)).length = (hi.getD l.length).toNat - (lo.getD 0).toNat by rw [List.length_take, List.length_drop]; omega]

def ofInts (l : List Int) : List V := l.map fun i => .int .i64 i
def IsInts (v : V) (l : List Int) : Prop := IsSl 1 v (ofInts l) l.length
theorem ofInts_length (l : List Int) : (ofInts l).length = l.length := by simp [ofInts]
theorem ofInts_get (l : List Int) (i : Nat) : (ofInts l)[i]? = (l[i]?).map fun b => .int .i64 b := by simp [ofInts]
theorem ofInts_append (l m : List Int) : ofInts (l ++ m) = ofInts l ++ ofInts m := by simp [ofInts]
theorem IsInts.mk (l : List Int) (full : Bool) : IsInts (.islice (ofInts l) l.length full) l := IsSl.mk (by simp [ofInts_length])
theorem IsInts.nil : IsInts .nilslice [] := IsSl.nil

theorem pureL_ofBytes (l : List UInt8) : pureL (ofBytes l) = true := by
  induction l with
  | nil => rfl
  | cons b l ih => simp only [ofBytes, List.map_cons, pureL, V.pure, Bool.true_and] at ih ⊢; exact ih
theorem pureL_ofInts (l : List Int) : pureL (ofInts l) = true := by
  induction l with
  | nil => rfl
  | cons b l ih => simp only [ofInts, List.map_cons, pureL, V.pure, Bool.true_and] at ih ⊢; exact ih

end Go.AM
end
