/- The abstract machine, part 28: forgetting at a loop's head, calls, in the words of the step lemmas. -/
import Derived.Test.YtpbhldhmjmfigaaDoorAm27
set_option linter.unusedSimpArgs false
set_option linter.unusedVariables false
namespace Go.AM

theorem refsL_none : ∀ (l : List V), refsL (fun _ _ => false) l = false
  | [] => rfl
  | x :: l => by simp [refsL, refs_none x, refsL_none l]
theorem refsM_none : ∀ (l : List (V × V)), refsM (fun _ _ => false) l = false
  | [] => rfl
  | (a, b) :: l => by simp [refsM, refs_none, refsM_none l]
theorem orefs_none (o : O) : o.refs (fun _ _ => false) = false := by
  cases o <;> simp [O.refs, refsL_none, refsM_none]
theorem clearF_none : ∀ (f : Frame), clearF (fun _ _ => false) f = true
  | [] => rfl
  | (a, o) :: r => by simp [clearF, orefs_none, clearF_none r]
theorem clearH_none : ∀ (H : Heap), clearH (fun _ _ => false) H = true
  | [] => rfl
  | f :: r => by simp [clearH, clearF_none, clearH_none r]
theorem fdel_none : ∀ (f : Frame), fdel (fun _ => false) f = f
  | [] => rfl
  | (a, o) :: r => by simp [fdel, fdel_none r]
theorem modify_same {α : Type} (f : α → α) (h : ∀ x, f x = x) : ∀ (l : List α) (i : Nat), l.modify i f = l
  | [], i => by simp
  | x :: l, 0 => by simp [h]
  | x :: l, i + 1 => by simp [modify_same f h l i]

theorem forget_keep {pol : Pol} {fn fr r : Nat} {kt : List Nat} {t : List V} {H : Heap} (h : pol.keep fn r = some (kt, [])) : forget pol fn fr r t H = some (maskT kt t 0, H) := by
  have e : (fun f s : Nat => f == fr && ([] : List Nat).contains s) = fun _ _ => false := by funext f s; simp
  have e2 : (fun s : Nat => ([] : List Nat).contains s) = fun _ => false := by funext s; simp
  unfold forget
  rw [h]
  simp only [e, e2]
  rw [refsL_none, modify_same _ fdel_none, clearH_none]
  rfl

section
variable {P : Program} {pol : Pol} {C : Call} {L : Body → Body} {fn fr : Nat} {t : List V} {H : Heap}

theorem round_keep {b : Code} {kt : List Nat} (h : pol.keep fn (fstRegion b) = some (kt, [])) : round P pol C L fn fr b t H = U P pol C L fn fr [.code b] .normal (maskT kt t 0) H := by
  simp only [round, forget_keep h]
  exact u_start b

theorem maskT_length (kt : List Nat) : ∀ (t : List V) (i : Nat), (maskT kt t i).length = t.length
  | [], _ => rfl
  | x :: t, i => by simp [maskT, maskT_length kt t]
theorem maskT_mask (kt : List Nat) : ∀ (t : List V) (i : Nat), maskT kt (maskT kt t i) i = maskT kt t i
  | [], _ => rfl
  | x :: t, i => by
    simp only [maskT, maskT_mask kt t]
    split <;> rfl
theorem loop_mask {b : Code} {kt : List Nat} (h : pol.keep fn (fstRegion b) = some (kt, [])) : loopW (round P pol C L fn fr b) t H = loopW (round P pol C L fn fr b) (maskT kt t 0) H := by
  rw [loopW_eq, loopW_eq (t := maskT kt t 0), round_keep h, round_keep h, maskT_mask]

/-- A call's ending. -/
def ending (P : Program) (F : Func) (b : Nat) : Out → Option (Rt × Heap)
  | some (.normal, t, H) | some (.ret, t, H) => (match resV P F t H with
    | some v => some (.ret v, popF b v H)
    | none => none)
  | some (.panic v, _, H) => some (.pan v, popF b v H)
  | _ => none

theorem call_of {f : FuncId} {F : Func} {c : Code} {args : List V} {r : Rt × Heap} (hF : P.funcs[f]? = some F) (hc : F.body = some c)
    (h : ending P F H.length (U P pol (callW P pol) loopW f H.length [.code c] .normal (args ++ List.replicate (F.ntmps - args.length) .bad) (H ++ [[]])) = some r) : callW P pol f args H = some r := by
  refine callW_of ?_
  unfold callB
  rw [hF]
  simp only [hc, u_start]
  rw [← h]
  rfl

theorem frz_islice {g : Get} {cs : List V} {n : Nat} {b : Bool} : frz g depth (.islice cs n b) = some (.islice cs n b) := rfl
theorem frz_nilslice {g : Get} : frz g depth .nilslice = some .nilslice := rfl
theorem frz_int {g : Get} {k : IntKind} {n : Int} : frz g depth (.int k n) = some (.int k n) := rfl
theorem frz_bool {g : Get} {b : Bool} : frz g depth (.bool b) = some (.bool b) := rfl
theorem frz_str {g : Get} {s : List UInt8} : frz g depth (.str s) = some (.str s) := rfl
theorem frzL_cons {f : V → Option V} {x y : V} {l m : List V} (h : f x = some y) (h2 : frzL f l = some m) : frzL f (x :: l) = some (y :: m) := by simp only [frzL, h, h2]

/-- A pure call whose arguments and result are frozen already. -/
theorem callOp_pure {dst : Option Nat} {f : FuncId} {args args' : List V} {v v' : V} {H' : Heap} (hp : pol.prim f = none) (hq : pol.pure fn f = true) (ha : frzL (frz (fun _ _ => none) depth) args = some args')
    (h : C f args' [] = some (.ret v, H')) (hv : frz (hget H') depth v = some v') : callOp pol C fn fr dst f args H = some (.ret v', H) := by
  simp only [callOp, hp, hq, if_true, ha, h, hv, Option.map_some]

end


section
variable {P : Program} {pol : Pol} {C : Call} {L : Body → Body} {fn fr : Nat} {t : List V} {H : Heap} {k : List It} {r : List Oper} {d : Option Nat} {ty : TypeId} {ps : String} {af : Array Edge} {x y : Operand}

/-- A guard's truth, as it stands. -/
def gd (a : Array Oper) (t : List V) (j : Nat) : Option V := ((a[j]?).bind (·.dst)).bind (t[·]?)

theorem u_when_t {a : Array Oper} {op : Op} {j : Nat} {want : Bool} (h : gd a t j = some (.bool want)) :
    U P pol C L fn fr (.ops a ({ dst := d, op := op, type := ty, pos := ps, after := af, guard := some (j, want) } :: r) :: k) .normal t H =
      U P pol C L fn fr (.ops a ({ dst := d, op := op, type := ty, pos := ps, after := af, guard := none } :: r) :: k) .normal t H := by
  rw [u_guard h, if_pos rfl]
theorem u_when_f {a : Array Oper} {op : Op} {j : Nat} {want : Bool} (h : gd a t j = some (.bool !want)) :
    U P pol C L fn fr (.ops a ({ dst := d, op := op, type := ty, pos := ps, after := af, guard := some (j, want) } :: r) :: k) .normal t H =
      U P pol C L fn fr (.ops a r :: k) .normal (putT t d nov) H := by
  rw [u_guard h, if_neg (by cases want <;> simp)]
theorem u_if_t {c : Operand} {a b : Code} (h : rho t c = .bool true) : U P pol C L fn fr (.code (.cond c a b) :: k) .normal t H = U P pol C L fn fr (.code a :: k) .normal t H := by
  rw [u_cond h, if_pos rfl]
theorem u_if_f {c : Operand} {a b : Code} (h : rho t c = .bool false) : U P pol C L fn fr (.code (.cond c a b) :: k) .normal t H = U P pol C L fn fr (.code b :: k) .normal t H := by
  rw [u_cond h, if_neg (by decide)]
theorem u_sel_t {a : Array Oper} {c : Operand} (h : rho t c = .bool true) : U P pol C L fn fr (.ops a ({ dst := d, op := .pick c x y, type := ty, pos := ps, after := af, guard := none } :: r) :: k) .normal t H =
    U P pol C L fn fr (.ops a r :: k) .normal (putT t d (rho t x)) H := by rw [u_pick h, if_pos rfl]
theorem u_sel_f {a : Array Oper} {c : Operand} (h : rho t c = .bool false) : U P pol C L fn fr (.ops a ({ dst := d, op := .pick c x y, type := ty, pos := ps, after := af, guard := none } :: r) :: k) .normal t H =
    U P pol C L fn fr (.ops a r :: k) .normal (putT t d (rho t y)) H := by rw [u_pick h, if_neg (by decide)]
end
end Go.AM
