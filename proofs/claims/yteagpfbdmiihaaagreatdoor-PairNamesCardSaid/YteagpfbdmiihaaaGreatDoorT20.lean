/- This file holds in one the texts Bx26, Bx27, An27, An28; each says at its head what it proves. -/
import Derived.Test.YteagpfbdmiihaaaGreatDoorT14
import Derived.Test.YteagpfbdmiihaaaGreatDoorT17
import Derived.Test.YteagpfbdmiihaaaGreatDoorT19
set_option linter.unusedSimpArgs false
set_option linter.unusedVariables false
section
namespace Go.AM.BM
section
variable {P : Program} {pol : Pol}
theorem Qm7 (ok : Okay P pol) {m : Nat} {f : FuncId} {xs : List V} {args : Array Value} {W : World} {b : Bool} {H' : Heap} (h : callN P pol m (some f) xs [[]] = some (.ret (.bool b), H'))
 (hr : Qf (Qfw P W) xs args.toList) : Calls P f args W fun e W' => e = .returned (.bool b) /\ RowKit.Below W.heap.size W W' := by
 have := ((Xi ok m).1 f xs [[]] _ H' h).2 W.heap.size (fun _ _ => False) (Qfw P W) args.toList (Sim.first (Sim.start W)) rfl rfl hr
 refine this.mono ?_
 rintro e w' ⟨E', rfl, ⟨c, rfl, hc⟩, S', X, _⟩
 simp only [Rel] at hc
 subst hc
 exact ⟨rfl, X.rest.2.1, X.rest.1, X.rest.2.2, X.size, X.old⟩
theorem law_contract {H : Type} {enc : TypeId × Value -> H} (ok : Okay P pol) (hl : laidOutB P = true) {f : FuncId} {fn : Func} {ts book : List TypeId} {tb : TypeId} (hts : fn.params.toList = ts) (hrt : fn.resultTypes.toList = [tb])
 (htb : P.underlying tb = some .bool) (hbook : Qr2 P book = true) (hin : ts.all (fun t => book.contains t && P.readableRec t && decide (t < P.types.size)) = true)
 {s : ChangeSpec} (hv : s.vars = []) (hs : ∀ ds : List (DataW H), ds.length = ts.length -> (s.fn H ds).results = [.lit (.bool true)] /\ (s.fn H ds).args = ds /\ (s.fn H ds).vars = [])
 (hlaw : ∀ xs, Qe7 P ts xs -> ∃ m H', callN P pol m (some f) xs [[]] = some (.ret (.bool true), H')) {apart fresh handsOn : Bool}
 {W : World} {base : Nat} {args : Array Value} {ds gs : List (DataW H)} {before : List MemPlace}
 (hval : ∀ (j : Nat) t v, fn.params[j]? = some t -> args[j]? = some v -> Value.okWide P W .any base t v)
 (hW : DataW.Whole enc P fn.params.toList s.vars apart W args.toList ds gs before) :
 Calls P f args W fun e W' => ∃ v, e = .returned v /\ s.post enc P fn apart fresh handsOn false W args v W' := by
 have hin' : ∀ t ∈ ts, t ∈ book /\ P.readableRec t = true /\ t < P.types.size := by
  intro t ht
  have := Zln.1 hin t ht
  simp only [Zlm, decide_eq_true_eq] at this
  exact ⟨by simpa using this.1.1, this.1.2, this.2⟩
 have hW' := hW
 have hlt := hW.lt
 obtain ⟨p, q, hA, hV, rfl, hfz, hnd⟩ := hW
 rw [hv] at hV
 have hg : gs = [] /\ q = [] := by
  cases gs with
  | nil => exact ⟨rfl, hV⟩
  | cons g gs => exact hV.elim
 obtain ⟨rfl, rfl⟩ := hg
 rw [hts] at hA
 obtain ⟨xs, h1, h2⟩ := Qj1 hbook (fun t ht => (hin' t ht).1) hA (fun j t v ht hv => ⟨W, .any, base, hval j t v (by rw [<- Zl9, hts]; exact ht) (by simpa using hv)⟩)
 obtain ⟨m, H', hc⟩ := hlaw xs h1
 refine (Qm7 ok hc h2).mono ?_
 rintro e W' ⟨rfl, hb⟩
 refine ⟨_, rfl, ?_⟩
 obtain ⟨k1, k2, k3⟩ := hs ds (Qb1 hA)
 refine ⟨ds, [], p ++ [], [], p, [], hW', ?_, ?_, ?_, ?_, fun h => by cases h⟩
 . rw [Zma, k1, hrt]
   have hsz : fn.resultTypes.size = 1 := by rw [<- Zmb, hrt]; rfl
   rw [hsz]
   exact ChangeShapes.trodAll_mk1 (RowKit.shut_bool htb true)
 . rw [Zma, k2, hts]
   exact Qc7 hl hb (fun t ht => (hin' t ht).2) hA (fun x hx => hlt x (by simpa using hx))
 . rw [Zma, k3, hv]
   rfl
 . exact hb.frame _
end
end Go.AM.BM
end
section
namespace Go.AM.BM
def Bh (K : List V -> Option V) : Prim := fun _ _ g args => match Zb (frz g depth) args with
 | some ys => (match K ys with
   | some v => some (v, none)
   | none => none)
 | none => none
section
variable {P : Program}
def FzN (P : Program) (pol : AM.Pol) (f : FuncId) (args : List V) (v : V) : Prop := ∃ v0 H', Q5 P pol f args [] = some (.ret v0, H') /\ frzN (Qb H') depth v0 = some v
theorem Quc {polA : AM.Pol} (ok : AM.Okay P polA) {f : FuncId} {ys : List V} {v : V} (h : FzN P polA f ys v) {B : Nat} {F : Nat -> Nat -> Prop} {H : Heap} {E : Env} {args : List V} {cargs : List Value} (S : Sim B F H E) (one : H.length = 1) (htab : E.tab = Qv P)
 (hr : Qf E args cargs) (hys : Zb (frz (Qb H) depth) args = some ys) : Invokes P f ⟨cargs⟩ E.w (Answer B F H E (.ret v) H) := by
 obtain ⟨hr', _⟩ := Zz (E' := bare E.tab E.w F) (fun x y v hf hx => S.frz hf hx) _ _ _ hys hr
 obtain ⟨v0, H1, hc, hq⟩ := h
 obtain ⟨hbody, hall⟩ := (Qgb ok).1 f ys [] _ H1 hc
 have hcall := hall _ _ (bare E.tab E.w F) cargs S.bareF htab hr'
 refine ok.invokes hbody (hcall.mono ?_)
 rintro e w' ⟨E1, rfl, ⟨c, rfl, hcv⟩, S1, X1, _⟩
 obtain ⟨X, S'⟩ := S.behindM S.fmod X1
 obtain ⟨h1, h2⟩ := S1.frzN (M := E.mod) S.modsz hq hcv
 exact ⟨{ E with w := E1.w }, rfl, ⟨c, rfl, Rel.dress (E := bare E1.tab E1.w E.mod) (E' := { E with w := E1.w }) rfl rfl _ _ h2 h1⟩, S', X.less (by omega) (Zk0 _), one⟩
theorem Kn {polA : AM.Pol} (ok : AM.Okay P polA) {f : FuncId} {K : List V -> Option V} (hK : ∀ ys v, K ys = some v -> FzN P polA f ys v) (B : Nat) (F : Nat -> Nat -> Prop) (H : Heap) (E : Env) (fr : Nat) (dst : Option Nat) (args : List V) (cargs : List Value) (v : V) (x : Option (Nat × Nat × O))
 (S : Sim B F H E) (one : H.length = 1) (_ : fr = 0) (htab : E.tab = Qv P) (hr : Qf E args cargs) (h : Bh K fr dst (Qb H) args = some (v, x)) : Invokes P f ⟨cargs⟩ E.w (Answer B F H E (.ret v) (wr H x)) := by
 unfold Bh at h
 split at h
 case h_2 => cases h
 rename_i ys hys
 split at h
 case h_2 => cases h
 rename_i v' hv
 cases h
 exact Quc ok (hK ys v hv) S one htab hr hys
theorem frz_le {G G' : Get} (h : GLe G G') : ∀ (n : Nat) (x y : V), frz G n x = some y -> frz G' n x = some y := by
 intro n
 induction n with
 | zero => intro x y e; cases e
 | succ n ih =>
   have ihL : ∀ (l m : List V), Zb (frz G n) l = some m -> Zb (frz G' n) l = some m := by
    intro l
    induction l with
    | nil => intro m e; exact e
    | cons x l ihl =>
      intro m e
      simp only [Zb] at e ⊢
      cases hx : frz G n x with
      | none => rw [hx] at e; cases e
      | some y =>
        rw [hx] at e
        cases hl : Zb (frz G n) l with
        | none => rw [hl] at e; cases e
        | some ys => rw [hl] at e; cases e; rw [ih x y hx, ihl ys hl]
   have ihm : ∀ (l : List V) (f : List V -> V) (y : V), (Zb (frz G n) l).map f = some y -> (Zb (frz G' n) l).map f = some y := by
    intro l f y e
    cases hl : Zb (frz G n) l with
    | none => rw [hl] at e; cases e
    | some ys => rw [hl] at e; rw [ihL l ys hl]; exact e
   intro x y e
   cases x with
   | mS f s o len cap esz =>
     simp only [frz] at e ⊢
     cases hg : G f s with
     | none => rw [hg] at e; cases e
     | some q =>
       rw [hg] at e; rw [h f s q hg]
       cases q with
       | cells xs =>
         simp only at e ⊢
         split at e
         . rename_i hc; rw [if_pos hc]; exact ihm _ _ _ e
         . cases e
       | _ => cases e
   | ptr f s o =>
     simp only [frz] at e ⊢
     cases hg : G f s with
     | none => rw [hg] at e; cases e
     | some q =>
       rw [hg] at e; rw [h f s q hg]
       cases q with
       | cells xs => exact ihm _ _ _ e
       | _ => cases e
   | gS f s cs len q => exact ihm _ _ _ e
   | rptr cs o => exact ihm _ _ _ e
   | agg cs => exact ihm _ _ _ e
   | tuple cs => exact ihm _ _ _ e
   | face t v =>
     simp only [frz] at e ⊢
     cases hv : frz G n v with
     | none => rw [hv] at e; cases e
     | some w => rw [hv] at e; rw [ih v w hv]; exact e
   | func fn a b =>
     simp only [frz] at e ⊢
     cases ha : Zb (frz G n) a with
     | none => rw [ha] at e; cases e
     | some a' =>
       rw [ha] at e
       cases hb : Zb (frz G n) b with
       | none => rw [hb] at e; cases e
       | some b' => rw [hb] at e; rw [ihL a a' ha, ihL b b' hb]; exact e
   | _ => exact e
theorem Qzg {G G' : Get} (h : GLe G G') (n : Nat) : ∀ (l m : List V), Zb (frz G n) l = some m -> Zb (frz G' n) l = some m
 | [], _, e => e
 | x :: l, m, e => by
   simp only [Zb] at e ⊢
   cases hx : frz G n x with
   | none => rw [hx] at e; cases e
   | some y =>
     rw [hx] at e
     cases hl : Zb (frz G n) l with
     | none => rw [hl] at e; cases e
     | some ys => rw [hl] at e; cases e; rw [frz_le h n x y hx, Qzg h n l ys hl]
theorem Xp (K : List V -> Option V) (nm : Nat) (G G' : Get) (args : List V) (v : V) (w : Option (Nat × Nat × O)) (h : GLe G G') (e : Bh K 0 (some nm) G args = some (v, w)) :
 Bh K 0 (some nm) G' args = some (v, w) /\ ∀ x ∈ w.toList, (∃ y, G x.1 x.2.1 = some y) \/ (x.1 = 0 /\ x.2.1 = nm) := by
 unfold Bh at e ⊢
 split at e
 case h_2 => cases e
 rename_i ys hys
 rw [Qzg h depth args ys hys]
 split at e
 case h_2 => cases e
 rename_i v' hv
 cases e
 exact ⟨by simp only [hv], fun x hx => by cases hx⟩
end
end Go.AM.BM
end
section
namespace Go.AM
section
variable {P : Program} {pol : Pol} {C : Call} {L : Yx -> Kb} {fn fr : Nat} {ops : Array Oper} {r : List Oper} {t : List V} {H : Heap} {d : Option Nat} {ty u : TypeId} {ps : String} {af : Array Edge} {x y z : Operand}
theorem Qi8 {op : Op} {j : Nat} {want : Bool} : Zg P pol C fn fr ops ({ dst := d, op := op, type := ty, pos := ps, after := af, guard := some (j, want) } :: r) t H =
 match ((ops[j]?).bind (·.dst)).bind (t[·]?) with
 | some (.bool b) => if b == want then Zg P pol C fn fr ops ({ dst := d, op := op, type := ty, pos := ps, after := af, guard := none } :: r) t H else Zg P pol C fn fr ops r (Qe t d nov) H
 | some (.tuple []) => Zg P pol C fn fr ops r (Qe t d nov) H
 | _ => none := by
 have e : Zu ops t { dst := d, op := op, type := ty, pos := ps, after := af, guard := some (j, want) } = match ((ops[j]?).bind (·.dst)).bind (t[·]?) with
  | some (.bool b) => some (b == want)
  | some (.tuple []) => some false
  | _ => none := rfl
 simp only [Zg, e]
 generalize ((ops[j]?).bind (·.dst)).bind (t[·]?) = s
 cases s with
 | none => rfl
 | some v =>
   cases v with
   | bool b => cases b <;> cases want <;> rfl
   | tuple l => cases l <;> rfl
   | _ => rfl
theorem Q5p {op : Op} : Zg P pol C fn fr ops ({ dst := d, op := op, type := ty, pos := ps, after := af, guard := none } :: r) t H =
 match Ql P (pol.mt fn) fr (Qb H) (rho t) { dst := d, op := op, type := ty, pos := ps, after := af, guard := none } with
 | some (.val v w) => Zg P pol C fn fr ops r (Qe t d v) (wr H w)
 | some (.panic v) => some (.panic v, t, H)
 | some (.call f args) => (match callOp pol C fn fr d f args H with
   | some (.ret v, H') => Zg P pol C fn fr ops r (Qe t d v) H'
   | some (.pan v, H') => some (.panic v, t, H')
   | none => none)
 | some (.round f s args) => (match C none (.yield f s :: args) H with
   | some (.ret v, H') => Zg P pol C fn fr ops r (Qe t d v) H'
   | _ => none)
 | none => none := by
 simp only [Zg, Zu, Ze]
 cases Ql P (pol.mt fn) fr (Qb H) (rho t) { dst := d, op := op, type := ty, pos := ps, after := af, guard := none } with
 | none => rfl
 | some s =>
   cases s with
   | val v w => rfl
   | panic v => rfl
   | call f args =>
     simp only
     cases callOp pol C fn fr d f args H with
     | none => rfl
     | some q => obtain ⟨q, H'⟩ := q; cases q <;> rfl
   | round f s args =>
     simp only
     cases C none (.yield f s :: args) H with
     | none => rfl
     | some q => obtain ⟨q, H'⟩ := q; cases q <;> rfl
/-! ### Code: what is still to be done, as a list -/
inductive It where
 | code (c : Code)
 | ops (a : Array Oper) (l : List Oper)
 | opsT (a : Array Oper) (l : List Oper) (T : List FP)
 | block (id : Nat)
def U (P : Program) (pol : Pol) (C : Call) (L : Yx -> Kb) (fn fr : Nat) : List It -> Ex -> List V -> Heap -> Out
 | [], e, t, H => some (e, t, H)
 | .code c :: k, e, t, H => (match e with
   | .normal => (Za P pol C L fn fr c t H).bind fun x => U P pol C L fn fr k x.1 x.2.1 x.2.2
   | e => U P pol C L fn fr k e t H)
 | .ops a l :: k, e, t, H => (match e with
   | .normal => (Zg P pol C fn fr a l t H).bind fun x => U P pol C L fn fr k x.1 x.2.1 x.2.2
   | e => U P pol C L fn fr k e t H)
 | .opsT a l T :: k, e, t, H => (match e with
   | .normal => (Q7 P pol C fn fr a l t H).bind fun x => if okT (Region.before a) (loud (T.reverse ++ x.2.2)) then U P pol C L fn fr k .normal x.1 x.2.1 else none
   | e => U P pol C L fn fr k e t H)
 | .block id :: k, e, t, H => (match e with
   | .exit i => if i = id then U P pol C L fn fr k .normal t H else U P pol C L fn fr k (.exit i) t H
   | e => U P pol C L fn fr k e t H)
section
variable {k : List It}
theorem Qs0 (c : Code) : Za P pol C L fn fr c t H = U P pol C L fn fr [.code c] .normal t H := by
 simp only [U]
 cases Za P pol C L fn fr c t H with
 | none => rfl
 | some x => rfl
theorem u_nil {e : Ex} : U P pol C L fn fr [] e t H = some (e, t, H) := rfl
theorem u_seq {a b : Code} : U P pol C L fn fr (.code (.seq a b) :: k) .normal t H = U P pol C L fn fr (.code a :: .code b :: k) .normal t H := by
 simp only [U, Za]
 cases Za P pol C L fn fr a t H with
 | none => rfl
 | some x => obtain ⟨e, t1, H1⟩ := x; cases e <;> rfl
theorem Q20 {id : Nat} {l : List Oper} : U P pol C L fn fr (.code (.region id l.toArray false) :: k) .normal t H = U P pol C L fn fr (.ops l.toArray l :: k) .normal t H := by
 simp only [U, Za, Zkz, if_false]
theorem u_draw {id : Nat} {l : List Oper} : U P pol C L fn fr (.code (.region id l.toArray true) :: k) .normal t H = U P pol C L fn fr (.opsT l.toArray l [] :: k) .normal t H := by
 simp only [U, Za, if_true]
 cases Q7 P pol C fn fr l.toArray l t H with
 | none => rfl
 | some x =>
   obtain ⟨t1, H1, T1⟩ := x
   by_cases h : okT (Region.before l.toArray) (loud T1) = true
   . simp [h]
   . simp [h]
theorem Q2b {a : Array Oper} : U P pol C L fn fr (.ops a [] :: k) .normal t H = U P pol C L fn fr k .normal t H := rfl
theorem Qxx {a : Array Oper} {T : List FP} : U P pol C L fn fr (.opsT a [] T :: k) .normal t H = if okT (Region.before a) (loud T.reverse) then U P pol C L fn fr k .normal t H else none := by
 simp only [U, Q7, Zlc, Zma]
theorem u_skip : U P pol C L fn fr (.code .skip :: k) .normal t H = U P pol C L fn fr k .normal t H := rfl
theorem u_ret : U P pol C L fn fr (.code .ret :: k) .normal t H = U P pol C L fn fr k .ret t H := rfl
theorem u_exit {id : Nat} : U P pol C L fn fr (.code (.exit id) :: k) .normal t H = U P pol C L fn fr k (.exit id) t H := rfl
theorem Qwk {c : Code} : U P pol C L fn fr (.code c :: k) .ret t H = U P pol C L fn fr k .ret t H := rfl
theorem Quz {c : Code} {i : Nat} : U P pol C L fn fr (.code c :: k) (.exit i) t H = U P pol C L fn fr k (.exit i) t H := rfl
theorem Qrc {c : Code} {v : V} : U P pol C L fn fr (.code c :: k) (.panic v) t H = U P pol C L fn fr k (.panic v) t H := rfl
theorem Ql4 {i : Nat} : U P pol C L fn fr (.block i :: k) .normal t H = U P pol C L fn fr k .normal t H := rfl
theorem Qul {i : Nat} : U P pol C L fn fr (.block i :: k) .ret t H = U P pol C L fn fr k .ret t H := rfl
theorem Qpf {i : Nat} {v : V} : U P pol C L fn fr (.block i :: k) (.panic v) t H = U P pol C L fn fr k (.panic v) t H := rfl
theorem Qs3 {i j : Nat} : U P pol C L fn fr (.block i :: k) (.exit j) t H = if j = i then U P pol C L fn fr k .normal t H else U P pol C L fn fr k (.exit j) t H := rfl
theorem Q8f {id : Nat} {b : Code} : U P pol C L fn fr (.code (.block id b) :: k) .normal t H = U P pol C L fn fr (.code b :: .block id :: k) .normal t H := by
 simp only [U, Za]
 cases Za P pol C L fn fr b t H with
 | none => rfl
 | some x =>
   obtain ⟨e, t1, H1⟩ := x
   cases e <;> first | rfl | (simp only [Zlc]; split <;> rfl)
def round (P : Program) (pol : Pol) (C : Call) (L : Yx -> Kb) (fn fr : Nat) (b : Code) : Yx := fun t H => match forget pol fn fr (Zp b) t H with
 | some (t, H) => (match Zt b with
   | none => [Za P pol C L fn fr b t H]
   | some x => (match Yt (Qb H) (rho t x) with
     | some cs => cs.map fun c => Z0 P pol C L fn fr b c.1 c.2 t H
     | none => [none]))
 | none => [none]
/-! One operation. -/
theorem Q8o {a : Array Oper} {op : Op} {j : Nat} {want b : Bool} (h : ((a[j]?).bind (·.dst)).bind (t[·]?) = some (.bool b)) :
 U P pol C L fn fr (.ops a ({ dst := d, op := op, type := ty, pos := ps, after := af, guard := some (j, want) } :: r) :: k) .normal t H =
   if b = want then U P pol C L fn fr (.ops a ({ dst := d, op := op, type := ty, pos := ps, after := af, guard := none } :: r) :: k) .normal t H else U P pol C L fn fr (.ops a r :: k) .normal (Qe t d nov) H := by
 simp only [U]
 rw [Qi8, h]
 simp only
 cases b <;> cases want <;> rfl
theorem Q7p {a : Array Oper} {op : Op} : U P pol C L fn fr (.ops a ({ dst := d, op := op, type := ty, pos := ps, after := af, guard := none } :: r) :: k) .normal t H =
 match Ql P (pol.mt fn) fr (Qb H) (rho t) { dst := d, op := op, type := ty, pos := ps, after := af, guard := none } with
 | some (.val v w) => U P pol C L fn fr (.ops a r :: k) .normal (Qe t d v) (wr H w)
 | some (.panic v) => U P pol C L fn fr k (.panic v) t H
 | some (.call f args) => (match callOp pol C fn fr d f args H with
   | some (.ret v, H') => U P pol C L fn fr (.ops a r :: k) .normal (Qe t d v) H'
   | some (.pan v, H') => U P pol C L fn fr k (.panic v) t H'
   | none => none)
 | some (.round f s args) => (match C none (.yield f s :: args) H with
   | some (.ret v, H') => U P pol C L fn fr (.ops a r :: k) .normal (Qe t d v) H'
   | _ => none)
 | none => none := by
 simp only [U]
 rw [Q5p]
 cases Ql P (pol.mt fn) fr (Qb H) (rho t) { dst := d, op := op, type := ty, pos := ps, after := af, guard := none } with
 | none => rfl
 | some s =>
   cases s with
   | val v w => rfl
   | panic v => rfl
   | call f args =>
     simp only
     cases callOp pol C fn fr d f args H with
     | none => rfl
     | some q => obtain ⟨q, H'⟩ := q; cases q <;> rfl
   | round f s args =>
     simp only
     cases C none (.yield f s :: args) H with
     | none => rfl
     | some q => obtain ⟨q, H'⟩ := q; cases q <;> rfl
/-! Without what must be found first. -/
theorem u_if {c : Operand} {a b : Code} : U P pol C L fn fr (.code (.cond c a b) :: k) .normal t H =
 match rho t c with
 | .bool v => if v = true then U P pol C L fn fr (.code a :: k) .normal t H else U P pol C L fn fr (.code b :: k) .normal t H
 | _ => none := by
 simp only [U, Za]
 cases rho t c with
 | bool v => cases v <;> rfl
 | _ => rfl
theorem u_when {a : Array Oper} {op : Op} {j : Nat} {want : Bool} :
 U P pol C L fn fr (.ops a ({ dst := d, op := op, type := ty, pos := ps, after := af, guard := some (j, want) } :: r) :: k) .normal t H =
   match ((a[j]?).bind (·.dst)).bind (t[·]?) with
   | some (.bool b) => if b = want then U P pol C L fn fr (.ops a ({ dst := d, op := op, type := ty, pos := ps, after := af, guard := none } :: r) :: k) .normal t H else U P pol C L fn fr (.ops a r :: k) .normal (Qe t d nov) H
   | some (.tuple []) => U P pol C L fn fr (.ops a r :: k) .normal (Qe t d nov) H
   | _ => none := by
 cases h : ((a[j]?).bind (·.dst)).bind (t[·]?) with
 | none => simp only [U]; rw [Qi8, h]; rfl
 | some v =>
   cases v with
   | bool b => exact Q8o h
   | tuple l => simp only [U]; rw [Qi8, h]; cases l <;> rfl
   | _ => simp only [U]; rw [Qi8, h]; rfl
end
end
section
variable {P : Program} {pol : Pol} {C : Call} {fn fr : Nat} {t : List V} {H : Heap} {u : TypeId} {x y : Operand} {k : IntKind} {m n : Int} {g : Get} {mt : Nat -> Bool}
/-! ### What operations come to -/
theorem b_add : Z1 P .add u x y (.int k m) (.int k n) = some (.int k (k.wrap (m + n))) := by simp only [Z1, Qds, if_true]
theorem b_sub : Z1 P .sub u x y (.int k m) (.int k n) = some (.int k (k.wrap (m - n))) := by simp only [Z1, Qds, if_true]
theorem b_mul : Z1 P .mul u x y (.int k m) (.int k n) = some (.int k (k.wrap (m * n))) := by simp only [Z1, Qds, if_true]
theorem b_eql : Z1 P .eql u x y (.int k m) (.int k n) = some (.bool (m == n)) := by simp only [Z1, Qds, if_true]
theorem b_neq : Z1 P .neq u x y (.int k m) (.int k n) = some (.bool (m != n)) := by simp only [Z1, Qds, if_true]
theorem b_lss : Z1 P .lss u x y (.int k m) (.int k n) = some (.bool (decide (m < n))) := by simp only [Z1, Qds, if_true]
theorem b_leq : Z1 P .leq u x y (.int k m) (.int k n) = some (.bool (decide (m <= n))) := by simp only [Z1, Qds, if_true]
theorem b_gtr : Z1 P .gtr u x y (.int k m) (.int k n) = some (.bool (decide (m > n))) := by simp only [Z1, Qds, if_true]
theorem b_geq : Z1 P .geq u x y (.int k m) (.int k n) = some (.bool (decide (m >= n))) := by simp only [Z1, Qds, if_true]
theorem b_sadd {a b : List UInt8} : Z1 P .add u x y (.str a) (.str b) = binS .add a b := rfl
theorem b_seql {a b : List UInt8} : Z1 P .eql u x y (.str a) (.str b) = some (.bool (a == b)) := rfl
theorem b_sneq {a b : List UInt8} : Z1 P .neq u x y (.str a) (.str b) = some (.bool (!(a == b))) := rfl
theorem oc_int : Zy (.int k n) = .int k n := rfl
theorem Q6w {b : Bool} : Zy (.bool b) = .bool b := rfl
theorem oc_str {s : ByteArray} : Zy (.string s) = .str s.data.toList := rfl
theorem Qvf : Zy (.slice none 0 0) = .nS := rfl
theorem Q1t : Zy (.pointer none) = .nP := rfl
theorem Qz7 : Zy (.map none) = .nM := rfl
theorem Qx1 : Zy .nilFunc = .nF := rfl
theorem Qx0 : Zy .nilIface = .nI := rfl
theorem X7 {d : TypeDesc} {q : Nat} (h : P.underlying u = some d) (hs : sz P u = some q) (ha : Qlf d = false) (cs : List V) (o : Nat) : Q0 P u cs o = cs[o]? := by
 simp only [Q0, h, hs, ha, Zkz, if_false]
theorem ia_of {e : TypeId} {q : Nat} (h : P.underlying u = some (.slice e)) (hs : sz P e = some q) (cs : List V) (len : Nat) (full : Bool) :
 Q9 P u (.iS cs len full) (.int k n) = if 0 <= n /\ n < len /\ cs.length = len * q /\ 0 < q then some (.iptr cs (n.toNat * q)) else none := by
 simp only [Q9, h, hs]
theorem Bz {e : TypeId} (h : P.underlying u = some (.slice e)) (cs : List V) (len : Nat) (full : Bool) : Ka P g u (.iS cs len full) = some (.int .i64 len) := by simp only [Ka, h]
theorem Qel {e : TypeId} (h : P.underlying u = some (.slice e)) : Ka P g u .nS = some (.int .i64 0) := by simp only [Ka, h]
theorem ln_str (h : P.underlying u = some .string) (s : List UInt8) : Ka P g u (.str s) = some (.int .i64 s.length) := by simp only [Ka, h]
theorem bi_len {ts : List TypeId} {d : Option Nat} {v : V} : builtinV P mt fr g d .len (u :: ts).toArray [v] = (Ka P g u v).map fun v => .val v none := rfl
theorem bi_max {ts : Array TypeId} {d : Option Nat} {v : V} {l : List V} : builtinV P mt fr g d .max ts (v :: l) = (Qgu true v l).map fun v => .val v none := by cases l <;> rfl
theorem bi_min {ts : Array TypeId} {d : Option Nat} {v : V} {l : List V} : builtinV P mt fr g d .min ts (v :: l) = (Qgu false v l).map fun v => .val v none := by cases l <;> rfl
theorem mx_nil {v : V} {b : Bool} : Qgu b v [] = some v := rfl
theorem mx_one {b : Bool} {l : List V} : Qgu b (.int k m) (.int k n :: l) = Qgu b (.int k (if b then (if n > m then n else m) else (if n < m then n else m))) l := rfl
/-! ### Forgetting -/
theorem Qp0 : ∀ (v : V), v.refs (fun _ _ => false) = false := by
 intro v
 refine V.rec (motive_1 := fun v => v.refs (fun _ _ => false) = false) (motive_2 := fun l => Qx (fun _ _ => false) l = false) ?_ ?_ ?_ ?_ ?_ ?_ ?_ ?_ ?_ ?_ ?_ ?_ ?_ ?_ ?_ ?_ ?_ ?_ ?_ ?_ ?_ ?_ ?_ ?_ v <;> intros <;> simp_all [V.refs, Qx]
end
end Go.AM
end
section
namespace Go.AM
theorem Qh5 : ∀ (l : List V), Qx (fun _ _ => false) l = false
 | [] => rfl
 | x :: l => by simp [Qx, Qp0 x, Qh5 l]
theorem Qmq : ∀ (l : List (V × V)), Qfp (fun _ _ => false) l = false
 | [] => rfl
 | (a, b) :: l => by simp [Qfp, Qp0, Qmq l]
theorem Qwz (o : O) : o.refs (fun _ _ => false) = false := by
 cases o with
 | iter m a b c => cases m <;> rfl
 | _ => simp [O.refs, Qh5, Qmq]
theorem Qkr : ∀ (f : Frame), Zo (fun _ _ => false) f = true
 | [] => rfl
 | (a, o) :: r => by simp [Zo, Qwz, Qkr r]
theorem Qkb : ∀ (H : Heap), Zh (fun _ _ => false) H = true
 | [] => rfl
 | f :: r => by simp [Zh, Qkr, Qkb r]
theorem Qpu : ∀ (f : Frame), J8 (fun _ => false) f = f
 | [] => rfl
 | (a, o) :: r => by simp [J8, Qpu r]
theorem Qk0 {α : Type} (f : α -> α) (h : ∀ x, f x = x) : ∀ (l : List α) (i : Nat), l.modify i f = l
 | [], i => by simp
 | x :: l, 0 => by simp [h]
 | x :: l, i + 1 => by simp [Qk0 f h l i]
theorem Qv7 {pol : Pol} {fn fr r : Nat} {kt : List Nat} {t : List V} {H : Heap} (h : pol.keep fn r = some (kt, [])) (hm : pol.move fn r = none := by rfl) : forget pol fn fr r t H = some (Bi kt t 0, H) := by
 have e : (fun f s : Nat => f == fr && ([] : List Nat).contains s) = fun _ _ => false := by funext f s; simp
 have e2 : (fun s : Nat => ([] : List Nat).contains s) = fun _ => false := by funext s; simp
 unfold forget forgetK
 rw [h]
 simp only [e, e2]
 rw [Qh5, Qk0 _ Qpu, Qkb]
 simp only [Zkz, if_false, if_true, hm]
theorem J4 {pol : Pol} {fn fr r : Nat} {kt ds : List Nat} {t : List V} {H : Heap} (hk : pol.keep fn r = some (kt, ds)) (h1 : Qx (fun f s => f == fr && ds.contains s) (Bi kt t 0) = false) (h2 : Zh (fun f s => f == fr && ds.contains s) (H.modify fr (J8 fun s => ds.contains s)) = true) (hm : pol.move fn r = none := by rfl) :
 forget pol fn fr r t H = some (Bi kt t 0, H.modify fr (J8 fun s => ds.contains s)) := by
 simp only [forget, forgetK, hk, h1, h2, if_true, Zkz, if_false, hm]
section
variable {P : Program} {pol : Pol} {C : Call} {L : Yx -> Kb} {fn fr : Nat} {t : List V} {H : Heap}
theorem Q3m {b : Code} {t1 : List V} {H1 : Heap} (hn : Zt b = none) (h : forget pol fn fr (Zp b) t H = some (t1, H1)) : round P pol C L fn fr b t H = [U P pol C L fn fr [.code b] .normal t1 H1] := by
 simp only [round, h, hn]
 rw [Qs0]
def Qmn (P : Program) (F : Func) (b : Nat) : Out -> Option (Rt × Heap)
 | some (.normal, t, H) | some (.ret, t, H) => (match Qa4 P F t H with
   | some v => some (.ret v, B2 b v H)
   | none => none)
 | some (.panic v, _, H) => some (.pan v, B2 b v H)
 | _ => none
theorem Q5l {f : FuncId} {F : Func} {c : Code} {args : List V} {r : Rt × Heap} (hF : P.funcs[f]? = some F) (hc : F.body = some c)
 (h : Qmn P F H.length (Qcu (pol.settle f) (U P pol (Q5 P pol) Zv f H.length [.code c] .normal (args ++ List.replicate (F.ntmps - args.length) .bad) (H ++ [[]]))) = some r) : Q5 P pol f args H = some r := by
 refine Q5h ?_
 show Qaj P pol (Q5 P pol) Zv f args H = some r
 unfold Qaj
 rw [hF]
 simp only [hc, Qs0]
 rw [<- h]
 rfl
theorem Q79 {f : FuncId} {F : Func} {c : Code} {args : List V} {r : Rt × Heap} (hF : P.funcs[f]? = some F) (hc : F.body = some c)
 (h : Qmn P F H.length (U P pol (Q5 P pol) Zv f H.length [.code c] .normal (args ++ List.replicate (F.ntmps - args.length) .bad) (H ++ [[]])) = some r) (hs : pol.settle f = [] := by rfl) : Q5 P pol f args H = some r :=
 Q5l hF hc (by rw [hs, Qu5]; exact h)
theorem Qxo {g : Get} {cs : List V} {n : Nat} {b : Bool} : frz g depth (.iS cs n b) = some (.iS cs n b) := rfl
theorem Qq6 {g : Get} : frz g depth .nS = some .nS := rfl
theorem Q8t {g : Get} {k : IntKind} {n : Int} : frz g depth (.int k n) = some (.int k n) := rfl
theorem Q4c {g : Get} {b : Bool} : frz g depth (.bool b) = some (.bool b) := rfl
theorem Q6j {g : Get} {s : List UInt8} : frz g depth (.str s) = some (.str s) := rfl
theorem Qt {f : V -> Option V} {x y : V} {l m : List V} (h : f x = some y) (h2 : Zb f l = some m) : Zb f (x :: l) = some (y :: m) := by simp only [Zb, h, h2]
theorem Qkq {dst : Option Nat} {f : FuncId} {args args' : List V} {v v' : V} {H' : Heap} (hp : pol.prim f = none) (hq : pol.pure fn f = true) (ha : Zb (frz (fun _ _ => none) depth) args = some args')
 (h : C f args' [] = some (.ret v, H')) (hv : frz (Qb H') depth v = some v') : callOp pol C fn fr dst f args H = some (.ret v', H) := by
 simp only [callOp, hp, hq, if_true, ha, h, hv, Zkw]
end
section
variable {P : Program} {pol : Pol} {C : Call} {L : Yx -> Kb} {fn fr : Nat} {t : List V} {H : Heap} {k : List It} {r : List Oper} {d : Option Nat} {ty : TypeId} {ps : String} {af : Array Edge} {x y : Operand}
def gd (a : Array Oper) (t : List V) (j : Nat) : Option V := ((a[j]?).bind (·.dst)).bind (t[·]?)
end
end Go.AM
end
