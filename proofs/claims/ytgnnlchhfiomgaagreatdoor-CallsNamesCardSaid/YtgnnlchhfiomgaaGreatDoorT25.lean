/- This file holds in one the texts Bf4, Bf5; each says at its head what it proves. -/
import Derived.Test.YtgnnlchhfiomgaaGreatDoorT24
set_option linter.unusedSimpArgs false
set_option linter.unusedVariables false
section
namespace Go.AM.BM
def RO (n : Nat) : FO -> Out -> Prop
 | .no, _ => True
 | .nrm T F, o => ∃ t H, o = some (.normal, t, H) /\ RT n T t /\ RH F H
 | .exi i T F, o => ∃ t H, o = some (.exit i, t, H) /\ RT n T t /\ RH F H
 | .ret T F, o => ∃ t H, o = some (.ret, t, H) /\ RT n T t /\ RH F H
 | .pan v T F, o => ∃ t H, o = some (.panic v, t, H) /\ RT n T t /\ RH F H
def RR : FR -> Option (Rt × Heap) -> Prop
 | .no, _ => True
 | .ret v F, o => ∃ H, o = some (.ret v, H) /\ RH F H
 | .pan v F, o => ∃ H, o = some (.pan v, H) /\ RH F H
def RC (cc : FC) (C : Call) : Prop := ∀ f args F H, RH F H -> RR (cc f args F) (C f args H)
def Sub {α : Type} (no x y : α) : Prop := x = no \/ x = y
theorem Sub.refl {α : Type} {no : α} (x : α) : Sub no x x := .inr rfl
/-! ### The parts, by cases -/
theorem Q06 (k : V -> FO) : Qha none k = .no := rfl
theorem Qii : ∀ (l : List V) (i : Nat), Qwe l i = l[i]?
 | [], i => rfl
 | x :: l, 0 => rfl
 | x :: l, i + 1 => by
   show Qwe l i = _
   rw [Qii l i]; rfl
theorem Qzj : ∀ (l : List V) (i : Nat) (v : V), setV l i v = l.set i v
 | [], i, v => rfl
 | x :: l, 0, v => rfl
 | x :: l, i + 1, v => by
   show x :: setV l i v = _
   rw [Qzj l i v]; rfl
theorem Qv2 (l : List V) (i : Nat) (v : V) (h : i < l.length) : l.set i v = splice l i [v] := by
 induction l generalizing i with
 | nil => simp at h
 | cons x l ih =>
   cases i with
   | zero => simp [splice]
   | succ i =>
     simp only [Zj9] at h
     simp only [List.set_cons_succ, ih i (by omega), splice]
     simp
theorem Qjw {R : Type} (o : Option O) (k : List V -> R) (e : R) : Qlm o k e = match o with
 | some (.cells xs) => k xs
 | _ => e := by
 cases o with
 | none => rfl
 | some o => cases o <;> rfl
theorem Qsq {R : Type} (v : V) (kp : Nat -> Nat -> Nat -> R) (ki kr : List V -> Nat -> R) (e : R) : vPtr v kp ki kr e = match v with
 | .ptr f s o => kp f s o
 | .iptr cs o => ki cs o
 | .rptr cs o => kr cs o
 | _ => e := by cases v <;> rfl
theorem Qq6 {R : Type} (v : V) (k : IntKind -> Int -> R) (e : R) : vInt v k e = match v with
 | .int a m => k a m
 | _ => e := by cases v <;> rfl
theorem Q8b {R : Type} (v : V) (k : List V -> R) (e : R) : vAgg v k e = match v with
 | .agg cs => k cs
 | _ => e := by cases v <;> rfl
theorem Q6a {R : Type} (v : V) (k : List V -> R) (e : R) : vTup v k e = match v with
 | .tuple cs => k cs
 | _ => e := by cases v <;> rfl
theorem Qvw {R : Type} (v : V) (a b e : R) : vBool v a b e = match v with
 | .bool t => if t then a else b
 | _ => e := by
 cases v with
 | bool t => cases t <;> rfl
 | _ => rfl
theorem Q34 (a b : IntKind) : Nat.beq (Qyy a) (Qyy b) = decide (a = b) := by
 cases a <;> cases b <;> rfl
theorem Qfx {R : Type} (m l : Int) (k : Nat -> Nat -> R) (e : R) (x : Int -> Int -> R) (h : ∀ a b : Nat, m = a -> l = b -> k a b = x m l) (he : e = x m l) : Qp3 m l k e = x m l := by
 cases m with
 | ofNat a => cases l with
   | ofNat b => exact h a b rfl rfl
   | negSucc b => exact he
 | negSucc a => exact he
theorem Qmb (k : IntKind) (m : Nat) : Qtc k m = k.wrap (m : Int) := by
 have hu : ∀ (n : Nat), (Int.ofNat (Nat.mod m n)) = (m : Int) % (n : Int) := fun n => (Int.natCast_emod m n)
 cases k with
 | i64 =>
   show Bool.rec (motive := fun _ => Int) (IntKind.i64.wrap (Int.ofNat m)) (Int.ofNat m) (Nat.ble m (nat_lit 9223372036854775807)) = _
   cases h : Nat.ble m (nat_lit 9223372036854775807) with
   | false => rfl
   | true =>
     have h1 : m <= 9223372036854775807 := Zlt h
     show (m : Int) = _
     have e : (m : Int) % (2 ^ 64 : Int) = m := by omega
     simp only [IntKind.wrap, IntKind.bits, IntKind.signed, Zlq, e]
     rw [if_neg]
     simp only [decide_eq_true_eq]
     omega
 | u8 => exact hu 256
 | u16 => exact hu 65536
 | u32 => exact hu 4294967296
 | u64 => exact hu 18446744073709551616
 | i8 => rfl
 | i16 => rfl
 | i32 => rfl
theorem Q73 (k : IntKind) (m l : Int) : addI k m l = k.wrap (m + l) := by
 refine Qfx m l _ _ (fun m l => k.wrap (m + l)) ?_ rfl
 rintro a b rfl rfl
 rw [Qmb]; rfl
theorem Q8c (k : IntKind) (m l : Int) : subI k m l = k.wrap (m - l) := by
 refine Qfx m l _ _ (fun m l => k.wrap (m - l)) ?_ rfl
 rintro a b rfl rfl
 cases h : Nat.ble b a with
 | false => rfl
 | true =>
   have := Zlt h
   show Qtc k (a - b) = _
   rw [Qmb]
   congr 1
   omega
theorem Q4z (m l : Int) : ltI m l = decide (m < l) := by
 refine Qfx m l _ _ (fun m l => decide (m < l)) ?_ rfl
 rintro a b rfl rfl
 cases h : Nat.ble (Nat.succ a) b with
 | true => have := Zlt h; symm; exact Zmo (by omega)
 | false =>
   symm
   apply Zmp
   intro e
   have : Nat.ble (Nat.succ a) b = true := Zma (by omega)
   rw [this] at h; cases h
theorem Q5d (m l : Int) : leI m l = decide (m <= l) := by
 refine Qfx m l _ _ (fun m l => decide (m <= l)) ?_ rfl
 rintro a b rfl rfl
 cases h : Nat.ble a b with
 | true => have := Zlt h; symm; exact Zmo (by omega)
 | false =>
   symm
   apply Zmp
   intro e
   have : Nat.ble a b = true := Zma (by omega)
   rw [this] at h; cases h
theorem Q2p (m l : Int) : eqI m l = (m == l) := by
 have : (m == l) = decide (m = l) := by by_cases h : m = l <;> simp [h]
 rw [this]
 refine Qfx m l _ _ (fun m l => decide (m = l)) ?_ rfl
 rintro a b rfl rfl
 cases h : Nat.beq a b with
 | true => have := Zmb h; symm; exact Zmo (by omega)
 | false =>
   have := Nat.ne_of_beq_eq_false h
   symm
   exact Zmp (by omega)
theorem Q5f (k : IntKind) (m : Int) : convI k m = k.wrap m := by
 cases m with
 | ofNat a => exact Qmb k a
 | negSucc a => rfl
section
variable {P : Program} {pol : Pol} {n : Nat}
theorem Qiq {o : Op} {dst : Option Nat} {cc : FC} {nm : Nat} {k : KT} {T : TM} {F : FH} {x : Option V} (h : evX P (Km F) (fun x => (cR n x).f T) nm o = Qnp x)
 (hm : x = none -> Jr P (Km F) (fun x => (cR n x).f T) nm o = none) : Qha x (fun v => k ((cP n dst).f T v) F) = (Ku P pol n dst o).f cc nm k T F := by
 simp only [Ku, h, Qnp]
 cases x with
 | none => simp only [Zla, Qma, hm rfl, Q06]
 | some v => rfl
theorem Qlc {o : Op} {g : Get} {r : Operand -> V} {nm : Nat} (h : ∀ c, o ≠ .call c) (h2 : ∀ t x a b c, o ≠ .slice t x a b c := by simp) : Jr P g r nm o = none := by
 unfold Jr
 split
 . exact absurd rfl (h2 _ _ _ _ _)
 . rename_i c; exact absurd rfl (h c)
 . rfl
theorem Q3c (dst : Option Nat) (x : Operand) (cc : FC) (nm : Nat) (k : KT) (T : TM) (F : FH) : (Q39 n dst x).f cc nm k T F = (Ku P pol n dst (.move x)).f cc nm k T F := rfl
theorem Qzt (dst : Option Nat) (x : Operand) (cc : FC) (nm : Nat) (k : KT) (T : TM) (F : FH) : (Q39 n dst x).f cc nm k T F = (Ku P pol n dst (.assign x)).f cc nm k T F := rfl
theorem Q3j (dst : Option Nat) (c a b : Operand) (cc : FC) (nm : Nat) (k : KT) (T : TM) (F : FH) : (Q2e n dst c a b).f cc nm k T F = (Ku P pol n dst (.pick c a b)).f cc nm k T F := by
 simp only [Q2e, Qqg, Qvw, Ku, evX, Q45]
 cases (cR n c).f T with
 | bool t => cases t <;> rfl
 | _ => rfl
theorem Q7k (dst : Option Nat) (x : Operand) (cc : FC) (nm : Nat) (k : KT) (T : TM) (F : FH) : (cNil n dst x).f cc nm k T F = (Ku P pol n dst (.nilCheck x)).f cc nm k T F :=
 Qiq (x := ncV ((cR n x).f T)) rfl (fun _ => rfl)
theorem Q3i (dst : Option Nat) (op : UnOp) (t : TypeId) (x : Operand) (cc : FC) (nm : Nat) (k : KT) (T : TM) (F : FH) : (cUnOp n dst op x).f cc nm k T F = (Ku P pol n dst (.unOp op t x)).f cc nm k T F :=
 Qiq (x := unV op ((cR n x).f T)) rfl (fun _ => rfl)
theorem Qay (x y : V) (k : IntKind -> Int -> Int -> Option V) (e : Option V) (h : ∀ a m l, x = .int a m -> y = .int a l -> k a m l = e) (h2 : ∀ a b m l, x = .int a m -> y = .int b l -> a ≠ b -> e = none) : Qgr x y k e = e := by
 simp only [Qgr, Qq6]
 cases x with
 | int a m =>
   cases y with
   | int b l =>
     simp only [Q34]
     by_cases c : a = b
     . subst c
       simp only [decide_true]
       exact h a m l rfl rfl
     . simp only [c, decide_false]
       exact (h2 a b m l rfl rfl c).symm
   | _ => rfl
 | _ => rfl
theorem Q6g (op : BinOp) (t : TypeId) (x y : Operand) (a b : V) : (cBin P op t x y).f a b = Zz P op t x y a b := by
 have no : ∀ (c d : IntKind) (m l : Int), a = .int c m -> b = .int d l -> c ≠ d -> op ≠ .shl -> op ≠ .shr -> Zz P op t x y a b = none := by
  rintro c d m l rfl rfl h h1 h2
  cases op <;> first | exact absurd rfl h1 | exact absurd rfl h2 | simp [Zz, h]
 have yes : ∀ (c : IntKind) (m l : Int), a = .int c m -> b = .int c l -> op ≠ .shl -> op ≠ .shr -> Zz P op t x y a b = Qdj op c m l := by
  rintro c m l rfl rfl h1 h2
  cases op <;> first | exact absurd rfl h1 | exact absurd rfl h2 | simp [Zz]
 cases op <;> simp only [cBin]
 case add => exact Qay a b _ _ (fun c m l h1 h2 => by rw [yes c m l h1 h2 (by simp) (by simp), Q73]; rfl) (fun c d m l h1 h2 h => no c d m l h1 h2 h (by simp) (by simp))
 case sub => exact Qay a b _ _ (fun c m l h1 h2 => by rw [yes c m l h1 h2 (by simp) (by simp), Q8c]; rfl) (fun c d m l h1 h2 h => no c d m l h1 h2 h (by simp) (by simp))
 case eql => exact Qay a b _ _ (fun c m l h1 h2 => by rw [yes c m l h1 h2 (by simp) (by simp), Q2p]; rfl) (fun c d m l h1 h2 h => no c d m l h1 h2 h (by simp) (by simp))
 case neq => exact Qay a b _ _ (fun c m l h1 h2 => by rw [yes c m l h1 h2 (by simp) (by simp), Q2p]; simp only [Qdj, bne]; cases (m == l) <;> rfl) (fun c d m l h1 h2 h => no c d m l h1 h2 h (by simp) (by simp))
 case lss => exact Qay a b _ _ (fun c m l h1 h2 => by rw [yes c m l h1 h2 (by simp) (by simp), Q4z]; rfl) (fun c d m l h1 h2 h => no c d m l h1 h2 h (by simp) (by simp))
 case leq => exact Qay a b _ _ (fun c m l h1 h2 => by rw [yes c m l h1 h2 (by simp) (by simp), Q5d]; rfl) (fun c d m l h1 h2 h => no c d m l h1 h2 h (by simp) (by simp))
 case gtr => exact Qay a b _ _ (fun c m l h1 h2 => by rw [yes c m l h1 h2 (by simp) (by simp), Q4z]; rfl) (fun c d m l h1 h2 h => no c d m l h1 h2 h (by simp) (by simp))
 case geq => exact Qay a b _ _ (fun c m l h1 h2 => by rw [yes c m l h1 h2 (by simp) (by simp), Q5d]; rfl) (fun c d m l h1 h2 h => no c d m l h1 h2 h (by simp) (by simp))
theorem Qz1 (dst : Option Nat) (op : BinOp) (t u : TypeId) (x y : Operand) (cc : FC) (nm : Nat) (k : KT) (T : TM) (F : FH) : (Qxr P n dst op t x y).f cc nm k T F = (Ku P pol n dst (.binOp op t x y u)).f cc nm k T F := by
 simp only [Qxr, Q6g]
 exact Qiq (x := Zz P op t x y ((cR n x).f T) ((cR n y).f T)) rfl (fun _ => rfl)
theorem Qur (dst : Option Nat) (t : Operand) (i : Nat) (cc : FC) (nm : Nat) (k : KT) (T : TM) (F : FH) : (Qtk n dst t i).f cc nm k T F = (Ku P pol n dst (.extract t i)).f cc nm k T F := by
 refine Qiq (x := tupO ((cR n t).f T) i) ?_ (fun _ => rfl)
 simp only [evX, Ql6, tupO, Q6a, Qnp]
 cases (cR n t).f T with
 | tuple vs => simp only [Qii]
 | _ => rfl
theorem Q0g (chk : Bool) (dst : Option Nat) (t : TypeId) (cc : FC) (nm : Nat) (k : KT) (T : TM) (F : FH) (hf : chk = false -> F.tr.get nm = none) :
 (Qw2 P n chk dst t).f cc nm k T F = (Ku P pol n dst (.alloc t)).f cc nm k T F := by
 simp only [Qw2, Ku, evX, Qwk]
 cases zeroCells P t with
 | none => rfl
 | some z =>
   simp only [Zj8, new, newK, Km]
   cases chk with
   | false =>
     have := hf rfl
     simp only [this]
     rfl
   | true =>
     cases h : F.tr.get nm with
     | none => rfl
     | some o => rfl
theorem Qtm (t : TypeId) (xs : List V) (o : Nat) : (Qs8 P t).f xs o = Q2 P t xs o := by
 simp only [Qs8, Q2]
 cases P.underlying t with
 | none => rfl
 | some dd =>
   cases sz P t with
   | none => rfl
   | some m =>
     simp only
     cases Qk5 dd with
     | false => simp only [cond_false, Qii, Zjv, if_false]
     | true =>
       simp only [cond_true, if_true]
       by_cases h : o + m <= xs.length
       . rw [if_pos h, Zma h]; rfl
       . have : Nat.ble (o + m) xs.length = false := by
          rw [Zl7]; intro e; exact h (Zlt e)
         rw [if_neg h, this]; rfl
theorem Q47 (dst : Option Nat) (t : TypeId) (a : Operand) (cc : FC) (nm : Nat) (k : KT) (T : TM) (F : FH) : (Q4k P n dst t a).f cc nm k T F = (Ku P pol n dst (.load t a)).f cc nm k T F := by
 simp only [Q4k, loadK, Qsq, Qjw, Ku, evX, Q4u, Qlc (P := P) (o := .load t a) (by simp), Qtm]
 cases (cR n a).f T with
 | ptr f s o =>
   simp only
   cases Km F f s with
   | none => rfl
   | some q =>
     cases q with
     | cells xs =>
       simp only
       cases Q2 P t xs o <;> rfl
     | _ => rfl
 | iptr cs o => simp only; cases Q2 P t cs o <;> rfl
 | rptr cs o => simp only; cases Q2 P t cs o <;> rfl
 | _ => rfl
theorem Qd7 {α : Type} (x y : α) (b : Bool) : Bool.rec (motive := fun _ => α) x y b = if b then y else x := by cases b <;> rfl
theorem Qz9 {R : Type} (v : V) (k1 : R) (kc : List V -> R) (e : R) : Q2o v k1 kc e = match v with
 | .agg cs => if cs.all V.scalar then kc cs else e
 | .bad | .tuple _ => e
 | _ => k1 := by
 cases v with
 | agg cs => exact Qd7 _ _ _
 | _ => rfl
theorem Q0x (dst : Option Nat) (t : TypeId) (a x : Operand) (cc : FC) (nm : Nat) (k : KT) (T : TM) (F : FH) : (Qvz P n dst t a x).f cc nm k T F = (Ku P pol n dst (.store t a x)).f cc nm k T F := by
 simp only [Qvz, Ku, evX, Qws, Qlc (P := P) (o := .store t a x) (by simp)]
 cases sz P t with
 | none =>
   simp only
   cases (cR n a).f T with
   | ptr f s o => cases ((cR n x).f T).cells <;> rfl
   | _ => rfl
 | some m =>
   simp only [Q27, Qsq]
   cases (cR n a).f T with
   | ptr f s o =>
     simp only [Qz9]
     have one : ∀ v : V, v.cells = some [v] -> (Qlm (Km F f s) (fun xs => Bool.rec (motive := fun _ => FO) .no (Option.rec (motive := fun _ => FO) .no (fun _ => k ((cP n dst).f T .bad) (wrF F (some (f, s, .cells (setV xs o v))))) (Qwe xs o)) (Nat.beq m (nat_lit 1))) .no) =
      Qma pol (match V.ptr f s o, v.cells, some m with
       | .ptr f s o, some cs, some n => (match Km F f s with
         | some (.cells xs) => if cs.length = n /\ o + n <= xs.length then some (.val .bad (some (f, s, .cells (splice xs o cs)))) else none
         | _ => none)
       | _, _, _ => none) none cc (fun v F => k ((cP n dst).f T v) F) T F := by
      intro v hv
      simp only [hv, Qjw]
      cases Km F f s with
      | none => rfl
      | some q =>
        cases q with
        | cells xs =>
          simp only [Qd7, Qii, Qzj]
          by_cases h : m = 1
          . subst h
            by_cases h2 : o < xs.length
            . rw [Zjr h2, if_pos (show Nat.beq 1 1 = true from rfl), if_pos ⟨rfl, h2⟩, Qv2 _ _ _ h2]; rfl
            . rw [Zju (by omega), if_pos (show Nat.beq 1 1 = true from rfl), if_neg (fun e => h2 e.2)]; rfl
          . have : Nat.beq m 1 = false := by rw [Zl7]; intro e; exact h (Zmb e)
            show (if Nat.beq m 1 = true then _ else FO.no) = _
            rw [this, if_neg (by simp), if_neg (fun e => h (by simpa using e.1.symm))]; rfl
        | _ => rfl
     cases (cR n x).f T with
     | bad => rfl
     | tuple l => rfl
     | agg cs =>
       simp only [V.cells]
       by_cases hs : cs.all V.scalar
       . simp only [hs, if_true, Qjw]
         cases Km F f s with
         | none => rfl
         | some q =>
           cases q with
           | cells xs =>
             simp only [Qd7]
             by_cases h : cs.length = m
             . have e : Nat.beq cs.length m = true := by rw [h]; exact Nat.beq_refl m
               by_cases h2 : o + m <= xs.length
               . have e2 : Nat.ble (Nat.add o m) xs.length = true := Zma h2
                 rw [e, e2, if_pos rfl, if_pos rfl, if_pos ⟨h, h2⟩]; rfl
               . have e2 : Nat.ble (Nat.add o m) xs.length = false := by rw [Zl7]; intro q; exact h2 (Zlt q)
                 rw [e, e2, if_pos rfl, if_neg (by simp), if_neg (fun q => h2 q.2)]; rfl
             . have e : Nat.beq cs.length m = false := by rw [Zl7]; intro q; exact h (Zmb q)
               rw [e, if_neg (by simp), if_neg (fun q => h q.1)]; rfl
           | _ => rfl
       . simp only [hs, if_false, Zjv]; rfl
     | _ => exact one _ rfl
   | _ => rfl
theorem Qo6 (dst : Option Nat) (t : TypeId) (x : Operand) (i : Nat) (cc : FC) (nm : Nat) (k : KT) (T : TM) (F : FH) : (Qhp P n dst t x i).f cc nm k T F = (Ku P pol n dst (.fieldAddr t x i)).f cc nm k T F := by
 simp only [Qhp, Ku, evX, Qhj, Qlc (P := P) (o := .fieldAddr t x i) (by simp)]
 cases P.underlying t with
 | none => rfl
 | some dd =>
   cases dd with
   | struct fs =>
     simp only
     cases fs[i]? with
     | none => rfl
     | some f =>
       simp only
       cases sz P f.type with
       | none => rfl
       | some m =>
         simp only
         by_cases h : m = 0
         . subst h; rfl
         . have e : Nat.beq m 0 = false := by rw [Zl7]; intro q; exact h (Zmb q)
           rw [e, if_neg h]
           simp only [cond_false, offV, Qsq]
           cases (cR n x).f T <;> rfl
   | _ => rfl
theorem Q4p (t : TypeId) (xs : List V) (o : Nat) : (Q35 P t).f xs o = Qbd P t xs o := by
 simp only [Q35, Qbd]
 cases P.underlying t with
 | none => rfl
 | some dd =>
   cases sz P t with
   | none => rfl
   | some m =>
     simp only
     cases Qk5 dd with
     | false => simp only [cond_false, Qii, Zjv, if_false]
     | true => rfl
theorem Q1c (dst : Option Nat) (t : TypeId) (x : Operand) (i : Nat) (cc : FC) (nm : Nat) (k : KT) (T : TM) (F : FH) : (Qxq P n dst t x i).f cc nm k T F = (Ku P pol n dst (.field t x i)).f cc nm k T F := by
 simp only [Qxq, Ku, evX, Qxs, Qlc (P := P) (o := .field t x i) (by simp)]
 cases P.underlying t with
 | none => rfl
 | some dd =>
   cases dd with
   | struct fs =>
     simp only
     cases hf : fs[i]? with
     | none =>
       simp only
       cases (cR n x).f T <;> first | rfl | (simp only [hf]; rfl)
     | some f =>
       simp only [aggO, Q8b, Q4p]
       cases (cR n x).f T with
       | agg cs =>
         simp only [hf]
         cases Qbd P f.type cs f.offset <;> rfl
       | _ => rfl
   | _ => rfl
end
end Go.AM.BM
end
section
namespace Go.AM.BM
section
variable {P : Program} {pol : Pol} {n : Nat}
theorem Q37 {R : Type} (v : V) (nl : R) (ki : List V -> Nat -> R) (kg : List V -> Nat -> Nat -> R) (km : Nat -> Nat -> Nat -> Nat -> Nat -> R) (e : R) : vSl v nl ki kg km e = match v with
 | .nS => nl
 | .iS cs m _ => ki cs m
 | .gS _ _ cs m q => kg cs m q
 | .mS f s o m _ q => km f s o m q
 | _ => e := by cases v <;> rfl
theorem Qf7 (a b : Nat) : Nat.beq a b = decide (a = b) := by
 cases h : Nat.beq a b with
 | true => exact (Zmo (Zmb h)).symm
 | false => exact (Zmp (Nat.ne_of_beq_eq_false h)).symm
theorem Qqy (a b : Nat) : Nat.ble a b = decide (a <= b) := by
 cases h : Nat.ble a b with
 | true => exact (Zmo (Zlt h)).symm
 | false =>
   symm; apply Zmp
   intro e
   rw [Zma e] at h; cases h
theorem Q7h {t e : TypeId} {m : Nat} (hu : P.underlying t = some (.slice e)) (hs : sz P e = some m) (x i : V) : atSl m x i = Q9 P t x i := by
 simp only [atSl, Qq6]
 cases i with
 | int k i =>
   simp only [Q9, hu, hs]
   cases i with
   | negSucc i =>
     have : ¬ (0 <= Int.negSucc i) := by omega
     cases x <;> simp only [this, false_and, if_false]
   | ofNat i =>
     have h0 : (0 : Int) <= (Int.ofNat i) := by simp
     have ht : (Int.ofNat i).toNat = i := rfl
     have hl : ∀ n : Nat, (Int.ofNat i < (n : Int)) ↔ Nat.succ i <= n := fun n => by simp; omega
     simp only [Q37]
     cases x with
     | iS cs len full =>
       simp only [Qd7, Qf7, Qqy, decide_eq_true_eq, h0, true_and, hl, ht]
       by_cases a : Nat.succ i <= len
       . by_cases b : cs.length = len * m
         . by_cases c : 1 <= m
           . simp [a, b, c, Nat.pos_of_ne_zero (by omega : m ≠ 0)]
           . have : ¬ 0 < m := by omega
             simp [a, b, c, this]
         . simp [a, b]
       . simp [a]
     | gS f s cs len e' =>
       simp only [Qd7, Qf7, Qqy, decide_eq_true_eq, h0, true_and, hl, ht]
       by_cases a : Nat.succ i <= len
       . by_cases b : e' = m
         . simp only [a, b, if_true, and_self]
           cases Qk cs <;> rfl
         . simp [a, b]
       . simp [a]
     | mS f s o len cap e' =>
       simp only [Qd7, Qf7, Qqy, decide_eq_true_eq, h0, true_and, hl, ht]
       by_cases a : Nat.succ i <= len
       . by_cases b : e' = m
         . simp [a, b]
         . simp [a, b]
       . simp [a]
     | _ => (first | rfl | simp)
 | _ => (first | rfl | simp [Q9])
theorem Qou (dst : Option Nat) (t : TypeId) (x i : Operand) (cc : FC) (nm : Nat) (k : KT) (T : TM) (F : FH) : (Qhh P n dst t x i).f cc nm k T F = (Ku P pol n dst (.indexAddr t x i)).f cc nm k T F := by
 have gen : Qha (Q9 P t ((cR n x).f T) ((cR n i).f T)) (fun v => k ((cP n dst).f T v) F) = (Ku P pol n dst (.indexAddr t x i)).f cc nm k T F :=
  Qiq (x := Q9 P t ((cR n x).f T) ((cR n i).f T)) rfl (fun _ => rfl)
 rw [<- gen]
 simp only [Qhh]
 cases hu : P.underlying t with
 | none => rfl
 | some dd =>
   cases dd with
   | slice e =>
     simp only
     cases hs : sz P e with
     | none =>
       have : Q9 P t ((cR n x).f T) ((cR n i).f T) = none := by
        unfold Q9
        split
        . simp only [hu, hs]
        . rfl
       rw [this]; rfl
     | some m =>
       simp only
       rw [Q7h hu hs]
   | _ => rfl
theorem Q23 (dst : Option Nat) (s t : TypeId) (x : Operand) (cc : FC) (nm : Nat) (k : KT) (T : TM) (F : FH) : (Q4h P pol n dst s t x).f cc nm k T F = (Ku P pol n dst (.convert s t x)).f cc nm k T F := by
 unfold Q4h
 split
 . rename_i q a hq ha
   simp only [Qq6]
   split
   . rename_i b m hx
     rw [Q5f]
     simp only [Ku, evX, Qiv, convertV, hq, ha, hx]
     rfl
   . rfl
 . rfl
theorem Q5z {t : TypeId} (h : isSl P t = true) : ∃ e, P.underlying t = some (.slice e) := by
 unfold isSl at h
 split at h
 . rename_i e he; exact ⟨e, he⟩
 . cases h
theorem Q6z (dst : Option Nat) (c : Go.Call) (cc : FC) (nm : Nat) (k : KT) (T : TM) (F : FH) : Sub .no ((cLen P pol n dst c).f cc nm k T F) ((Ku P pol n dst (.call c)).f cc nm k T F) := by
 unfold cLen
 split
 . rename_i x t hc ha ht
   cases h : isSl P t with
   | false => exact .inr rfl
   | true =>
     simp only [cond_true]
     obtain ⟨e, he⟩ := Q5z h
     have h0 : c.argTypes[0]? = some t := by rw [<- Zk4, ht]; rfl
     simp only [lenO, Q37, Ku, evX, Qyz, hc, ha, Zkd, List.map_nil, builtinV, h0, Y5, he]
     cases (cR n x).f T with
     | nS => exact .inr rfl
     | iS cs m f => exact .inr rfl
     | gS f s cs m q => exact .inr rfl
     | mS f s o m cap q => exact .inr rfl
     | _ => exact .inl rfl
 . exact .inr rfl
theorem Q43 (dst : Option Nat) (c : Go.Call) (cc : FC) (nm : Nat) (k : KT) (T : TM) (F : FH) : Sub .no ((Q4y P pol n dst c).f cc nm k T F) ((Ku P pol n dst (.call c)).f cc nm k T F) := by
 unfold Q4y
 split
 . rename_i f hc
   refine .inr ?_
   have hf : (cR n (.func f)).f T = .func (.func f) [] [] := rfl
   simp only [Ku, evX, Qyz, hc, hf, Qma, Zlh, Zk5, Qgo]
   cases hps : pol.prims f with
   | some g => simp only [Qpw, Qgo, hps]
   | none =>
   simp only
   cases hp : pol.prim f with
   | none =>
     simp only
     cases ha : pol.fixA f with
     | some i => simp only [Qpw, Qgo, hps, hp, ha]
     | none =>
       cases hx : pol.fix f with
       | false => simp only [Qpw, Qif, fixF, wrF]
       | true => simp only [Qpw, Qgo, hps, hp, ha, hx]
   | some g =>
     simp only [Qpw]
     generalize (List.map (fun x => (cR n x).f T) c.args.toList) = args
     cases g 0 (some F.next) (Km F) args with
     | none => rfl
     | some x => rfl
 . exact .inr rfl
 . exact Q6z dst c cc nm k T F
theorem cOp_ok (chk : Bool) (dst : Option Nat) (o : Op) (cc : FC) (nm : Nat) (k : KT) (T : TM) (F : FH) (hf : chk = false -> F.tr.get nm = none) :
 Sub .no ((cOp P pol n chk dst o).f cc nm k T F) ((Ku P pol n dst o).f cc nm k T F) := by
 unfold cOp
 split
 . exact .inr (Q3c dst _ cc nm k T F)
 . exact .inr (Qzt dst _ cc nm k T F)
 . exact .inr (Q3j dst _ _ _ cc nm k T F)
 . exact .inr (Q0g chk dst _ cc nm k T F hf)
 . exact .inr (Q47 dst _ _ cc nm k T F)
 . exact .inr (Q0x dst _ _ _ cc nm k T F)
 . exact .inr (Q7k dst _ cc nm k T F)
 . exact .inr (Qz1 dst _ _ _ _ _ cc nm k T F)
 . exact .inr (Q3i dst _ _ _ cc nm k T F)
 . exact .inr (Qo6 dst _ _ _ cc nm k T F)
 . exact .inr (Q1c dst _ _ _ cc nm k T F)
 . exact .inr (Qur dst _ _ cc nm k T F)
 . exact .inr (Qou dst _ _ _ cc nm k T F)
 . exact .inr (Q23 dst _ _ _ cc nm k T F)
 . exact Q43 dst _ cc nm k T F
 . exact .inr rfl
/-! ### An operation, and the machine's -/
def Qgs (Kd : List V -> Heap -> Out) (x : Option (Ex × List V × Heap)) : Out := match x with
 | some (.normal, t, H) => Kd t H
 | x => x
theorem Q54 {x : FR} {o : Option (Rt × Heap)} (h : RR x o) (b : Bool) : RR (fixF b x) (Qtx b o) := by
 cases b with
 | false => exact h
 | true =>
   cases x with
   | no => trivial
   | ret v F =>
     obtain ⟨H, rfl, hF⟩ := h
     simp only [fixF, Qtx, hF.get]
     cases Qu4 (Qb H) v with
     | none => trivial
     | some y => exact ⟨_, rfl, hF.wr y.2⟩
   | pan v F => obtain ⟨H, rfl, hF⟩ := h; exact ⟨H, rfl, hF⟩
theorem Q5e {cc : FC} {C : Call} (hc : RC cc C) (f : FuncId) (args : List V) {F : FH} {H : Heap} (h : RH F H) : RR (Qgo pol cc f args F) (callOp pol C (Q8 H) f args H) := by
 unfold Qgo callOp
 cases pol.prims f with
 | some g =>
   simp only
   rw [h.get, h.next]
   cases g F.next (Qb H) args with
   | none => trivial
   | some x => exact ⟨_, rfl, RH.wrL _ h⟩
 | none =>
 simp only
 cases pol.prim f with
 | none =>
   simp only [h.get]
   cases Qif (Qb H) (pol.fixA f) args with
   | none => trivial
   | some y => exact Q54 (hc (some f) y.1 _ _ (h.wr y.2)) _
 | some g =>
   simp only
   rw [h.get, h.next]
   cases g 0 (some F.next) (Qb H) args with
   | none => trivial
   | some x => exact ⟨_, rfl, h.wr x.2⟩
theorem Q50 {cc : FC} {C : Call} (hc : RC cc C) (nm : Nat) {k : KT} {Kd : List V -> Heap -> Out} (hk : ∀ T t F H, RT n T t -> RH F H -> RO n (k T F) (Kd t H)) (o : Oper) {T : TM} {t : List V} {F : FH} {H : Heap} (hT : RT n T t) (hF : RH F H) :
 RO n ((Ku P pol n o.dst o.op).f cc nm k T F) (Qgs Kd (Zd P pol C nm t H o)) := by
 simp only [Ku, Zd, Q2f, hT.rhoF, hF.get]
 cases evX P (Qb H) (rho t) nm o.op with
 | none =>
   simp only [Qma]
   cases Jr P (Qb H) (rho t) nm o.op with
   | none => trivial
   | some x => exact hk _ _ _ _ (hT.put _ _) (RH.wrL _ hF)
 | some s =>
   cases s with
   | val v w => exact hk _ _ _ _ (hT.put _ _) (hF.wr w)
   | panic v => exact ⟨t, H, rfl, hT, hF⟩
   | call f args =>
     have := Q5e (pol := pol) hc f args hF
     simp only [Qma, resK]
     revert this
     cases Qgo pol cc f args F with
     | no => intro _; trivial
     | ret v F' => rintro ⟨H', e, h'⟩; simp only [e, Qgs]; exact hk _ _ _ _ (hT.put _ _) h'
     | pan v F' => rintro ⟨H', e, h'⟩; simp only [e, Qgs]; exact ⟨t, H', rfl, hT, h'⟩
   | round f s args =>
     have := hc none (.yield f s :: args) F H hF
     simp only [Qma, rndK]
     revert this
     cases cc none (.yield f s :: args) F with
     | no => intro _; trivial
     | ret v F' => rintro ⟨H', e, h'⟩; simp only [e, Qgs]; exact hk _ _ _ _ (hT.put _ _) h'
     | pan v F' => intro _; trivial
theorem RO.sub {x y : FO} {o : Out} (h : Sub .no x y) (r : RO n y o) : RO n x o := by
 rcases h with rfl | rfl
 . trivial
 . exact r
theorem Qpt {cc : FC} {C : Call} (hc : RC cc C) (chk : Bool) (nm : Nat) {k : KT} {Kd : List V -> Heap -> Out} (hk : ∀ T t F H, RT n T t -> RH F H -> RO n (k T F) (Kd t H)) (o : Oper) {T : TM} {t : List V} {F : FH} {H : Heap} (hT : RT n T t) (hF : RH F H)
 (hn : chk = false -> nm = F.next) : RO n ((cOp P pol n chk o.dst o.op).f cc nm k T F) (Qgs Kd (Zd P pol C nm t H o)) :=
 RO.sub (cOp_ok chk o.dst o.op cc nm k T F fun h => by rw [hn h]; exact hF.fresh) (Q50 hc nm hk o hT hF)
theorem Qp4 {ops : Array Oper} {T : TM} {t : List V} (hT : RT n T t) {o : Oper} {j : Nat} {want : Bool} (hg : o.guard = some (j, want)) {i : Nat} (hi : (ops[j]?).bind (·.dst) = some i) :
 Zs ops t o = match (cR n (.tmp i)).f T with
  | .bool b => some (b == want)
  | .tuple [] => some false
  | _ => none := by
 rw [hT.rho]
 simp only [Zs, hg, hi, Zj8, rho, List.getD]
 cases h : t[i]? with
 | none => rfl
 | some v =>
   cases v with
   | tuple vs => cases vs <;> rfl
   | _ => rfl
theorem Qkv {ops : Array Oper} {t : List V} {o : Oper} (hg : o.guard = none) : Zs ops t o = some true := by simp only [Zs, hg]
theorem bcond (b want : Bool) : (bif b then want else !want) = (b == want) := by cases b <;> cases want <;> rfl
theorem Qdy {cc : FC} {C : Call} (hc : RC cc C) (ops : Array Oper) : ∀ (l : List Oper) {T : TM} {t : List V} {F : FH} {H : Heap}, RT n T t -> RH F H -> RO n ((Qtl P pol n ops l).f cc T F) (Zf P pol C ops l t H)
 | [], T, t, F, H, hT, hF => ⟨t, H, rfl, hT, hF⟩
 | o :: l, T, t, F, H, hT, hF => by
   have ih := fun {T : TM} {t : List V} {F : FH} {H : Heap} => Qdy hc ops l (T := T) (t := t) (F := F) (H := H)
   have step : RO n ((cOp P pol n false o.dst o.op).f cc F.next ((Qtl P pol n ops l).f cc) T F) (Qgs (Zf P pol C ops l) (Zd P pol C (Q8 H) t H o)) := by
    rw [hF.next]
    exact Qpt hc false F.next (fun T t F H h1 h2 => ih h1 h2) o hT hF (fun _ => rfl)
   have key : (match Zd P pol C (Q8 H) t H o with
    | some (.normal, t, H) => Zf P pol C ops l t H
    | x => x) = Qgs (Zf P pol C ops l) (Zd P pol C (Q8 H) t H o) := by
    unfold Qgs
    rfl
   show RO n ((cG P pol n ops false o).f cc F.next ((Qtl P pol n ops l).f cc) T F) _
   simp only [Zf]
   unfold cG
   cases hg : o.guard with
   | none =>
     simp only [Qkv hg]
     exact step
   | some q =>
     obtain ⟨j, want⟩ := q
     simp only
     cases hi : (ops[j]?).bind (·.dst) with
     | none => trivial
     | some i =>
       simp only [Qp4 hT hg hi]
       cases hv : (cR n (.tmp i)).f T with
       | bool b =>
         simp only [bcond]
         cases hb : (b == want) with
         | true => simp only [cond_true]; exact step
         | false => simp only [cond_false]; exact ih (hT.put _ _) hF
       | tuple vs =>
         cases vs with
         | nil => exact ih (hT.put _ _) hF
         | cons v vs => trivial
       | _ => trivial
/-! ### Regions that draw their order -/
theorem fpG_eq (lim nm : Nat) {T : TM} {t : List V} {F F1 : FH} {H H1 : Heap} (hT : RT n T t) (hF : RH F H) (hF1 : RH F1 H1) (o : Oper) : fpG P lim nm (Km F) (Km F1) F.next (fun x => (cR n x).f T) o = Z4 P lim nm t H H1 o := by
 have e1 := hF.next
 simp only [fpG, Z4, Q2f, hT.rhoF, hF.get, hF1.get]
 split
 . rfl
 . split
   . rfl
   . cases evX P (Qb H) (rho t) nm o.op with
     | none => rfl
     | some s =>
       have hk : Qgp lim H H1 = fun f s => Nat.ble lim F.next && eqbG (Qb H f s) (Qb H1 f s) := by simp only [<- e1]; rfl
       cases s with
       | call f args => simp only [hk]
       | _ => rfl
def RFT (n : Nat) : FT -> Option (List V × Heap × List FP) -> Prop
 | .no, _ => True
 | .ok T F l, o => ∃ t H, o = some (t, H, l) /\ RT n T t /\ RH F H
theorem Qkz {cc : FC} {C : Call} (hc : RC cc C) (ops : Array Oper) (lim : Nat) : ∀ (l : List Oper) (nm : Nat) {T : TM} {t : List V} {F : FH} {H : Heap}, RT n T t -> RH F H -> RFT n ((Qj7 P pol n ops l).f cc lim nm T F) (Q7 P pol C ops lim nm l t H)
 | [], nm, T, t, F, H, hT, hF => ⟨t, H, rfl, hT, hF⟩
 | o :: l, nm, T, t, F, H, hT, hF => by
   have ih := fun {T : TM} {t : List V} {F : FH} {H : Heap} => Qkz hc ops lim l (nm + 1) (T := T) (t := t) (F := F) (H := H)
   have cons : ∀ (fp : FP) (x : FT) (o : Option (List V × Heap × List FP)), RFT n x o -> RFT n (Qg4 fp x) (match o with
    | some (t', H', T) => some (t', H', fp :: T)
    | none => none) := by
    intro fp x o h
    cases x with
    | no => trivial
    | ok T F l => obtain ⟨t, H, rfl, h1, h2⟩ := h; exact ⟨t, H, rfl, h1, h2⟩
   have step : RFT n (oneT ((cOp P pol n true o.dst o.op).f cc nm (fun T F => .nrm T F) T F) fun T1 F1 =>
         Qg4 (fpG P lim nm (Km F) (Km F1) F.next (fun x => (cR n x).f T) o) ((Qj7 P pol n ops l).f cc lim (Nat.succ nm) T1 F1))
    (match Zd P pol C nm t H o with
      | some (.normal, t1, H1) => (match Q7 P pol C ops lim (nm + 1) l t1 H1 with
        | some (t', H', T) => some (t', H', Z4 P lim nm t H H1 o :: T)
        | none => none)
      | _ => none) := by
    have := Qpt (P := P) (pol := pol) hc true nm (k := fun T F => .nrm T F) (Kd := fun t H => some (.normal, t, H)) (fun T t F H h1 h2 => ⟨t, H, rfl, h1, h2⟩) o hT hF (fun e => by cases e)
    revert this
    cases (cOp P pol n true o.dst o.op).f cc nm (fun T F => .nrm T F) T F with
    | nrm T1 F1 =>
      rintro ⟨t1, H1, e, h1, h2⟩
      have e2 : Zd P pol C nm t H o = some (.normal, t1, H1) := by
       revert e
       unfold Qgs
       cases Zd P pol C nm t H o with
       | none => intro e; cases e
       | some y =>
         obtain ⟨ex, ty, Hy⟩ := y
         cases ex <;> intro e <;> cases e
         rfl
      simp only [e2, oneT]
      rw [fpG_eq lim nm hT hF h2 o]
      exact cons _ _ _ (ih h1 h2)
    | _ => intro _; trivial
   show RFT n ((match o.guard with
    | none => (⟨fun cc lim nm T F => oneT ((cOp P pol n true o.dst o.op).f cc nm (fun T F => .nrm T F) T F) fun T1 F1 =>
       Qg4 (fpG P lim nm (Km F) (Km F1) F.next (fun x => (cR n x).f T) o) ((Qj7 P pol n ops l).f cc lim (Nat.succ nm) T1 F1)⟩ : Box (FC -> Nat -> Nat -> TM -> FH -> FT))
    | some (j, want) => (match (ops[j]?).bind (·.dst) with
      | some i => ⟨fun cc lim nm T F => match (cR n (.tmp i)).f T with
        | .bool b => bif (bif b then want else !want) then oneT ((cOp P pol n true o.dst o.op).f cc nm (fun T F => .nrm T F) T F) fun T1 F1 =>
           Qg4 (fpG P lim nm (Km F) (Km F1) F.next (fun x => (cR n x).f T) o) ((Qj7 P pol n ops l).f cc lim (Nat.succ nm) T1 F1)
          else Qg4 .quiet ((Qj7 P pol n ops l).f cc lim (Nat.succ nm) ((cP n o.dst).f T nov) F)
        | .tuple [] => Qg4 .quiet ((Qj7 P pol n ops l).f cc lim (Nat.succ nm) ((cP n o.dst).f T nov) F)
        | _ => .no⟩
      | none => ⟨fun _ _ _ _ _ => .no⟩)).f cc lim nm T F) _
   simp only [Q7]
   cases hg : o.guard with
   | none =>
     simp only [Qkv hg]
     exact step
   | some q =>
     obtain ⟨j, want⟩ := q
     simp only
     cases hi : (ops[j]?).bind (·.dst) with
     | none => trivial
     | some i =>
       simp only [Qp4 hT hg hi]
       cases hv : (cR n (.tmp i)).f T with
       | bool b =>
         simp only [bcond]
         cases hb : (b == want) with
         | true => simp only [cond_true]; exact step
         | false => simp only [cond_false]; exact cons _ _ _ (ih (hT.put _ _) hF)
       | tuple vs =>
         cases vs with
         | nil => exact cons _ _ _ (ih (hT.put _ _) hF)
         | cons v vs => trivial
       | _ => trivial
theorem Qx7 {cc : FC} {C : Call} (hc : RC cc C) (ops : Array Oper) (draw : Bool) {T : TM} {t : List V} {F : FH} {H : Heap} (hT : RT n T t) (hF : RH F H) :
 RO n ((cReg P pol n ops draw).f cc T F) (if draw then (match Qb H 0 (Q8 H + ops.size) with
  | some _ => none
  | none => (match Q7 P pol C ops (Q8 H + ops.size) (Q8 H) ops.toList t (hset H 0 (Q8 H + ops.size) .dead) with
    | some (t', H', T) => if okT (Region.before ops) (loud T) then some (.normal, t', H') else none
    | none => none)) else Zf P pol C ops ops.toList t H) := by
 cases draw with
 | false => exact Qdy hc ops ops.toList hT hF
 | true =>
   simp only [cReg, cond_true, if_true, hF.next, hF.tr]
   cases Qb H 0 (F.next + ops.size) with
   | some o => trivial
   | none =>
     simp only
     have := Qkz (P := P) (pol := pol) hc ops (F.next + ops.size) ops.toList F.next hT (hF.set (F.next + ops.size) .dead)
     revert this
     cases (Qj7 P pol n ops ops.toList).f cc (F.next + ops.size) F.next T (Qeq F (F.next + ops.size) .dead) with
     | no => intro _; trivial
     | ok T' F' l =>
       rintro ⟨t', H', e, h1, h2⟩
       simp only [e, endT]
       cases okT (Region.before ops) (loud l) with
       | true => exact ⟨t', H', rfl, h1, h2⟩
       | false => trivial
end
end Go.AM.BM
end
