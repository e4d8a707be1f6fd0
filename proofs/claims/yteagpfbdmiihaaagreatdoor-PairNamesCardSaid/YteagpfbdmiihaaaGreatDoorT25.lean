/- This file holds in one the texts Bf4, Bf5; each says at its head what it proves. -/
import Derived.Test.YteagpfbdmiihaaaGreatDoorT24
set_option linter.unusedSimpArgs false
set_option linter.unusedVariables false
section
namespace Go.AM.BM
def RO (n : Nat) : FO -> Out -> Prop
 | .no, _ => True
 | .nrm T F, o => ∃ t H, o = some (.normal, t, H) /\ RT n T t /\ RH F H
 | .exi i T F, o => ∃ t H, o = some (.exit i, t, H) /\ RT n T t /\ RH F H
 | .ret T F, o => ∃ t H, o = some (.ret, t, H) /\ RT n T t /\ RH F H
 | .pan v T F, o => ∃ t H, o = some (.panic v, t, H) /\ RT n T t /\ RH F H
def RR : FR -> Option (Rt × Heap) -> Prop
 | .no, _ => True
 | .ret v F, o => ∃ H, o = some (.ret v, H) /\ RH F H
 | .pan v F, o => ∃ H, o = some (.pan v, H) /\ RH F H
def RC (cc : FC) (C : Call) : Prop := ∀ f args F H, RH F H -> RR (cc f args F) (C f args H)
def Sub {α : Type} (no x y : α) : Prop := x = no \/ x = y
theorem Sub.refl {α : Type} {no : α} (x : α) : Sub no x x := .inr rfl
/-! ### The parts, by cases -/
theorem Q1r (k : V -> FO) : Qhv none k = .no := rfl
theorem Qie : ∀ (l : List V) (i : Nat), Qyb l i = l[i]?
 | [], i => rfl
 | x :: l, 0 => rfl
 | x :: l, i + 1 => by
   show Qyb l i = _
   rw [Qie l i]; rfl
theorem Qzw : ∀ (l : List V) (i : Nat) (v : V), setV l i v = l.set i v
 | [], i, v => rfl
 | x :: l, 0, v => rfl
 | x :: l, i + 1, v => by
   show x :: setV l i v = _
   rw [Qzw l i v]; rfl
theorem Qwf (l : List V) (i : Nat) (v : V) (h : i < l.length) : l.set i v = splice l i [v] := by
 induction l generalizing i with
 | nil => simp at h
 | cons x l ih =>
   cases i with
   | zero => simp [splice]
   | succ i =>
     simp only [Zld] at h
     simp only [List.set_cons_succ, ih i (by omega), splice]
     simp
theorem Qjj {R : Type} (o : Option O) (k : List V -> R) (e : R) : Qmk o k e = match o with
 | some (.cells xs) => k xs
 | _ => e := by
 cases o with
 | none => rfl
 | some o => cases o <;> rfl
theorem Qtf {R : Type} (v : V) (kp : Nat -> Nat -> Nat -> R) (ki kr : List V -> Nat -> R) (e : R) : vPtr v kp ki kr e = match v with
 | .ptr f s o => kp f s o
 | .iptr cs o => ki cs o
 | .rptr cs o => kr cs o
 | _ => e := by cases v <;> rfl
theorem Qrg {R : Type} (v : V) (k : IntKind -> Int -> R) (e : R) : vInt v k e = match v with
 | .int a m => k a m
 | _ => e := by cases v <;> rfl
theorem Q8h {R : Type} (v : V) (k : List V -> R) (e : R) : vAgg v k e = match v with
 | .agg cs => k cs
 | _ => e := by cases v <;> rfl
theorem Q6c {R : Type} (v : V) (k : List V -> R) (e : R) : vTup v k e = match v with
 | .tuple cs => k cs
 | _ => e := by cases v <;> rfl
theorem Qv8 {R : Type} (v : V) (a b e : R) : vBool v a b e = match v with
 | .bool t => if t then a else b
 | _ => e := by
 cases v with
 | bool t => cases t <;> rfl
 | _ => rfl
theorem Q51 (a b : IntKind) : Nat.beq (Qy6 a) (Qy6 b) = decide (a = b) := by
 cases a <;> cases b <;> rfl
theorem Qe3 {R : Type} (m l : Int) (k : Nat -> Nat -> R) (e : R) (x : Int -> Int -> R) (h : ∀ a b : Nat, m = a -> l = b -> k a b = x m l) (he : e = x m l) : Qpy m l k e = x m l := by
 cases m with
 | ofNat a => cases l with
   | ofNat b => exact h a b rfl rfl
   | negSucc b => exact he
 | negSucc a => exact he
theorem Qnt (k : IntKind) (m : Nat) : Qu4 k m = k.wrap (m : Int) := by
 have hu : ∀ (n : Nat), (Int.ofNat (Nat.mod m n)) = (m : Int) % (n : Int) := fun n => (Int.natCast_emod m n)
 cases k with
 | i64 =>
   show Bool.rec (motive := fun _ => Int) (IntKind.i64.wrap (Int.ofNat m)) (Int.ofNat m) (Nat.ble m (nat_lit 9223372036854775807)) = _
   cases h : Nat.ble m (nat_lit 9223372036854775807) with
   | false => rfl
   | true =>
     have h1 : m <= 9223372036854775807 := Zmy h
     show (m : Int) = _
     have e : (m : Int) % (2 ^ 64 : Int) = m := by omega
     simp only [IntKind.wrap, IntKind.bits, IntKind.signed, Zmv, e]
     rw [if_neg]
     simp only [decide_eq_true_eq]
     omega
 | u8 => exact hu 256
 | u16 => exact hu 65536
 | u32 => exact hu 4294967296
 | u64 => exact hu 18446744073709551616
 | i8 => rfl
 | i16 => rfl
 | i32 => rfl
theorem Q74 (k : IntKind) (m l : Int) : addI k m l = k.wrap (m + l) := by
 refine Qe3 m l _ _ (fun m l => k.wrap (m + l)) ?_ rfl
 rintro a b rfl rfl
 rw [Qnt]; rfl
theorem Q6k (k : IntKind) (m l : Int) : subI k m l = k.wrap (m - l) := by
 refine Qe3 m l _ _ (fun m l => k.wrap (m - l)) ?_ rfl
 rintro a b rfl rfl
 cases h : Nat.ble b a with
 | false => rfl
 | true =>
   have := Zmy h
   show Qu4 k (a - b) = _
   rw [Qnt]
   congr 1
   omega
theorem Q3p (m l : Int) : ltI m l = decide (m < l) := by
 refine Qe3 m l _ _ (fun m l => decide (m < l)) ?_ rfl
 rintro a b rfl rfl
 cases h : Nat.ble (Nat.succ a) b with
 | true => have := Zmy h; symm; exact Znv (by omega)
 | false =>
   symm
   apply Znw
   intro e
   have : Nat.ble (Nat.succ a) b = true := Zng (by omega)
   rw [this] at h; cases h
theorem Q2p (m l : Int) : leI m l = decide (m <= l) := by
 refine Qe3 m l _ _ (fun m l => decide (m <= l)) ?_ rfl
 rintro a b rfl rfl
 cases h : Nat.ble a b with
 | true => have := Zmy h; symm; exact Znv (by omega)
 | false =>
   symm
   apply Znw
   intro e
   have : Nat.ble a b = true := Zng (by omega)
   rw [this] at h; cases h
theorem Q5m (m l : Int) : eqI m l = (m == l) := by
 have : (m == l) = decide (m = l) := by by_cases h : m = l <;> simp [h]
 rw [this]
 refine Qe3 m l _ _ (fun m l => decide (m = l)) ?_ rfl
 rintro a b rfl rfl
 cases h : Nat.beq a b with
 | true => have := Znh h; symm; exact Znv (by omega)
 | false =>
   have := Nat.ne_of_beq_eq_false h
   symm
   exact Znw (by omega)
theorem Q52 (k : IntKind) (m : Int) : convI k m = k.wrap m := by
 cases m with
 | ofNat a => exact Qnt k a
 | negSucc a => rfl
section
variable {P : Program} {pol : Pol} {n : Nat}
theorem Qi0 {o : Op} {dst : Option Nat} {cc : FC} {nm : Nat} {k : KT} {T : TM} {F : FH} {x : Option V} (h : evX P (Ks F) (fun x => (cR n x).f T) nm o = Qnw x)
 (hm : x = none -> Jx P (Ks F) (fun x => (cR n x).f T) nm o = none) : Qhv x (fun v => k ((cP n dst).f T v) F) = (Kz P pol n dst o).f cc nm k T F := by
 simp only [Kz, h, Qnw]
 cases x with
 | none => simp only [Zmf, Qmb, hm rfl, Q1r]
 | some v => rfl
theorem Qll {o : Op} {g : Get} {r : Operand -> V} {nm : Nat} (h : ∀ c, o ≠ .call c) (h2 : ∀ t x a b c, o ≠ .slice t x a b c := by simp) : Jx P g r nm o = none := by
 unfold Jx
 split
 . exact absurd rfl (h2 _ _ _ _ _)
 . rename_i c; exact absurd rfl (h c)
 . rfl
theorem Q5j (dst : Option Nat) (x : Operand) (cc : FC) (nm : Nat) (k : KT) (T : TM) (F : FH) : (Q3t n dst x).f cc nm k T F = (Kz P pol n dst (.move x)).f cc nm k T F := rfl
theorem Q0p (dst : Option Nat) (x : Operand) (cc : FC) (nm : Nat) (k : KT) (T : TM) (F : FH) : (Q3t n dst x).f cc nm k T F = (Kz P pol n dst (.assign x)).f cc nm k T F := rfl
theorem Q3y (dst : Option Nat) (c a b : Operand) (cc : FC) (nm : Nat) (k : KT) (T : TM) (F : FH) : (Q4z n dst c a b).f cc nm k T F = (Kz P pol n dst (.pick c a b)).f cc nm k T F := by
 simp only [Q4z, Qqh, Qv8, Kz, evX, Q5t]
 cases (cR n c).f T with
 | bool t => cases t <;> rfl
 | _ => rfl
theorem Q8q (dst : Option Nat) (x : Operand) (cc : FC) (nm : Nat) (k : KT) (T : TM) (F : FH) : (cNil n dst x).f cc nm k T F = (Kz P pol n dst (.nilCheck x)).f cc nm k T F :=
 Qi0 (x := ncV ((cR n x).f T)) rfl (fun _ => rfl)
theorem Q3g (dst : Option Nat) (op : UnOp) (t : TypeId) (x : Operand) (cc : FC) (nm : Nat) (k : KT) (T : TM) (F : FH) : (cUnOp n dst op x).f cc nm k T F = (Kz P pol n dst (.unOp op t x)).f cc nm k T F :=
 Qi0 (x := unV op ((cR n x).f T)) rfl (fun _ => rfl)
theorem Qa5 (x y : V) (k : IntKind -> Int -> Int -> Option V) (e : Option V) (h : ∀ a m l, x = .int a m -> y = .int a l -> k a m l = e) (h2 : ∀ a b m l, x = .int a m -> y = .int b l -> a ≠ b -> e = none) : Qg9 x y k e = e := by
 simp only [Qg9, Qrg]
 cases x with
 | int a m =>
   cases y with
   | int b l =>
     simp only [Q51]
     by_cases c : a = b
     . subst c
       simp only [decide_true]
       exact h a m l rfl rfl
     . simp only [c, decide_false]
       exact (h2 a b m l rfl rfl c).symm
   | _ => rfl
 | _ => rfl
theorem Q6s (op : BinOp) (t : TypeId) (x y : Operand) (a b : V) : (cBin P op t x y).f a b = Z1 P op t x y a b := by
 have no : ∀ (c d : IntKind) (m l : Int), a = .int c m -> b = .int d l -> c ≠ d -> op ≠ .shl -> op ≠ .shr -> Z1 P op t x y a b = none := by
  rintro c d m l rfl rfl h h1 h2
  cases op <;> first | exact absurd rfl h1 | exact absurd rfl h2 | simp [Z1, h]
 have yes : ∀ (c : IntKind) (m l : Int), a = .int c m -> b = .int c l -> op ≠ .shl -> op ≠ .shr -> Z1 P op t x y a b = Qds op c m l := by
  rintro c m l rfl rfl h1 h2
  cases op <;> first | exact absurd rfl h1 | exact absurd rfl h2 | simp [Z1]
 cases op <;> simp only [cBin]
 case add => exact Qa5 a b _ _ (fun c m l h1 h2 => by rw [yes c m l h1 h2 (by simp) (by simp), Q74]; rfl) (fun c d m l h1 h2 h => no c d m l h1 h2 h (by simp) (by simp))
 case sub => exact Qa5 a b _ _ (fun c m l h1 h2 => by rw [yes c m l h1 h2 (by simp) (by simp), Q6k]; rfl) (fun c d m l h1 h2 h => no c d m l h1 h2 h (by simp) (by simp))
 case eql => exact Qa5 a b _ _ (fun c m l h1 h2 => by rw [yes c m l h1 h2 (by simp) (by simp), Q5m]; rfl) (fun c d m l h1 h2 h => no c d m l h1 h2 h (by simp) (by simp))
 case neq => exact Qa5 a b _ _ (fun c m l h1 h2 => by rw [yes c m l h1 h2 (by simp) (by simp), Q5m]; simp only [Qds, bne]; cases (m == l) <;> rfl) (fun c d m l h1 h2 h => no c d m l h1 h2 h (by simp) (by simp))
 case lss => exact Qa5 a b _ _ (fun c m l h1 h2 => by rw [yes c m l h1 h2 (by simp) (by simp), Q3p]; rfl) (fun c d m l h1 h2 h => no c d m l h1 h2 h (by simp) (by simp))
 case leq => exact Qa5 a b _ _ (fun c m l h1 h2 => by rw [yes c m l h1 h2 (by simp) (by simp), Q2p]; rfl) (fun c d m l h1 h2 h => no c d m l h1 h2 h (by simp) (by simp))
 case gtr => exact Qa5 a b _ _ (fun c m l h1 h2 => by rw [yes c m l h1 h2 (by simp) (by simp), Q3p]; rfl) (fun c d m l h1 h2 h => no c d m l h1 h2 h (by simp) (by simp))
 case geq => exact Qa5 a b _ _ (fun c m l h1 h2 => by rw [yes c m l h1 h2 (by simp) (by simp), Q2p]; rfl) (fun c d m l h1 h2 h => no c d m l h1 h2 h (by simp) (by simp))
theorem Q0d (dst : Option Nat) (op : BinOp) (t u : TypeId) (x y : Operand) (cc : FC) (nm : Nat) (k : KT) (T : TM) (F : FH) : (Qx9 P n dst op t x y).f cc nm k T F = (Kz P pol n dst (.binOp op t x y u)).f cc nm k T F := by
 simp only [Qx9, Q6s]
 exact Qi0 (x := Z1 P op t x y ((cR n x).f T) ((cR n y).f T)) rfl (fun _ => rfl)
theorem Qvr (dst : Option Nat) (t : Operand) (i : Nat) (cc : FC) (nm : Nat) (k : KT) (T : TM) (F : FH) : (Qtz n dst t i).f cc nm k T F = (Kz P pol n dst (.extract t i)).f cc nm k T F := by
 refine Qi0 (x := tupO ((cR n t).f T) i) ?_ (fun _ => rfl)
 simp only [evX, Qna, tupO, Q6c, Qnw]
 cases (cR n t).f T with
 | tuple vs => simp only [Qie]
 | _ => rfl
theorem Q10 (chk : Bool) (dst : Option Nat) (t : TypeId) (cc : FC) (nm : Nat) (k : KT) (T : TM) (F : FH) (hf : chk = false -> F.tr.get nm = none) :
 (Qwm P n chk dst t).f cc nm k T F = (Kz P pol n dst (.alloc t)).f cc nm k T F := by
 simp only [Qwm, Kz, evX, Qwg]
 cases zeroCells P t with
 | none => rfl
 | some z =>
   simp only [Zlc, new, newK, Ks]
   cases chk with
   | false =>
     have := hf rfl
     simp only [this]
     rfl
   | true =>
     cases h : F.tr.get nm with
     | none => rfl
     | some o => rfl
theorem Qtn (t : TypeId) (xs : List V) (o : Nat) : (Qvd P t).f xs o = Q0 P t xs o := by
 simp only [Qvd, Q0]
 cases P.underlying t with
 | none => rfl
 | some dd =>
   cases sz P t with
   | none => rfl
   | some m =>
     simp only
     cases Qlf dd with
     | false => simp only [cond_false, Qie, Zkz, if_false]
     | true =>
       simp only [cond_true, if_true]
       by_cases h : o + m <= xs.length
       . rw [if_pos h, Zng h]; rfl
       . have : Nat.ble (o + m) xs.length = false := by
          rw [Znd]; intro e; exact h (Zmy e)
         rw [if_neg h, this]; rfl
theorem Q2u (dst : Option Nat) (t : TypeId) (a : Operand) (cc : FC) (nm : Nat) (k : KT) (T : TM) (F : FH) : (Q38 P n dst t a).f cc nm k T F = (Kz P pol n dst (.load t a)).f cc nm k T F := by
 simp only [Q38, loadK, Qtf, Qjj, Kz, evX, Q4v, Qll (P := P) (o := .load t a) (by simp), Qtn]
 cases (cR n a).f T with
 | ptr f s o =>
   simp only
   cases Ks F f s with
   | none => rfl
   | some q =>
     cases q with
     | cells xs =>
       simp only
       cases Q0 P t xs o <;> rfl
     | _ => rfl
 | iptr cs o => simp only; cases Q0 P t cs o <;> rfl
 | rptr cs o => simp only; cases Q0 P t cs o <;> rfl
 | _ => rfl
theorem Qeg {α : Type} (x y : α) (b : Bool) : Bool.rec (motive := fun _ => α) x y b = if b then y else x := by cases b <;> rfl
theorem Q1e {R : Type} (v : V) (k1 : R) (kc : List V -> R) (e : R) : Q4a v k1 kc e = match v with
 | .agg cs => if cs.all V.scalar then kc cs else e
 | .bad | .tuple _ => e
 | _ => k1 := by
 cases v with
 | agg cs => exact Qeg _ _ _
 | _ => rfl
theorem Q1l (dst : Option Nat) (t : TypeId) (a x : Operand) (cc : FC) (nm : Nat) (k : KT) (T : TM) (F : FH) : (Qxe P n dst t a x).f cc nm k T F = (Kz P pol n dst (.store t a x)).f cc nm k T F := by
 simp only [Qxe, Kz, evX, Qwa, Qll (P := P) (o := .store t a x) (by simp)]
 cases sz P t with
 | none =>
   simp only
   cases (cR n a).f T with
   | ptr f s o => cases ((cR n x).f T).cells <;> rfl
   | _ => rfl
 | some m =>
   simp only [Q48, Qtf]
   cases (cR n a).f T with
   | ptr f s o =>
     simp only [Q1e]
     have one : ∀ v : V, v.cells = some [v] -> (Qmk (Ks F f s) (fun xs => Bool.rec (motive := fun _ => FO) .no (Option.rec (motive := fun _ => FO) .no (fun _ => k ((cP n dst).f T .bad) (wrF F (some (f, s, .cells (setV xs o v))))) (Qyb xs o)) (Nat.beq m (nat_lit 1))) .no) =
      Qmb pol (match V.ptr f s o, v.cells, some m with
       | .ptr f s o, some cs, some n => (match Ks F f s with
         | some (.cells xs) => if cs.length = n /\ o + n <= xs.length then some (.val .bad (some (f, s, .cells (splice xs o cs)))) else none
         | _ => none)
       | _, _, _ => none) none cc (fun v F => k ((cP n dst).f T v) F) T F := by
      intro v hv
      simp only [hv, Qjj]
      cases Ks F f s with
      | none => rfl
      | some q =>
        cases q with
        | cells xs =>
          simp only [Qeg, Qie, Qzw]
          by_cases h : m = 1
          . subst h
            by_cases h2 : o < xs.length
            . rw [Zkv h2, if_pos (show Nat.beq 1 1 = true from rfl), if_pos ⟨rfl, h2⟩, Qwf _ _ _ h2]; rfl
            . rw [Zky (by omega), if_pos (show Nat.beq 1 1 = true from rfl), if_neg (fun e => h2 e.2)]; rfl
          . have : Nat.beq m 1 = false := by rw [Znd]; intro e; exact h (Znh e)
            show (if Nat.beq m 1 = true then _ else FO.no) = _
            rw [this, if_neg (by simp), if_neg (fun e => h (by simpa using e.1.symm))]; rfl
        | _ => rfl
     cases (cR n x).f T with
     | bad => rfl
     | tuple l => rfl
     | agg cs =>
       simp only [V.cells]
       by_cases hs : cs.all V.scalar
       . simp only [hs, if_true, Qjj]
         cases Ks F f s with
         | none => rfl
         | some q =>
           cases q with
           | cells xs =>
             simp only [Qeg]
             by_cases h : cs.length = m
             . have e : Nat.beq cs.length m = true := by rw [h]; exact Nat.beq_refl m
               by_cases h2 : o + m <= xs.length
               . have e2 : Nat.ble (Nat.add o m) xs.length = true := Zng h2
                 rw [e, e2, if_pos rfl, if_pos rfl, if_pos ⟨h, h2⟩]; rfl
               . have e2 : Nat.ble (Nat.add o m) xs.length = false := by rw [Znd]; intro q; exact h2 (Zmy q)
                 rw [e, e2, if_pos rfl, if_neg (by simp), if_neg (fun q => h2 q.2)]; rfl
             . have e : Nat.beq cs.length m = false := by rw [Znd]; intro q; exact h (Znh q)
               rw [e, if_neg (by simp), if_neg (fun q => h q.1)]; rfl
           | _ => rfl
       . simp only [hs, if_false, Zkz]; rfl
     | _ => exact one _ rfl
   | _ => rfl
theorem Qpg (dst : Option Nat) (t : TypeId) (x : Operand) (i : Nat) (cc : FC) (nm : Nat) (k : KT) (T : TM) (F : FH) : (Qia P n dst t x i).f cc nm k T F = (Kz P pol n dst (.fieldAddr t x i)).f cc nm k T F := by
 simp only [Qia, Kz, evX, Qho, Qll (P := P) (o := .fieldAddr t x i) (by simp)]
 cases P.underlying t with
 | none => rfl
 | some dd =>
   cases dd with
   | struct fs =>
     simp only
     cases fs[i]? with
     | none => rfl
     | some f =>
       simp only
       cases sz P f.type with
       | none => rfl
       | some m =>
         simp only
         by_cases h : m = 0
         . subst h; rfl
         . have e : Nat.beq m 0 = false := by rw [Znd]; intro q; exact h (Znh q)
           rw [e, if_neg h]
           simp only [cond_false, offV, Qtf]
           cases (cR n x).f T <;> rfl
   | _ => rfl
theorem Q5s (t : TypeId) (xs : List V) (o : Nat) : (Q5f P t).f xs o = Qbl P t xs o := by
 simp only [Q5f, Qbl]
 cases P.underlying t with
 | none => rfl
 | some dd =>
   cases sz P t with
   | none => rfl
   | some m =>
     simp only
     cases Qlf dd with
     | false => simp only [cond_false, Qie, Zkz, if_false]
     | true => rfl
theorem Q05 (dst : Option Nat) (t : TypeId) (x : Operand) (i : Nat) (cc : FC) (nm : Nat) (k : KT) (T : TM) (F : FH) : (Qxi P n dst t x i).f cc nm k T F = (Kz P pol n dst (.field t x i)).f cc nm k T F := by
 simp only [Qxi, Kz, evX, Qx7, Qll (P := P) (o := .field t x i) (by simp)]
 cases P.underlying t with
 | none => rfl
 | some dd =>
   cases dd with
   | struct fs =>
     simp only
     cases hf : fs[i]? with
     | none =>
       simp only
       cases (cR n x).f T <;> first | rfl | (simp only [hf]; rfl)
     | some f =>
       simp only [aggO, Q8h, Q5s]
       cases (cR n x).f T with
       | agg cs =>
         simp only [hf]
         cases Qbl P f.type cs f.offset <;> rfl
       | _ => rfl
   | _ => rfl
end
end Go.AM.BM
end
section
namespace Go.AM.BM
section
variable {P : Program} {pol : Pol} {n : Nat}
theorem Q2l {R : Type} (v : V) (nl : R) (ki : List V -> Nat -> R) (kg : List V -> Nat -> Nat -> R) (km : Nat -> Nat -> Nat -> Nat -> Nat -> R) (e : R) : vSl v nl ki kg km e = match v with
 | .nS => nl
 | .iS cs m _ => ki cs m
 | .gS _ _ cs m q => kg cs m q
 | .mS f s o m _ q => km f s o m q
 | _ => e := by cases v <;> rfl
theorem Qgm (a b : Nat) : Nat.beq a b = decide (a = b) := by
 cases h : Nat.beq a b with
 | true => exact (Znv (Znh h)).symm
 | false => exact (Znw (Nat.ne_of_beq_eq_false h)).symm
theorem Qrm (a b : Nat) : Nat.ble a b = decide (a <= b) := by
 cases h : Nat.ble a b with
 | true => exact (Znv (Zmy h)).symm
 | false =>
   symm; apply Znw
   intro e
   rw [Zng e] at h; cases h
theorem Q8c {t e : TypeId} {m : Nat} (hu : P.underlying t = some (.slice e)) (hs : sz P e = some m) (x i : V) : atSl m x i = Q9 P t x i := by
 simp only [atSl, Qrg]
 cases i with
 | int k i =>
   simp only [Q9, hu, hs]
   cases i with
   | negSucc i =>
     have : ¬ (0 <= Int.negSucc i) := by omega
     cases x <;> simp only [this, false_and, if_false]
   | ofNat i =>
     have h0 : (0 : Int) <= (Int.ofNat i) := by simp
     have ht : (Int.ofNat i).toNat = i := rfl
     have hl : ∀ n : Nat, (Int.ofNat i < (n : Int)) ↔ Nat.succ i <= n := fun n => by simp; omega
     simp only [Q2l]
     cases x with
     | iS cs len full =>
       simp only [Qeg, Qgm, Qrm, decide_eq_true_eq, h0, true_and, hl, ht]
       by_cases a : Nat.succ i <= len
       . by_cases b : cs.length = len * m
         . by_cases c : 1 <= m
           . simp [a, b, c, Nat.pos_of_ne_zero (by omega : m ≠ 0)]
           . have : ¬ 0 < m := by omega
             simp [a, b, c, this]
         . simp [a, b]
       . simp [a]
     | gS f s cs len e' =>
       simp only [Qeg, Qgm, Qrm, decide_eq_true_eq, h0, true_and, hl, ht]
       by_cases a : Nat.succ i <= len
       . by_cases b : e' = m
         . simp only [a, b, if_true, and_self]
           cases Qk cs <;> rfl
         . simp [a, b]
       . simp [a]
     | mS f s o len cap e' =>
       simp only [Qeg, Qgm, Qrm, decide_eq_true_eq, h0, true_and, hl, ht]
       by_cases a : Nat.succ i <= len
       . by_cases b : e' = m
         . simp [a, b]
         . simp [a, b]
       . simp [a]
     | _ => (first | rfl | simp)
 | _ => (first | rfl | simp [Q9])
theorem Qn7 (dst : Option Nat) (t : TypeId) (x i : Operand) (cc : FC) (nm : Nat) (k : KT) (T : TM) (F : FH) : (Qh8 P n dst t x i).f cc nm k T F = (Kz P pol n dst (.indexAddr t x i)).f cc nm k T F := by
 have gen : Qhv (Q9 P t ((cR n x).f T) ((cR n i).f T)) (fun v => k ((cP n dst).f T v) F) = (Kz P pol n dst (.indexAddr t x i)).f cc nm k T F :=
  Qi0 (x := Q9 P t ((cR n x).f T) ((cR n i).f T)) rfl (fun _ => rfl)
 rw [<- gen]
 simp only [Qh8]
 cases hu : P.underlying t with
 | none => rfl
 | some dd =>
   cases dd with
   | slice e =>
     simp only
     cases hs : sz P e with
     | none =>
       have : Q9 P t ((cR n x).f T) ((cR n i).f T) = none := by
        unfold Q9
        split
        . simp only [hu, hs]
        . rfl
       rw [this]; rfl
     | some m =>
       simp only
       rw [Q8c hu hs]
   | _ => rfl
theorem Q2v (dst : Option Nat) (s t : TypeId) (x : Operand) (cc : FC) (nm : Nat) (k : KT) (T : TM) (F : FH) : (Q33 P pol n dst s t x).f cc nm k T F = (Kz P pol n dst (.convert s t x)).f cc nm k T F := by
 unfold Q33
 split
 . rename_i q a hq ha
   simp only [Qrg]
   split
   . rename_i b m hx
     rw [Q52]
     simp only [Kz, evX, Qi6, convertV, hq, ha, hx]
     rfl
   . rfl
 . rfl
theorem Q66 {t : TypeId} (h : isSl P t = true) : ∃ e, P.underlying t = some (.slice e) := by
 unfold isSl at h
 split at h
 . rename_i e he; exact ⟨e, he⟩
 . cases h
theorem Q8b (dst : Option Nat) (c : Go.Call) (cc : FC) (nm : Nat) (k : KT) (T : TM) (F : FH) : Sub .no ((cLen P pol n dst c).f cc nm k T F) ((Kz P pol n dst (.call c)).f cc nm k T F) := by
 unfold cLen
 split
 . rename_i x t hc ha ht
   cases h : isSl P t with
   | false => exact .inr rfl
   | true =>
     simp only [cond_true]
     obtain ⟨e, he⟩ := Q66 h
     have h0 : c.argTypes[0]? = some t := by rw [<- Zl9, ht]; rfl
     simp only [lenO, Q2l, Kz, evX, Qzv, hc, ha, Zlh, List.map_nil, builtinV, h0, Ka, he]
     cases (cR n x).f T with
     | nS => exact .inr rfl
     | iS cs m f => exact .inr rfl
     | gS f s cs m q => exact .inr rfl
     | mS f s o m cap q => exact .inr rfl
     | _ => exact .inl rfl
 . exact .inr rfl
theorem Q37 (dst : Option Nat) (c : Go.Call) (cc : FC) (nm : Nat) (k : KT) (T : TM) (F : FH) : Sub .no ((Q4i P pol n dst c).f cc nm k T F) ((Kz P pol n dst (.call c)).f cc nm k T F) := by
 unfold Q4i
 split
 . rename_i f hc
   refine .inr ?_
   have hf : (cR n (.func f)).f T = .func (.func f) [] [] := rfl
   simp only [Kz, evX, Qzv, hc, hf, Qmb, Zmm, Zma, Qg3]
   cases hps : pol.prims f with
   | some g => simp only [Qp7, Qg3, hps]
   | none =>
   simp only
   cases hp : pol.prim f with
   | none =>
     simp only
     cases ha : pol.fixA f with
     | some i => simp only [Qp7, Qg3, hps, hp, ha]
     | none =>
       cases hx : pol.fix f with
       | false => simp only [Qp7, Qi4, fixF, wrF]
       | true => simp only [Qp7, Qg3, hps, hp, ha, hx]
   | some g =>
     simp only [Qp7]
     generalize (List.map (fun x => (cR n x).f T) c.args.toList) = args
     cases g 0 (some F.next) (Ks F) args with
     | none => rfl
     | some x => rfl
 . exact .inr rfl
 . exact Q8b dst c cc nm k T F
theorem cOp_ok (chk : Bool) (dst : Option Nat) (o : Op) (cc : FC) (nm : Nat) (k : KT) (T : TM) (F : FH) (hf : chk = false -> F.tr.get nm = none) :
 Sub .no ((cOp P pol n chk dst o).f cc nm k T F) ((Kz P pol n dst o).f cc nm k T F) := by
 unfold cOp
 split
 . exact .inr (Q5j dst _ cc nm k T F)
 . exact .inr (Q0p dst _ cc nm k T F)
 . exact .inr (Q3y dst _ _ _ cc nm k T F)
 . exact .inr (Q10 chk dst _ cc nm k T F hf)
 . exact .inr (Q2u dst _ _ cc nm k T F)
 . exact .inr (Q1l dst _ _ _ cc nm k T F)
 . exact .inr (Q8q dst _ cc nm k T F)
 . exact .inr (Q0d dst _ _ _ _ _ cc nm k T F)
 . exact .inr (Q3g dst _ _ _ cc nm k T F)
 . exact .inr (Qpg dst _ _ _ cc nm k T F)
 . exact .inr (Q05 dst _ _ _ cc nm k T F)
 . exact .inr (Qvr dst _ _ cc nm k T F)
 . exact .inr (Qn7 dst _ _ _ cc nm k T F)
 . exact .inr (Q2v dst _ _ _ cc nm k T F)
 . exact Q37 dst _ cc nm k T F
 . exact .inr rfl
/-! ### An operation, and the machine's -/
def Qg6 (Kd : List V -> Heap -> Out) (x : Option (Ex × List V × Heap)) : Out := match x with
 | some (.normal, t, H) => Kd t H
 | x => x
theorem Q8g {x : FR} {o : Option (Rt × Heap)} (h : RR x o) (b : Bool) : RR (fixF b x) (Qto b o) := by
 cases b with
 | false => exact h
 | true =>
   cases x with
   | no => trivial
   | ret v F =>
     obtain ⟨H, rfl, hF⟩ := h
     simp only [fixF, Qto, hF.get]
     cases Qug (Qb H) v with
     | none => trivial
     | some y => exact ⟨_, rfl, hF.wr y.2⟩
   | pan v F => obtain ⟨H, rfl, hF⟩ := h; exact ⟨H, rfl, hF⟩
theorem Q3r {cc : FC} {C : Call} (hc : RC cc C) (f : FuncId) (args : List V) {F : FH} {H : Heap} (h : RH F H) : RR (Qg3 pol cc f args F) (callOp pol C (Q8 H) f args H) := by
 unfold Qg3 callOp
 cases pol.prims f with
 | some g =>
   simp only
   rw [h.get, h.next]
   cases g F.next (Qb H) args with
   | none => trivial
   | some x => exact ⟨_, rfl, RH.wrL _ h⟩
 | none =>
 simp only
 cases pol.prim f with
 | none =>
   simp only [h.get]
   cases Qi4 (Qb H) (pol.fixA f) args with
   | none => trivial
   | some y => exact Q8g (hc (some f) y.1 _ _ (h.wr y.2)) _
 | some g =>
   simp only
   rw [h.get, h.next]
   cases g 0 (some F.next) (Qb H) args with
   | none => trivial
   | some x => exact ⟨_, rfl, h.wr x.2⟩
theorem Q6v {cc : FC} {C : Call} (hc : RC cc C) (nm : Nat) {k : KT} {Kd : List V -> Heap -> Out} (hk : ∀ T t F H, RT n T t -> RH F H -> RO n (k T F) (Kd t H)) (o : Oper) {T : TM} {t : List V} {F : FH} {H : Heap} (hT : RT n T t) (hF : RH F H) :
 RO n ((Kz P pol n o.dst o.op).f cc nm k T F) (Qg6 Kd (Ze P pol C nm t H o)) := by
 simp only [Kz, Ze, Q5c, hT.rhoF, hF.get]
 cases evX P (Qb H) (rho t) nm o.op with
 | none =>
   simp only [Qmb]
   cases Jx P (Qb H) (rho t) nm o.op with
   | none => trivial
   | some x => exact hk _ _ _ _ (hT.put _ _) (RH.wrL _ hF)
 | some s =>
   cases s with
   | val v w => exact hk _ _ _ _ (hT.put _ _) (hF.wr w)
   | panic v => exact ⟨t, H, rfl, hT, hF⟩
   | call f args =>
     have := Q3r (pol := pol) hc f args hF
     simp only [Qmb, resK]
     revert this
     cases Qg3 pol cc f args F with
     | no => intro _; trivial
     | ret v F' => rintro ⟨H', e, h'⟩; simp only [e, Qg6]; exact hk _ _ _ _ (hT.put _ _) h'
     | pan v F' => rintro ⟨H', e, h'⟩; simp only [e, Qg6]; exact ⟨t, H', rfl, hT, h'⟩
   | round f s args =>
     have := hc none (.yield f s :: args) F H hF
     simp only [Qmb, rndK]
     revert this
     cases cc none (.yield f s :: args) F with
     | no => intro _; trivial
     | ret v F' => rintro ⟨H', e, h'⟩; simp only [e, Qg6]; exact hk _ _ _ _ (hT.put _ _) h'
     | pan v F' => intro _; trivial
theorem RO.sub {x y : FO} {o : Out} (h : Sub .no x y) (r : RO n y o) : RO n x o := by
 rcases h with rfl | rfl
 . trivial
 . exact r
theorem Qp4 {cc : FC} {C : Call} (hc : RC cc C) (chk : Bool) (nm : Nat) {k : KT} {Kd : List V -> Heap -> Out} (hk : ∀ T t F H, RT n T t -> RH F H -> RO n (k T F) (Kd t H)) (o : Oper) {T : TM} {t : List V} {F : FH} {H : Heap} (hT : RT n T t) (hF : RH F H)
 (hn : chk = false -> nm = F.next) : RO n ((cOp P pol n chk o.dst o.op).f cc nm k T F) (Qg6 Kd (Ze P pol C nm t H o)) :=
 RO.sub (cOp_ok chk o.dst o.op cc nm k T F fun h => by rw [hn h]; exact hF.fresh) (Q6v hc nm hk o hT hF)
theorem Qpt {ops : Array Oper} {T : TM} {t : List V} (hT : RT n T t) {o : Oper} {j : Nat} {want : Bool} (hg : o.guard = some (j, want)) {i : Nat} (hi : (ops[j]?).bind (·.dst) = some i) :
 Zu ops t o = match (cR n (.tmp i)).f T with
  | .bool b => some (b == want)
  | .tuple [] => some false
  | _ => none := by
 rw [hT.rho]
 simp only [Zu, hg, hi, Zlc, rho, List.getD]
 cases h : t[i]? with
 | none => rfl
 | some v =>
   cases v with
   | tuple vs => cases vs <;> rfl
   | _ => rfl
theorem Qlb {ops : Array Oper} {t : List V} {o : Oper} (hg : o.guard = none) : Zu ops t o = some true := by simp only [Zu, hg]
theorem bcond (b want : Bool) : (bif b then want else !want) = (b == want) := by cases b <;> cases want <;> rfl
theorem Qef {cc : FC} {C : Call} (hc : RC cc C) (ops : Array Oper) : ∀ (l : List Oper) {T : TM} {t : List V} {F : FH} {H : Heap}, RT n T t -> RH F H -> RO n ((Qtv P pol n ops l).f cc T F) (Zg P pol C ops l t H)
 | [], T, t, F, H, hT, hF => ⟨t, H, rfl, hT, hF⟩
 | o :: l, T, t, F, H, hT, hF => by
   have ih := fun {T : TM} {t : List V} {F : FH} {H : Heap} => Qef hc ops l (T := T) (t := t) (F := F) (H := H)
   have step : RO n ((cOp P pol n false o.dst o.op).f cc F.next ((Qtv P pol n ops l).f cc) T F) (Qg6 (Zg P pol C ops l) (Ze P pol C (Q8 H) t H o)) := by
    rw [hF.next]
    exact Qp4 hc false F.next (fun T t F H h1 h2 => ih h1 h2) o hT hF (fun _ => rfl)
   have key : (match Ze P pol C (Q8 H) t H o with
    | some (.normal, t, H) => Zg P pol C ops l t H
    | x => x) = Qg6 (Zg P pol C ops l) (Ze P pol C (Q8 H) t H o) := by
    unfold Qg6
    rfl
   show RO n ((cG P pol n ops false o).f cc F.next ((Qtv P pol n ops l).f cc) T F) _
   simp only [Zg]
   unfold cG
   cases hg : o.guard with
   | none =>
     simp only [Qlb hg]
     exact step
   | some q =>
     obtain ⟨j, want⟩ := q
     simp only
     cases hi : (ops[j]?).bind (·.dst) with
     | none => trivial
     | some i =>
       simp only [Qpt hT hg hi]
       cases hv : (cR n (.tmp i)).f T with
       | bool b =>
         simp only [bcond]
         cases hb : (b == want) with
         | true => simp only [cond_true]; exact step
         | false => simp only [cond_false]; exact ih (hT.put _ _) hF
       | tuple vs =>
         cases vs with
         | nil => exact ih (hT.put _ _) hF
         | cons v vs => trivial
       | _ => trivial
/-! ### Regions that draw their order -/
theorem fpG_eq (lim nm : Nat) {T : TM} {t : List V} {F F1 : FH} {H H1 : Heap} (hT : RT n T t) (hF : RH F H) (hF1 : RH F1 H1) (o : Oper) : fpG P lim nm (Ks F) (Ks F1) F.next (fun x => (cR n x).f T) o = Z8 P lim nm t H H1 o := by
 have e1 := hF.next
 simp only [fpG, Z8, Q5c, hT.rhoF, hF.get, hF1.get]
 split
 . rfl
 . split
   . rfl
   . cases evX P (Qb H) (rho t) nm o.op with
     | none => rfl
     | some s =>
       have hk : Qhc lim H H1 = fun f s => Nat.ble lim F.next && eqbG (Qb H f s) (Qb H1 f s) := by simp only [<- e1]; rfl
       cases s with
       | call f args => simp only [hk]
       | _ => rfl
def RFT (n : Nat) : FT -> Option (List V × Heap × List FP) -> Prop
 | .no, _ => True
 | .ok T F l, o => ∃ t H, o = some (t, H, l) /\ RT n T t /\ RH F H
theorem Qk8 {cc : FC} {C : Call} (hc : RC cc C) (ops : Array Oper) (lim : Nat) : ∀ (l : List Oper) (nm : Nat) {T : TM} {t : List V} {F : FH} {H : Heap}, RT n T t -> RH F H -> RFT n ((Qkv P pol n ops l).f cc lim nm T F) (Q7 P pol C ops lim nm l t H)
 | [], nm, T, t, F, H, hT, hF => ⟨t, H, rfl, hT, hF⟩
 | o :: l, nm, T, t, F, H, hT, hF => by
   have ih := fun {T : TM} {t : List V} {F : FH} {H : Heap} => Qk8 hc ops lim l (nm + 1) (T := T) (t := t) (F := F) (H := H)
   have cons : ∀ (fp : FP) (x : FT) (o : Option (List V × Heap × List FP)), RFT n x o -> RFT n (Qg1 fp x) (match o with
    | some (t', H', T) => some (t', H', fp :: T)
    | none => none) := by
    intro fp x o h
    cases x with
    | no => trivial
    | ok T F l => obtain ⟨t, H, rfl, h1, h2⟩ := h; exact ⟨t, H, rfl, h1, h2⟩
   have step : RFT n (oneT ((cOp P pol n true o.dst o.op).f cc nm (fun T F => .nrm T F) T F) fun T1 F1 =>
         Qg1 (fpG P lim nm (Ks F) (Ks F1) F.next (fun x => (cR n x).f T) o) ((Qkv P pol n ops l).f cc lim (Nat.succ nm) T1 F1))
    (match Ze P pol C nm t H o with
      | some (.normal, t1, H1) => (match Q7 P pol C ops lim (nm + 1) l t1 H1 with
        | some (t', H', T) => some (t', H', Z8 P lim nm t H H1 o :: T)
        | none => none)
      | _ => none) := by
    have := Qp4 (P := P) (pol := pol) hc true nm (k := fun T F => .nrm T F) (Kd := fun t H => some (.normal, t, H)) (fun T t F H h1 h2 => ⟨t, H, rfl, h1, h2⟩) o hT hF (fun e => by cases e)
    revert this
    cases (cOp P pol n true o.dst o.op).f cc nm (fun T F => .nrm T F) T F with
    | nrm T1 F1 =>
      rintro ⟨t1, H1, e, h1, h2⟩
      have e2 : Ze P pol C nm t H o = some (.normal, t1, H1) := by
       revert e
       unfold Qg6
       cases Ze P pol C nm t H o with
       | none => intro e; cases e
       | some y =>
         obtain ⟨ex, ty, Hy⟩ := y
         cases ex <;> intro e <;> cases e
         rfl
      simp only [e2, oneT]
      rw [fpG_eq lim nm hT hF h2 o]
      exact cons _ _ _ (ih h1 h2)
    | _ => intro _; trivial
   show RFT n ((match o.guard with
    | none => (⟨fun cc lim nm T F => oneT ((cOp P pol n true o.dst o.op).f cc nm (fun T F => .nrm T F) T F) fun T1 F1 =>
       Qg1 (fpG P lim nm (Ks F) (Ks F1) F.next (fun x => (cR n x).f T) o) ((Qkv P pol n ops l).f cc lim (Nat.succ nm) T1 F1)⟩ : Box (FC -> Nat -> Nat -> TM -> FH -> FT))
    | some (j, want) => (match (ops[j]?).bind (·.dst) with
      | some i => ⟨fun cc lim nm T F => match (cR n (.tmp i)).f T with
        | .bool b => bif (bif b then want else !want) then oneT ((cOp P pol n true o.dst o.op).f cc nm (fun T F => .nrm T F) T F) fun T1 F1 =>
           Qg1 (fpG P lim nm (Ks F) (Ks F1) F.next (fun x => (cR n x).f T) o) ((Qkv P pol n ops l).f cc lim (Nat.succ nm) T1 F1)
          else Qg1 .quiet ((Qkv P pol n ops l).f cc lim (Nat.succ nm) ((cP n o.dst).f T nov) F)
        | .tuple [] => Qg1 .quiet ((Qkv P pol n ops l).f cc lim (Nat.succ nm) ((cP n o.dst).f T nov) F)
        | _ => .no⟩
      | none => ⟨fun _ _ _ _ _ => .no⟩)).f cc lim nm T F) _
   simp only [Q7]
   cases hg : o.guard with
   | none =>
     simp only [Qlb hg]
     exact step
   | some q =>
     obtain ⟨j, want⟩ := q
     simp only
     cases hi : (ops[j]?).bind (·.dst) with
     | none => trivial
     | some i =>
       simp only [Qpt hT hg hi]
       cases hv : (cR n (.tmp i)).f T with
       | bool b =>
         simp only [bcond]
         cases hb : (b == want) with
         | true => simp only [cond_true]; exact step
         | false => simp only [cond_false]; exact cons _ _ _ (ih (hT.put _ _) hF)
       | tuple vs =>
         cases vs with
         | nil => exact cons _ _ _ (ih (hT.put _ _) hF)
         | cons v vs => trivial
       | _ => trivial
theorem Qyd {cc : FC} {C : Call} (hc : RC cc C) (ops : Array Oper) (draw : Bool) {T : TM} {t : List V} {F : FH} {H : Heap} (hT : RT n T t) (hF : RH F H) :
 RO n ((cReg P pol n ops draw).f cc T F) (if draw then (match Qb H 0 (Q8 H + ops.size) with
  | some _ => none
  | none => (match Q7 P pol C ops (Q8 H + ops.size) (Q8 H) ops.toList t (hset H 0 (Q8 H + ops.size) .dead) with
    | some (t', H', T) => if okT (Region.before ops) (loud T) then some (.normal, t', H') else none
    | none => none)) else Zg P pol C ops ops.toList t H) := by
 cases draw with
 | false => exact Qef hc ops ops.toList hT hF
 | true =>
   simp only [cReg, cond_true, if_true, hF.next, hF.tr]
   cases Qb H 0 (F.next + ops.size) with
   | some o => trivial
   | none =>
     simp only
     have := Qk8 (P := P) (pol := pol) hc ops (F.next + ops.size) ops.toList F.next hT (hF.set (F.next + ops.size) .dead)
     revert this
     cases (Qkv P pol n ops ops.toList).f cc (F.next + ops.size) F.next T (Qga F (F.next + ops.size) .dead) with
     | no => intro _; trivial
     | ok T' F' l =>
       rintro ⟨t', H', e, h1, h2⟩
       simp only [e, endT]
       cases okT (Region.before ops) (loud l) with
       | true => exact ⟨t', H', rfl, h1, h2⟩
       | false => trivial
end
end Go.AM.BM
end
