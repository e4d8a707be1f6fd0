/- This file holds in one the texts Bf4, Bf5; each says at its head what it proves. -/
import Derived.Test.YtafhcdagifopeaaGreatDoorT24
set_option linter.unusedSimpArgs false
set_option linter.unusedVariables false
section
namespace Go.AM.BM
def RO (n : Nat) : FO -> Out -> Prop
 | .no, _ => True
 | .nrm T F, o => ∃ t H, o = some (.normal, t, H) /\ RT n T t /\ RH F H
 | .exi i T F, o => ∃ t H, o = some (.exit i, t, H) /\ RT n T t /\ RH F H
 | .ret T F, o => ∃ t H, o = some (.ret, t, H) /\ RT n T t /\ RH F H
 | .pan v T F, o => ∃ t H, o = some (.panic v, t, H) /\ RT n T t /\ RH F H
def RR : FR -> Option (Rt × Heap) -> Prop
 | .no, _ => True
 | .ret v F, o => ∃ H, o = some (.ret v, H) /\ RH F H
 | .pan v F, o => ∃ H, o = some (.pan v, H) /\ RH F H
def RC (cc : FC) (C : Call) : Prop := ∀ f args F H, RH F H -> RR (cc f args F) (C f args H)
def Sub {α : Type} (no x y : α) : Prop := x = no \/ x = y
theorem Sub.refl {α : Type} {no : α} (x : α) : Sub no x x := .inr rfl
/-! ### The parts, by cases -/
theorem Qzz (k : V -> FO) : Qg5 none k = .no := rfl
theorem Qih : ∀ (l : List V) (i : Nat), Qv6 l i = l[i]?
 | [], i => rfl
 | x :: l, 0 => rfl
 | x :: l, i + 1 => by
   show Qv6 l i = _
   rw [Qih l i]; rfl
theorem Qzb : ∀ (l : List V) (i : Nat) (v : V), setV l i v = l.set i v
 | [], i, v => rfl
 | x :: l, 0, v => rfl
 | x :: l, i + 1, v => by
   show x :: setV l i v = _
   rw [Qzb l i v]; rfl
theorem Qvx (l : List V) (i : Nat) (v : V) (h : i < l.length) : l.set i v = splice l i [v] := by
 induction l generalizing i with
 | nil => simp at h
 | cons x l ih =>
   cases i with
   | zero => simp [splice]
   | succ i =>
     simp only [Zja] at h
     simp only [List.set_cons_succ, ih i (by omega), splice]
     simp
theorem Qi3 {R : Type} (o : Option O) (k : List V -> R) (e : R) : Qmj o k e = match o with
 | some (.cells xs) => k xs
 | _ => e := by
 cases o with
 | none => rfl
 | some o => cases o <;> rfl
theorem Qrf {R : Type} (v : V) (kp : Nat -> Nat -> Nat -> R) (ki kr : List V -> Nat -> R) (e : R) : vPtr v kp ki kr e = match v with
 | .ptr f s o => kp f s o
 | .iptr cs o => ki cs o
 | .rptr cs o => kr cs o
 | _ => e := by cases v <;> rfl
theorem Qsj {R : Type} (v : V) (k : IntKind -> Int -> R) (e : R) : vInt v k e = match v with
 | .int a m => k a m
 | _ => e := by cases v <;> rfl
theorem Q7i {R : Type} (v : V) (k : List V -> R) (e : R) : vAgg v k e = match v with
 | .agg cs => k cs
 | _ => e := by cases v <;> rfl
theorem Q54 {R : Type} (v : V) (k : List V -> R) (e : R) : vTup v k e = match v with
 | .tuple cs => k cs
 | _ => e := by cases v <;> rfl
theorem Qtf {R : Type} (v : V) (a b e : R) : vBool v a b e = match v with
 | .bool t => if t then a else b
 | _ => e := by
 cases v with
 | bool t => cases t <;> rfl
 | _ => rfl
theorem Q5d (a b : IntKind) : Nat.beq (Qy9 a) (Qy9 b) = decide (a = b) := by
 cases a <;> cases b <;> rfl
theorem Qfg {R : Type} (m l : Int) (k : Nat -> Nat -> R) (e : R) (x : Int -> Int -> R) (h : ∀ a b : Nat, m = a -> l = b -> k a b = x m l) (he : e = x m l) : Qpt m l k e = x m l := by
 cases m with
 | ofNat a => cases l with
   | ofNat b => exact h a b rfl rfl
   | negSucc b => exact he
 | negSucc a => exact he
theorem Qng (k : IntKind) (m : Nat) : Que k m = k.wrap (m : Int) := by
 have hu : ∀ (n : Nat), (Int.ofNat (Nat.mod m n)) = (m : Int) % (n : Int) := fun n => (Int.natCast_emod m n)
 cases k with
 | i64 =>
   show Bool.rec (motive := fun _ => Int) (IntKind.i64.wrap (Int.ofNat m)) (Int.ofNat m) (Nat.ble m (nat_lit 9223372036854775807)) = _
   cases h : Nat.ble m (nat_lit 9223372036854775807) with
   | false => rfl
   | true =>
     have h1 : m <= 9223372036854775807 := Zkv h
     show (m : Int) = _
     have e : (m : Int) % (2 ^ 64 : Int) = m := by omega
     simp only [IntKind.wrap, IntKind.bits, IntKind.signed, Zks, e]
     rw [if_neg]
     simp only [decide_eq_true_eq]
     omega
 | u8 => exact hu 256
 | u16 => exact hu 65536
 | u32 => exact hu 4294967296
 | u64 => exact hu 18446744073709551616
 | i8 => rfl
 | i16 => rfl
 | i32 => rfl
theorem Q6f (k : IntKind) (m l : Int) : addI k m l = k.wrap (m + l) := by
 refine Qfg m l _ _ (fun m l => k.wrap (m + l)) ?_ rfl
 rintro a b rfl rfl
 rw [Qng]; rfl
theorem Q8j (k : IntKind) (m l : Int) : subI k m l = k.wrap (m - l) := by
 refine Qfg m l _ _ (fun m l => k.wrap (m - l)) ?_ rfl
 rintro a b rfl rfl
 cases h : Nat.ble b a with
 | false => rfl
 | true =>
   have := Zkv h
   show Que k (a - b) = _
   rw [Qng]
   congr 1
   omega
theorem Q20 (m l : Int) : ltI m l = decide (m < l) := by
 refine Qfg m l _ _ (fun m l => decide (m < l)) ?_ rfl
 rintro a b rfl rfl
 cases h : Nat.ble (Nat.succ a) b with
 | true => have := Zkv h; symm; exact Zlq (by omega)
 | false =>
   symm
   apply Zlr
   intro e
   have : Nat.ble (Nat.succ a) b = true := Zlc (by omega)
   rw [this] at h; cases h
theorem Q3a (m l : Int) : leI m l = decide (m <= l) := by
 refine Qfg m l _ _ (fun m l => decide (m <= l)) ?_ rfl
 rintro a b rfl rfl
 cases h : Nat.ble a b with
 | true => have := Zkv h; symm; exact Zlq (by omega)
 | false =>
   symm
   apply Zlr
   intro e
   have : Nat.ble a b = true := Zlc (by omega)
   rw [this] at h; cases h
theorem Q4q (m l : Int) : eqI m l = (m == l) := by
 have : (m == l) = decide (m = l) := by by_cases h : m = l <;> simp [h]
 rw [this]
 refine Qfg m l _ _ (fun m l => decide (m = l)) ?_ rfl
 rintro a b rfl rfl
 cases h : Nat.beq a b with
 | true => have := Zld h; symm; exact Zlq (by omega)
 | false =>
   have := Nat.ne_of_beq_eq_false h
   symm
   exact Zlr (by omega)
theorem Q3r (k : IntKind) (m : Int) : convI k m = k.wrap m := by
 cases m with
 | ofNat a => exact Qng k a
 | negSucc a => rfl
section
variable {P : Program} {pol : Pol} {n : Nat}
theorem Qh3 {o : Op} {dst : Option Nat} {cc : FC} {nm : Nat} {k : KT} {T : TM} {F : FH} {x : Option V} (h : evX P (Kj F) (fun x => (cR n x).f T) nm o = Qm8 x)
 (hm : x = none -> Jq P (Kj F) (fun x => (cR n x).f T) nm o = none) : Qg5 x (fun v => k ((cP n dst).f T v) F) = (Kr P pol n dst o).f cc nm k T F := by
 simp only [Kr, h, Qm8]
 cases x with
 | none => simp only [Zkc, Qls, hm rfl, Qzz]
 | some v => rfl
theorem Qk7 {o : Op} {g : Get} {r : Operand -> V} {nm : Nat} (h : ∀ c, o ≠ .call c) (h2 : ∀ t x a b c, o ≠ .slice t x a b c := by simp) : Jq P g r nm o = none := by
 unfold Jq
 split
 . exact absurd rfl (h2 _ _ _ _ _)
 . rename_i c; exact absurd rfl (h c)
 . rfl
theorem Q2y (dst : Option Nat) (x : Operand) (cc : FC) (nm : Nat) (k : KT) (T : TM) (F : FH) : (Q3i n dst x).f cc nm k T F = (Kr P pol n dst (.move x)).f cc nm k T F := rfl
theorem Qzs (dst : Option Nat) (x : Operand) (cc : FC) (nm : Nat) (k : KT) (T : TM) (F : FH) : (Q3i n dst x).f cc nm k T F = (Kr P pol n dst (.assign x)).f cc nm k T F := rfl
theorem Q1x (dst : Option Nat) (c a b : Operand) (cc : FC) (nm : Nat) (k : KT) (T : TM) (F : FH) : (Q5c n dst c a b).f cc nm k T F = (Kr P pol n dst (.pick c a b)).f cc nm k T F := by
 simp only [Q5c, Qpo, Qtf, Kr, evX, Q3b]
 cases (cR n c).f T with
 | bool t => cases t <;> rfl
 | _ => rfl
theorem Q7e (dst : Option Nat) (x : Operand) (cc : FC) (nm : Nat) (k : KT) (T : TM) (F : FH) : (cNil n dst x).f cc nm k T F = (Kr P pol n dst (.nilCheck x)).f cc nm k T F :=
 Qh3 (x := ncV ((cR n x).f T)) rfl (fun _ => rfl)
theorem Q4s (dst : Option Nat) (op : UnOp) (t : TypeId) (x : Operand) (cc : FC) (nm : Nat) (k : KT) (T : TM) (F : FH) : (cUnOp n dst op x).f cc nm k T F = (Kr P pol n dst (.unOp op t x)).f cc nm k T F :=
 Qh3 (x := unV op ((cR n x).f T)) rfl (fun _ => rfl)
theorem Qar (x y : V) (k : IntKind -> Int -> Int -> Option V) (e : Option V) (h : ∀ a m l, x = .int a m -> y = .int a l -> k a m l = e) (h2 : ∀ a b m l, x = .int a m -> y = .int b l -> a ≠ b -> e = none) : Qgy x y k e = e := by
 simp only [Qgy, Qsj]
 cases x with
 | int a m =>
   cases y with
   | int b l =>
     simp only [Q5d]
     by_cases c : a = b
     . subst c
       simp only [decide_true]
       exact h a m l rfl rfl
     . simp only [c, decide_false]
       exact (h2 a b m l rfl rfl c).symm
   | _ => rfl
 | _ => rfl
theorem Q8r (op : BinOp) (t : TypeId) (x y : Operand) (a b : V) : (cBin P op t x y).f a b = Zz P op t x y a b := by
 have no : ∀ (c d : IntKind) (m l : Int), a = .int c m -> b = .int d l -> c ≠ d -> op ≠ .shl -> op ≠ .shr -> Zz P op t x y a b = none := by
  rintro c d m l rfl rfl h h1 h2
  cases op <;> first | exact absurd rfl h1 | exact absurd rfl h2 | simp [Zz, h]
 have yes : ∀ (c : IntKind) (m l : Int), a = .int c m -> b = .int c l -> op ≠ .shl -> op ≠ .shr -> Zz P op t x y a b = Qcz op c m l := by
  rintro c m l rfl rfl h1 h2
  cases op <;> first | exact absurd rfl h1 | exact absurd rfl h2 | simp [Zz]
 cases op <;> simp only [cBin]
 case add => exact Qar a b _ _ (fun c m l h1 h2 => by rw [yes c m l h1 h2 (by simp) (by simp), Q6f]; rfl) (fun c d m l h1 h2 h => no c d m l h1 h2 h (by simp) (by simp))
 case sub => exact Qar a b _ _ (fun c m l h1 h2 => by rw [yes c m l h1 h2 (by simp) (by simp), Q8j]; rfl) (fun c d m l h1 h2 h => no c d m l h1 h2 h (by simp) (by simp))
 case eql => exact Qar a b _ _ (fun c m l h1 h2 => by rw [yes c m l h1 h2 (by simp) (by simp), Q4q]; rfl) (fun c d m l h1 h2 h => no c d m l h1 h2 h (by simp) (by simp))
 case neq => exact Qar a b _ _ (fun c m l h1 h2 => by rw [yes c m l h1 h2 (by simp) (by simp), Q4q]; simp only [Qcz, bne]; cases (m == l) <;> rfl) (fun c d m l h1 h2 h => no c d m l h1 h2 h (by simp) (by simp))
 case lss => exact Qar a b _ _ (fun c m l h1 h2 => by rw [yes c m l h1 h2 (by simp) (by simp), Q20]; rfl) (fun c d m l h1 h2 h => no c d m l h1 h2 h (by simp) (by simp))
 case leq => exact Qar a b _ _ (fun c m l h1 h2 => by rw [yes c m l h1 h2 (by simp) (by simp), Q3a]; rfl) (fun c d m l h1 h2 h => no c d m l h1 h2 h (by simp) (by simp))
 case gtr => exact Qar a b _ _ (fun c m l h1 h2 => by rw [yes c m l h1 h2 (by simp) (by simp), Q20]; rfl) (fun c d m l h1 h2 h => no c d m l h1 h2 h (by simp) (by simp))
 case geq => exact Qar a b _ _ (fun c m l h1 h2 => by rw [yes c m l h1 h2 (by simp) (by simp), Q3a]; rfl) (fun c d m l h1 h2 h => no c d m l h1 h2 h (by simp) (by simp))
theorem Q0p (dst : Option Nat) (op : BinOp) (t u : TypeId) (x y : Operand) (cc : FC) (nm : Nat) (k : KT) (T : TM) (F : FH) : (Qxw P n dst op t x y).f cc nm k T F = (Kr P pol n dst (.binOp op t x y u)).f cc nm k T F := by
 simp only [Qxw, Q8r]
 exact Qh3 (x := Zz P op t x y ((cR n x).f T) ((cR n y).f T)) rfl (fun _ => rfl)
theorem Qto (dst : Option Nat) (t : Operand) (i : Nat) (cc : FC) (nm : Nat) (k : KT) (T : TM) (F : FH) : (Qu1 n dst t i).f cc nm k T F = (Kr P pol n dst (.extract t i)).f cc nm k T F := by
 refine Qh3 (x := tupO ((cR n t).f T) i) ?_ (fun _ => rfl)
 simp only [evX, Qmv, tupO, Q54, Qm8]
 cases (cR n t).f T with
 | tuple vs => simp only [Qih]
 | _ => rfl
theorem Qzo (chk : Bool) (dst : Option Nat) (t : TypeId) (cc : FC) (nm : Nat) (k : KT) (T : TM) (F : FH) (hf : chk = false -> F.tr.get nm = none) :
 (Qxr P n chk dst t).f cc nm k T F = (Kr P pol n dst (.alloc t)).f cc nm k T F := by
 simp only [Qxr, Kr, evX, Qw6]
 cases zeroCells P t with
 | none => rfl
 | some z =>
   simp only [Zi9, new, newK, Kj]
   cases chk with
   | false =>
     have := hf rfl
     simp only [this]
     rfl
   | true =>
     cases h : F.tr.get nm with
     | none => rfl
     | some o => rfl
theorem Qu8 (t : TypeId) (xs : List V) (o : Nat) : (Qum P t).f xs o = Q2 P t xs o := by
 simp only [Qum, Q2]
 cases P.underlying t with
 | none => rfl
 | some dd =>
   cases sz P t with
   | none => rfl
   | some m =>
     simp only
     cases Qk3 dd with
     | false => simp only [cond_false, Qih, Ziw, if_false]
     | true =>
       simp only [cond_true, if_true]
       by_cases h : o + m <= xs.length
       . rw [if_pos h, Zlc h]; rfl
       . have : Nat.ble (o + m) xs.length = false := by
          rw [Zk9]; intro e; exact h (Zkv e)
         rw [if_neg h, this]; rfl
theorem Q2l (dst : Option Nat) (t : TypeId) (a : Operand) (cc : FC) (nm : Nat) (k : KT) (T : TM) (F : FH) : (Q3j P n dst t a).f cc nm k T F = (Kr P pol n dst (.load t a)).f cc nm k T F := by
 simp only [Q3j, loadK, Qrf, Qi3, Kr, evX, Q3c, Qk7 (P := P) (o := .load t a) (by simp), Qu8]
 cases (cR n a).f T with
 | ptr f s o =>
   simp only
   cases Kj F f s with
   | none => rfl
   | some q =>
     cases q with
     | cells xs =>
       simp only
       cases Q2 P t xs o <;> rfl
     | _ => rfl
 | iptr cs o => simp only; cases Q2 P t cs o <;> rfl
 | rptr cs o => simp only; cases Q2 P t cs o <;> rfl
 | _ => rfl
theorem Qds {α : Type} (x y : α) (b : Bool) : Bool.rec (motive := fun _ => α) x y b = if b then y else x := by cases b <;> rfl
theorem Q1o {R : Type} (v : V) (k1 : R) (kc : List V -> R) (e : R) : Q29 v k1 kc e = match v with
 | .agg cs => if cs.all V.scalar then kc cs else e
 | .bad | .tuple _ => e
 | _ => k1 := by
 cases v with
 | agg cs => exact Qds _ _ _
 | _ => rfl
theorem Q1s (dst : Option Nat) (t : TypeId) (a x : Operand) (cc : FC) (nm : Nat) (k : KT) (T : TM) (F : FH) : (Qwx P n dst t a x).f cc nm k T F = (Kr P pol n dst (.store t a x)).f cc nm k T F := by
 simp only [Qwx, Kr, evX, Qxg, Qk7 (P := P) (o := .store t a x) (by simp)]
 cases sz P t with
 | none =>
   simp only
   cases (cR n a).f T with
   | ptr f s o => cases ((cR n x).f T).cells <;> rfl
   | _ => rfl
 | some m =>
   simp only [Q3p, Qrf]
   cases (cR n a).f T with
   | ptr f s o =>
     simp only [Q1o]
     have one : ∀ v : V, v.cells = some [v] -> (Qmj (Kj F f s) (fun xs => Bool.rec (motive := fun _ => FO) .no (Option.rec (motive := fun _ => FO) .no (fun _ => k ((cP n dst).f T .bad) (wrF F (some (f, s, .cells (setV xs o v))))) (Qv6 xs o)) (Nat.beq m (nat_lit 1))) .no) =
      Qls pol (match V.ptr f s o, v.cells, some m with
       | .ptr f s o, some cs, some n => (match Kj F f s with
         | some (.cells xs) => if cs.length = n /\ o + n <= xs.length then some (.val .bad (some (f, s, .cells (splice xs o cs)))) else none
         | _ => none)
       | _, _, _ => none) none cc (fun v F => k ((cP n dst).f T v) F) T F := by
      intro v hv
      simp only [hv, Qi3]
      cases Kj F f s with
      | none => rfl
      | some q =>
        cases q with
        | cells xs =>
          simp only [Qds, Qih, Qzb]
          by_cases h : m = 1
          . subst h
            by_cases h2 : o < xs.length
            . rw [Zis h2, if_pos (show Nat.beq 1 1 = true from rfl), if_pos ⟨rfl, h2⟩, Qvx _ _ _ h2]; rfl
            . rw [Ziv (by omega), if_pos (show Nat.beq 1 1 = true from rfl), if_neg (fun e => h2 e.2)]; rfl
          . have : Nat.beq m 1 = false := by rw [Zk9]; intro e; exact h (Zld e)
            show (if Nat.beq m 1 = true then _ else FO.no) = _
            rw [this, if_neg (by simp), if_neg (fun e => h (by simpa using e.1.symm))]; rfl
        | _ => rfl
     cases (cR n x).f T with
     | bad => rfl
     | tuple l => rfl
     | agg cs =>
       simp only [V.cells]
       by_cases hs : cs.all V.scalar
       . simp only [hs, if_true, Qi3]
         cases Kj F f s with
         | none => rfl
         | some q =>
           cases q with
           | cells xs =>
             simp only [Qds]
             by_cases h : cs.length = m
             . have e : Nat.beq cs.length m = true := by rw [h]; exact Nat.beq_refl m
               by_cases h2 : o + m <= xs.length
               . have e2 : Nat.ble (Nat.add o m) xs.length = true := Zlc h2
                 rw [e, e2, if_pos rfl, if_pos rfl, if_pos ⟨h, h2⟩]; rfl
               . have e2 : Nat.ble (Nat.add o m) xs.length = false := by rw [Zk9]; intro q; exact h2 (Zkv q)
                 rw [e, e2, if_pos rfl, if_neg (by simp), if_neg (fun q => h2 q.2)]; rfl
             . have e : Nat.beq cs.length m = false := by rw [Zk9]; intro q; exact h (Zld q)
               rw [e, if_neg (by simp), if_neg (fun q => h q.1)]; rfl
           | _ => rfl
       . simp only [hs, if_false, Ziw]; rfl
     | _ => exact one _ rfl
   | _ => rfl
theorem Qpa (dst : Option Nat) (t : TypeId) (x : Operand) (i : Nat) (cc : FC) (nm : Nat) (k : KT) (T : TM) (F : FH) : (Qhu P n dst t x i).f cc nm k T F = (Kr P pol n dst (.fieldAddr t x i)).f cc nm k T F := by
 simp only [Qhu, Kr, evX, Qhx, Qk7 (P := P) (o := .fieldAddr t x i) (by simp)]
 cases P.underlying t with
 | none => rfl
 | some dd =>
   cases dd with
   | struct fs =>
     simp only
     cases fs[i]? with
     | none => rfl
     | some f =>
       simp only
       cases sz P f.type with
       | none => rfl
       | some m =>
         simp only
         by_cases h : m = 0
         . subst h; rfl
         . have e : Nat.beq m 0 = false := by rw [Zk9]; intro q; exact h (Zld q)
           rw [e, if_neg h]
           simp only [cond_false, offV, Qrf]
           cases (cR n x).f T <;> rfl
   | _ => rfl
theorem Q4b (t : TypeId) (xs : List V) (o : Nat) : (Q3d P t).f xs o = Qa6 P t xs o := by
 simp only [Q3d, Qa6]
 cases P.underlying t with
 | none => rfl
 | some dd =>
   cases sz P t with
   | none => rfl
   | some m =>
     simp only
     cases Qk3 dd with
     | false => simp only [cond_false, Qih, Ziw, if_false]
     | true => rfl
theorem Q06 (dst : Option Nat) (t : TypeId) (x : Operand) (i : Nat) (cc : FC) (nm : Nat) (k : KT) (T : TM) (F : FH) : (Qv9 P n dst t x i).f cc nm k T F = (Kr P pol n dst (.field t x i)).f cc nm k T F := by
 simp only [Qv9, Kr, evX, Qvw, Qk7 (P := P) (o := .field t x i) (by simp)]
 cases P.underlying t with
 | none => rfl
 | some dd =>
   cases dd with
   | struct fs =>
     simp only
     cases hf : fs[i]? with
     | none =>
       simp only
       cases (cR n x).f T <;> first | rfl | (simp only [hf]; rfl)
     | some f =>
       simp only [aggO, Q7i, Q4b]
       cases (cR n x).f T with
       | agg cs =>
         simp only [hf]
         cases Qa6 P f.type cs f.offset <;> rfl
       | _ => rfl
   | _ => rfl
end
end Go.AM.BM
end
section
namespace Go.AM.BM
section
variable {P : Program} {pol : Pol} {n : Nat}
theorem Q2z {R : Type} (v : V) (nl : R) (ki : List V -> Nat -> R) (kg : List V -> Nat -> Nat -> R) (km : Nat -> Nat -> Nat -> Nat -> Nat -> R) (e : R) : vSl v nl ki kg km e = match v with
 | .nS => nl
 | .iS cs m _ => ki cs m
 | .gS _ _ cs m q => kg cs m q
 | .mS f s o m _ q => km f s o m q
 | _ => e := by cases v <;> rfl
theorem Qf4 (a b : Nat) : Nat.beq a b = decide (a = b) := by
 cases h : Nat.beq a b with
 | true => exact (Zlq (Zld h)).symm
 | false => exact (Zlr (Nat.ne_of_beq_eq_false h)).symm
theorem Qre (a b : Nat) : Nat.ble a b = decide (a <= b) := by
 cases h : Nat.ble a b with
 | true => exact (Zlq (Zkv h)).symm
 | false =>
   symm; apply Zlr
   intro e
   rw [Zlc e] at h; cases h
theorem Q53 {t e : TypeId} {m : Nat} (hu : P.underlying t = some (.slice e)) (hs : sz P e = some m) (x i : V) : atSl m x i = Q8 P t x i := by
 simp only [atSl, Qsj]
 cases i with
 | int k i =>
   simp only [Q8, hu, hs]
   cases i with
   | negSucc i =>
     have : ¬ (0 <= Int.negSucc i) := by omega
     cases x <;> simp only [this, false_and, if_false]
   | ofNat i =>
     have h0 : (0 : Int) <= (Int.ofNat i) := by simp
     have ht : (Int.ofNat i).toNat = i := rfl
     have hl : ∀ n : Nat, (Int.ofNat i < (n : Int)) ↔ Nat.succ i <= n := fun n => by simp; omega
     simp only [Q2z]
     cases x with
     | iS cs len full =>
       simp only [Qds, Qf4, Qre, decide_eq_true_eq, h0, true_and, hl, ht]
       by_cases a : Nat.succ i <= len
       . by_cases b : cs.length = len * m
         . by_cases c : 1 <= m
           . simp [a, b, c, Nat.pos_of_ne_zero (by omega : m ≠ 0)]
           . have : ¬ 0 < m := by omega
             simp [a, b, c, this]
         . simp [a, b]
       . simp [a]
     | gS f s cs len e' =>
       simp only [Qds, Qf4, Qre, decide_eq_true_eq, h0, true_and, hl, ht]
       by_cases a : Nat.succ i <= len
       . by_cases b : e' = m
         . simp only [a, b, if_true, and_self]
           cases Qk cs <;> rfl
         . simp [a, b]
       . simp [a]
     | mS f s o len cap e' =>
       simp only [Qds, Qf4, Qre, decide_eq_true_eq, h0, true_and, hl, ht]
       by_cases a : Nat.succ i <= len
       . by_cases b : e' = m
         . simp [a, b]
         . simp [a, b]
       . simp [a]
     | _ => (first | rfl | simp)
 | _ => (first | rfl | simp [Q8])
theorem Qnw (dst : Option Nat) (t : TypeId) (x i : Operand) (cc : FC) (nm : Nat) (k : KT) (T : TM) (F : FH) : (Qhd P n dst t x i).f cc nm k T F = (Kr P pol n dst (.indexAddr t x i)).f cc nm k T F := by
 have gen : Qg5 (Q8 P t ((cR n x).f T) ((cR n i).f T)) (fun v => k ((cP n dst).f T v) F) = (Kr P pol n dst (.indexAddr t x i)).f cc nm k T F :=
  Qh3 (x := Q8 P t ((cR n x).f T) ((cR n i).f T)) rfl (fun _ => rfl)
 rw [<- gen]
 simp only [Qhd]
 cases hu : P.underlying t with
 | none => rfl
 | some dd =>
   cases dd with
   | slice e =>
     simp only
     cases hs : sz P e with
     | none =>
       have : Q8 P t ((cR n x).f T) ((cR n i).f T) = none := by
        unfold Q8
        split
        . simp only [hu, hs]
        . rfl
       rw [this]; rfl
     | some m =>
       simp only
       rw [Q53 hu hs]
   | _ => rfl
theorem Q18 (dst : Option Nat) (s t : TypeId) (x : Operand) (cc : FC) (nm : Nat) (k : KT) (T : TM) (F : FH) : (Q27 P pol n dst s t x).f cc nm k T F = (Kr P pol n dst (.convert s t x)).f cc nm k T F := by
 unfold Q27
 split
 . rename_i q a hq ha
   simp only [Qsj]
   split
   . rename_i b m hx
     rw [Q3r]
     simp only [Kr, evX, Qif, convertV, hq, ha, hx]
     rfl
   . rfl
 . rfl
theorem Q58 {t : TypeId} (h : isSl P t = true) : ∃ e, P.underlying t = some (.slice e) := by
 unfold isSl at h
 split at h
 . rename_i e he; exact ⟨e, he⟩
 . cases h
theorem Q5w (dst : Option Nat) (c : Go.Call) (cc : FC) (nm : Nat) (k : KT) (T : TM) (F : FH) : Sub .no ((cLen P pol n dst c).f cc nm k T F) ((Kr P pol n dst (.call c)).f cc nm k T F) := by
 unfold cLen
 split
 . rename_i x t hc ha ht
   cases h : isSl P t with
   | false => exact .inr rfl
   | true =>
     simp only [cond_true]
     obtain ⟨e, he⟩ := Q58 h
     have h0 : c.argTypes[0]? = some t := by rw [<- Zj5, ht]; rfl
     simp only [lenO, Q2z, Kr, evX, Qyo, hc, ha, Zje, List.map_nil, builtinV, h0, Y2, he]
     cases (cR n x).f T with
     | nS => exact .inr rfl
     | iS cs m f => exact .inr rfl
     | gS f s cs m q => exact .inr rfl
     | mS f s o m cap q => exact .inr rfl
     | _ => exact .inl rfl
 . exact .inr rfl
theorem Q3m (dst : Option Nat) (c : Go.Call) (cc : FC) (nm : Nat) (k : KT) (T : TM) (F : FH) : Sub .no ((Q4j P pol n dst c).f cc nm k T F) ((Kr P pol n dst (.call c)).f cc nm k T F) := by
 unfold Q4j
 split
 . rename_i f hc
   refine .inr ?_
   have hf : (cR n (.func f)).f T = .func (.func f) [] [] := rfl
   simp only [Kr, evX, Qyo, hc, hf, Qls, Zkj, Zj6, Qg0]
   cases hps : pol.prims f with
   | some g => simp only [Qp7, Qg0, hps]
   | none =>
   simp only
   cases hp : pol.prim f with
   | none =>
     simp only
     cases ha : pol.fixA f with
     | some i => simp only [Qp7, Qg0, hps, hp, ha]
     | none =>
       cases hx : pol.fix f with
       | false => simp only [Qp7, Qiv, fixF, wrF]
       | true => simp only [Qp7, Qg0, hps, hp, ha, hx]
   | some g =>
     simp only [Qp7]
     generalize (List.map (fun x => (cR n x).f T) c.args.toList) = args
     cases g 0 (some F.next) (Kj F) args with
     | none => rfl
     | some x => rfl
 . exact .inr rfl
 . exact Q5w dst c cc nm k T F
theorem cOp_ok (chk : Bool) (dst : Option Nat) (o : Op) (cc : FC) (nm : Nat) (k : KT) (T : TM) (F : FH) (hf : chk = false -> F.tr.get nm = none) :
 Sub .no ((cOp P pol n chk dst o).f cc nm k T F) ((Kr P pol n dst o).f cc nm k T F) := by
 unfold cOp
 split
 . exact .inr (Q2y dst _ cc nm k T F)
 . exact .inr (Qzs dst _ cc nm k T F)
 . exact .inr (Q1x dst _ _ _ cc nm k T F)
 . exact .inr (Qzo chk dst _ cc nm k T F hf)
 . exact .inr (Q2l dst _ _ cc nm k T F)
 . exact .inr (Q1s dst _ _ _ cc nm k T F)
 . exact .inr (Q7e dst _ cc nm k T F)
 . exact .inr (Q0p dst _ _ _ _ _ cc nm k T F)
 . exact .inr (Q4s dst _ _ _ cc nm k T F)
 . exact .inr (Qpa dst _ _ _ cc nm k T F)
 . exact .inr (Q06 dst _ _ _ cc nm k T F)
 . exact .inr (Qto dst _ _ cc nm k T F)
 . exact .inr (Qnw dst _ _ _ cc nm k T F)
 . exact .inr (Q18 dst _ _ _ cc nm k T F)
 . exact Q3m dst _ cc nm k T F
 . exact .inr rfl
/-! ### An operation, and the machine's -/
def Qgo (Kd : List V -> Heap -> Out) (x : Option (Ex × List V × Heap)) : Out := match x with
 | some (.normal, t, H) => Kd t H
 | x => x
theorem Q6z {x : FR} {o : Option (Rt × Heap)} (h : RR x o) (b : Bool) : RR (fixF b x) (Qt2 b o) := by
 cases b with
 | false => exact h
 | true =>
   cases x with
   | no => trivial
   | ret v F =>
     obtain ⟨H, rfl, hF⟩ := h
     simp only [fixF, Qt2, hF.get]
     cases Qva (Qb H) v with
     | none => trivial
     | some y => exact ⟨_, rfl, hF.wr y.2⟩
   | pan v F => obtain ⟨H, rfl, hF⟩ := h; exact ⟨H, rfl, hF⟩
theorem Q37 {cc : FC} {C : Call} (hc : RC cc C) (f : FuncId) (args : List V) {F : FH} {H : Heap} (h : RH F H) : RR (Qg0 pol cc f args F) (callOp pol C (Q9 H) f args H) := by
 unfold Qg0 callOp
 cases pol.prims f with
 | some g =>
   simp only
   rw [h.get, h.next]
   cases g F.next (Qb H) args with
   | none => trivial
   | some x => exact ⟨_, rfl, RH.wrL _ h⟩
 | none =>
 simp only
 cases pol.prim f with
 | none =>
   simp only [h.get]
   cases Qiv (Qb H) (pol.fixA f) args with
   | none => trivial
   | some y => exact Q6z (hc (some f) y.1 _ _ (h.wr y.2)) _
 | some g =>
   simp only
   rw [h.get, h.next]
   cases g 0 (some F.next) (Qb H) args with
   | none => trivial
   | some x => exact ⟨_, rfl, h.wr x.2⟩
theorem Q7h {cc : FC} {C : Call} (hc : RC cc C) (nm : Nat) {k : KT} {Kd : List V -> Heap -> Out} (hk : ∀ T t F H, RT n T t -> RH F H -> RO n (k T F) (Kd t H)) (o : Oper) {T : TM} {t : List V} {F : FH} {H : Heap} (hT : RT n T t) (hF : RH F H) :
 RO n ((Kr P pol n o.dst o.op).f cc nm k T F) (Qgo Kd (Zd P pol C nm t H o)) := by
 simp only [Kr, Zd, Q2w, hT.rhoF, hF.get]
 cases evX P (Qb H) (rho t) nm o.op with
 | none =>
   simp only [Qls]
   cases Jq P (Qb H) (rho t) nm o.op with
   | none => trivial
   | some x => exact hk _ _ _ _ (hT.put _ _) (RH.wrL _ hF)
 | some s =>
   cases s with
   | val v w => exact hk _ _ _ _ (hT.put _ _) (hF.wr w)
   | panic v => exact ⟨t, H, rfl, hT, hF⟩
   | call f args =>
     have := Q37 (pol := pol) hc f args hF
     simp only [Qls, resK]
     revert this
     cases Qg0 pol cc f args F with
     | no => intro _; trivial
     | ret v F' => rintro ⟨H', e, h'⟩; simp only [e, Qgo]; exact hk _ _ _ _ (hT.put _ _) h'
     | pan v F' => rintro ⟨H', e, h'⟩; simp only [e, Qgo]; exact ⟨t, H', rfl, hT, h'⟩
   | round f s args =>
     have := hc none (.yield f s :: args) F H hF
     simp only [Qls, rndK]
     revert this
     cases cc none (.yield f s :: args) F with
     | no => intro _; trivial
     | ret v F' => rintro ⟨H', e, h'⟩; simp only [e, Qgo]; exact hk _ _ _ _ (hT.put _ _) h'
     | pan v F' => intro _; trivial
theorem RO.sub {x y : FO} {o : Out} (h : Sub .no x y) (r : RO n y o) : RO n x o := by
 rcases h with rfl | rfl
 . trivial
 . exact r
theorem Qp8 {cc : FC} {C : Call} (hc : RC cc C) (chk : Bool) (nm : Nat) {k : KT} {Kd : List V -> Heap -> Out} (hk : ∀ T t F H, RT n T t -> RH F H -> RO n (k T F) (Kd t H)) (o : Oper) {T : TM} {t : List V} {F : FH} {H : Heap} (hT : RT n T t) (hF : RH F H)
 (hn : chk = false -> nm = F.next) : RO n ((cOp P pol n chk o.dst o.op).f cc nm k T F) (Qgo Kd (Zd P pol C nm t H o)) :=
 RO.sub (cOp_ok chk o.dst o.op cc nm k T F fun h => by rw [hn h]; exact hF.fresh) (Q7h hc nm hk o hT hF)
theorem Qp4 {ops : Array Oper} {T : TM} {t : List V} (hT : RT n T t) {o : Oper} {j : Nat} {want : Bool} (hg : o.guard = some (j, want)) {i : Nat} (hi : (ops[j]?).bind (·.dst) = some i) :
 Zs ops t o = match (cR n (.tmp i)).f T with
  | .bool b => some (b == want)
  | .tuple [] => some false
  | _ => none := by
 rw [hT.rho]
 simp only [Zs, hg, hi, Zi9, rho, List.getD]
 cases h : t[i]? with
 | none => rfl
 | some v =>
   cases v with
   | tuple vs => cases vs <;> rfl
   | _ => rfl
theorem Qjy {ops : Array Oper} {t : List V} {o : Oper} (hg : o.guard = none) : Zs ops t o = some true := by simp only [Zs, hg]
theorem bcond (b want : Bool) : (bif b then want else !want) = (b == want) := by cases b <;> cases want <;> rfl
theorem Qdl {cc : FC} {C : Call} (hc : RC cc C) (ops : Array Oper) : ∀ (l : List Oper) {T : TM} {t : List V} {F : FH} {H : Heap}, RT n T t -> RH F H -> RO n ((Qu7 P pol n ops l).f cc T F) (Zf P pol C ops l t H)
 | [], T, t, F, H, hT, hF => ⟨t, H, rfl, hT, hF⟩
 | o :: l, T, t, F, H, hT, hF => by
   have ih := fun {T : TM} {t : List V} {F : FH} {H : Heap} => Qdl hc ops l (T := T) (t := t) (F := F) (H := H)
   have step : RO n ((cOp P pol n false o.dst o.op).f cc F.next ((Qu7 P pol n ops l).f cc) T F) (Qgo (Zf P pol C ops l) (Zd P pol C (Q9 H) t H o)) := by
    rw [hF.next]
    exact Qp8 hc false F.next (fun T t F H h1 h2 => ih h1 h2) o hT hF (fun _ => rfl)
   have key : (match Zd P pol C (Q9 H) t H o with
    | some (.normal, t, H) => Zf P pol C ops l t H
    | x => x) = Qgo (Zf P pol C ops l) (Zd P pol C (Q9 H) t H o) := by
    unfold Qgo
    rfl
   show RO n ((cG P pol n ops false o).f cc F.next ((Qu7 P pol n ops l).f cc) T F) _
   simp only [Zf]
   unfold cG
   cases hg : o.guard with
   | none =>
     simp only [Qjy hg]
     exact step
   | some q =>
     obtain ⟨j, want⟩ := q
     simp only
     cases hi : (ops[j]?).bind (·.dst) with
     | none => trivial
     | some i =>
       simp only [Qp4 hT hg hi]
       cases hv : (cR n (.tmp i)).f T with
       | bool b =>
         simp only [bcond]
         cases hb : (b == want) with
         | true => simp only [cond_true]; exact step
         | false => simp only [cond_false]; exact ih (hT.put _ _) hF
       | tuple vs =>
         cases vs with
         | nil => exact ih (hT.put _ _) hF
         | cons v vs => trivial
       | _ => trivial
/-! ### Regions that draw their order -/
theorem fpG_eq (lim nm : Nat) {T : TM} {t : List V} {F F1 : FH} {H H1 : Heap} (hT : RT n T t) (hF : RH F H) (hF1 : RH F1 H1) (o : Oper) : fpG P lim nm (Kj F) (Kj F1) F.next (fun x => (cR n x).f T) o = Z4 P lim nm t H H1 o := by
 have e1 := hF.next
 simp only [fpG, Z4, Q2w, hT.rhoF, hF.get, hF1.get]
 split
 . rfl
 . split
   . rfl
   . cases evX P (Qb H) (rho t) nm o.op with
     | none => rfl
     | some s =>
       have hk : Qgr lim H H1 = fun f s => Nat.ble lim F.next && eqbG (Qb H f s) (Qb H1 f s) := by simp only [<- e1]; rfl
       cases s with
       | call f args => simp only [hk]
       | _ => rfl
def RFT (n : Nat) : FT -> Option (List V × Heap × List FP) -> Prop
 | .no, _ => True
 | .ok T F l, o => ∃ t H, o = some (t, H, l) /\ RT n T t /\ RH F H
theorem Qkt {cc : FC} {C : Call} (hc : RC cc C) (ops : Array Oper) (lim : Nat) : ∀ (l : List Oper) (nm : Nat) {T : TM} {t : List V} {F : FH} {H : Heap}, RT n T t -> RH F H -> RFT n ((Qj0 P pol n ops l).f cc lim nm T F) (Q7 P pol C ops lim nm l t H)
 | [], nm, T, t, F, H, hT, hF => ⟨t, H, rfl, hT, hF⟩
 | o :: l, nm, T, t, F, H, hT, hF => by
   have ih := fun {T : TM} {t : List V} {F : FH} {H : Heap} => Qkt hc ops lim l (nm + 1) (T := T) (t := t) (F := F) (H := H)
   have cons : ∀ (fp : FP) (x : FT) (o : Option (List V × Heap × List FP)), RFT n x o -> RFT n (Qgl fp x) (match o with
    | some (t', H', T) => some (t', H', fp :: T)
    | none => none) := by
    intro fp x o h
    cases x with
    | no => trivial
    | ok T F l => obtain ⟨t, H, rfl, h1, h2⟩ := h; exact ⟨t, H, rfl, h1, h2⟩
   have step : RFT n (oneT ((cOp P pol n true o.dst o.op).f cc nm (fun T F => .nrm T F) T F) fun T1 F1 =>
         Qgl (fpG P lim nm (Kj F) (Kj F1) F.next (fun x => (cR n x).f T) o) ((Qj0 P pol n ops l).f cc lim (Nat.succ nm) T1 F1))
    (match Zd P pol C nm t H o with
      | some (.normal, t1, H1) => (match Q7 P pol C ops lim (nm + 1) l t1 H1 with
        | some (t', H', T) => some (t', H', Z4 P lim nm t H H1 o :: T)
        | none => none)
      | _ => none) := by
    have := Qp8 (P := P) (pol := pol) hc true nm (k := fun T F => .nrm T F) (Kd := fun t H => some (.normal, t, H)) (fun T t F H h1 h2 => ⟨t, H, rfl, h1, h2⟩) o hT hF (fun e => by cases e)
    revert this
    cases (cOp P pol n true o.dst o.op).f cc nm (fun T F => .nrm T F) T F with
    | nrm T1 F1 =>
      rintro ⟨t1, H1, e, h1, h2⟩
      have e2 : Zd P pol C nm t H o = some (.normal, t1, H1) := by
       revert e
       unfold Qgo
       cases Zd P pol C nm t H o with
       | none => intro e; cases e
       | some y =>
         obtain ⟨ex, ty, Hy⟩ := y
         cases ex <;> intro e <;> cases e
         rfl
      simp only [e2, oneT]
      rw [fpG_eq lim nm hT hF h2 o]
      exact cons _ _ _ (ih h1 h2)
    | _ => intro _; trivial
   show RFT n ((match o.guard with
    | none => (⟨fun cc lim nm T F => oneT ((cOp P pol n true o.dst o.op).f cc nm (fun T F => .nrm T F) T F) fun T1 F1 =>
       Qgl (fpG P lim nm (Kj F) (Kj F1) F.next (fun x => (cR n x).f T) o) ((Qj0 P pol n ops l).f cc lim (Nat.succ nm) T1 F1)⟩ : Box (FC -> Nat -> Nat -> TM -> FH -> FT))
    | some (j, want) => (match (ops[j]?).bind (·.dst) with
      | some i => ⟨fun cc lim nm T F => match (cR n (.tmp i)).f T with
        | .bool b => bif (bif b then want else !want) then oneT ((cOp P pol n true o.dst o.op).f cc nm (fun T F => .nrm T F) T F) fun T1 F1 =>
           Qgl (fpG P lim nm (Kj F) (Kj F1) F.next (fun x => (cR n x).f T) o) ((Qj0 P pol n ops l).f cc lim (Nat.succ nm) T1 F1)
          else Qgl .quiet ((Qj0 P pol n ops l).f cc lim (Nat.succ nm) ((cP n o.dst).f T nov) F)
        | .tuple [] => Qgl .quiet ((Qj0 P pol n ops l).f cc lim (Nat.succ nm) ((cP n o.dst).f T nov) F)
        | _ => .no⟩
      | none => ⟨fun _ _ _ _ _ => .no⟩)).f cc lim nm T F) _
   simp only [Q7]
   cases hg : o.guard with
   | none =>
     simp only [Qjy hg]
     exact step
   | some q =>
     obtain ⟨j, want⟩ := q
     simp only
     cases hi : (ops[j]?).bind (·.dst) with
     | none => trivial
     | some i =>
       simp only [Qp4 hT hg hi]
       cases hv : (cR n (.tmp i)).f T with
       | bool b =>
         simp only [bcond]
         cases hb : (b == want) with
         | true => simp only [cond_true]; exact step
         | false => simp only [cond_false]; exact cons _ _ _ (ih (hT.put _ _) hF)
       | tuple vs =>
         cases vs with
         | nil => exact cons _ _ _ (ih (hT.put _ _) hF)
         | cons v vs => trivial
       | _ => trivial
theorem Qxt {cc : FC} {C : Call} (hc : RC cc C) (ops : Array Oper) (draw : Bool) {T : TM} {t : List V} {F : FH} {H : Heap} (hT : RT n T t) (hF : RH F H) :
 RO n ((cReg P pol n ops draw).f cc T F) (if draw then (match Qb H 0 (Q9 H + ops.size) with
  | some _ => none
  | none => (match Q7 P pol C ops (Q9 H + ops.size) (Q9 H) ops.toList t (hset H 0 (Q9 H + ops.size) .dead) with
    | some (t', H', T) => if okT (Region.before ops) (loud T) then some (.normal, t', H') else none
    | none => none)) else Zf P pol C ops ops.toList t H) := by
 cases draw with
 | false => exact Qdl hc ops ops.toList hT hF
 | true =>
   simp only [cReg, cond_true, if_true, hF.next, hF.tr]
   cases Qb H 0 (F.next + ops.size) with
   | some o => trivial
   | none =>
     simp only
     have := Qkt (P := P) (pol := pol) hc ops (F.next + ops.size) ops.toList F.next hT (hF.set (F.next + ops.size) .dead)
     revert this
     cases (Qj0 P pol n ops ops.toList).f cc (F.next + ops.size) F.next T (Qfh F (F.next + ops.size) .dead) with
     | no => intro _; trivial
     | ok T' F' l =>
       rintro ⟨t', H', e, h1, h2⟩
       simp only [e, endT]
       cases okT (Region.before ops) (loud l) with
       | true => exact ⟨t', H', rfl, h1, h2⟩
       | false => trivial
end
end Go.AM.BM
end
