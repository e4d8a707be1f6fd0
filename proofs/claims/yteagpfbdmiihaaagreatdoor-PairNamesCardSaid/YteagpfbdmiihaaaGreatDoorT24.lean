/- This file holds in one the texts Bf2, Bf3; each says at its head what it proves. -/
import Derived.Test.YteagpfbdmiihaaaGreatDoorT16
import Derived.Test.YteagpfbdmiihaaaGreatDoorT23
set_option linter.unusedSimpArgs false
set_option linter.unusedVariables false
section
namespace Go.AM.BM
section
variable (P : Program) (pol : Pol) (n : Nat)
noncomputable def cR : Operand -> Box (TM -> V)
 | .tmp i => bif Nat.blt i n then gC i else ⟨fun _ => .bad⟩
 | .const v => ⟨fun _ => Zy v⟩
 | .global _ => ⟨fun _ => .bad⟩
 | .func f => ⟨fun _ => .func (.func f) [] []⟩
noncomputable def cP : Option Nat -> Box (TM -> V -> TM)
 | none => ⟨fun T _ => T⟩
 | some i => bif Nat.blt i n then sC i else ⟨fun T _ => T⟩
noncomputable def cL (l : List Operand) : Box (TM -> List V) :=
 List.rec (motive := fun _ => Box (TM -> List V)) ⟨fun _ => []⟩ (fun x _ ih => ⟨fun T => (cR n x).f T :: ih.f T⟩) l
abbrev KT := TM -> FH -> FO
abbrev CO := FC -> Nat -> KT -> KT
noncomputable def Qhv (o : Option V) (k : V -> FO) : FO := Option.rec (motive := fun _ => FO) .no k o
noncomputable def resK (x : FR) (T : TM) (k : V -> FH -> FO) : FO := FR.rec (motive := fun _ => FO) .no k (fun v F => .pan v T F) x
noncomputable def fixF (b : Bool) (x : FR) : FR := match b with
 | false => x
 | true => (match x with
   | .ret v F => (match Qug (Ks F) v with
     | some (v', w) => .ret v' (wrF F w)
     | none => .no)
   | x => x)
noncomputable def Qg3 (cc : FC) (f : FuncId) (args : List V) (F : FH) : FR := match pol.prims f with
 | some g => (match g F.next (Ks F) args with
   | some x => .ret x.1 (wrLF F x.2)
   | none => .no)
 | none => (match pol.prim f with
   | some g => (match g 0 (some F.next) (Ks F) args with
     | some x => .ret x.1 (wrF F x.2)
     | none => .no)
   | none => (match Qi4 (Ks F) (pol.fixA f) args with
     | some (as, w) => fixF (pol.fix f) (cc (some f) as (wrF F w))
     | none => .no))
noncomputable def rndK (x : FR) (k : V -> FH -> FO) : FO := match x with
 | .ret v F => k v F
 | _ => .no
noncomputable def Qmb (s : Option Zk) (m : Option (V × List (Nat × Nat × O))) (cc : FC) (k : V -> FH -> FO) (T : TM) (F : FH) : FO := match s with
 | none => (match m with
   | some (v, ws) => k v (wrLF F ws)
   | none => .no)
 | some (.val v w) => k v (wrF F w)
 | some (.panic v) => .pan v T F
 | some (.call f args) => resK (Qg3 pol cc f args F) T k
 | some (.round f s args) => rndK (cc none (.yield f s :: args) F) k
noncomputable def Kz (dst : Option Nat) (o : Op) : Box (CO) :=
 ⟨fun cc nm k T F => Qmb pol (evX P (Ks F) (fun x => (cR n x).f T) nm o) (Jx P (Ks F) (fun x => (cR n x).f T) nm o) cc (fun v F => k ((cP n dst).f T v) F) T F⟩
/-! ### Operations that are met often -/
noncomputable def Qyb (l : List V) : Nat -> Option V :=
 List.rec (motive := fun _ => Nat -> Option V) (fun _ => none) (fun x _ ih i => Nat.rec (motive := fun _ => Option V) (some x) (fun j _ => ih j) i) l
noncomputable def setV (l : List V) : Nat -> V -> List V :=
 List.rec (motive := fun _ => Nat -> V -> List V) (fun _ _ => []) (fun x xs ih i v => Nat.rec (motive := fun _ => List V) (v :: xs) (fun j _ => x :: ih j v) i) l
noncomputable def Q3t (dst : Option Nat) (x : Operand) : Box (CO) := ⟨fun _ _ k T F => k ((cP n dst).f T ((cR n x).f T)) F⟩
noncomputable def Qqh (v : V) (a b : FO) : FO := vBool v a b .no
noncomputable def Q4z (dst : Option Nat) (c a b : Operand) : Box (CO) :=
 ⟨fun _ _ k T F => Qqh ((cR n c).f T) (k ((cP n dst).f T ((cR n a).f T)) F) (k ((cP n dst).f T ((cR n b).f T)) F)⟩
noncomputable def newK (chk : Bool) (F : FH) (nm : Nat) (o : O) (k : FH -> FO) : FO :=
 Bool.rec (motive := fun _ => FO) (k (Qga F nm o)) (Option.rec (motive := fun _ => FO) (k (Qga F nm o)) (fun _ => .no) (F.tr.get nm)) chk
noncomputable def Qwm (chk : Bool) (dst : Option Nat) (t : TypeId) : Box (CO) := match zeroCells P t with
 | some z => ⟨fun _ nm k T F => newK chk F nm (.cells z) fun F => k ((cP n dst).f T (.ptr 0 nm 0)) F⟩
 | none => ⟨fun _ _ _ _ _ => .no⟩
noncomputable def Qvd (t : TypeId) : Box (List V -> Nat -> Option V) := match P.underlying t, sz P t with
 | some dd, some m => bif Qlf dd then ⟨fun xs o => bif Nat.ble (o + m) xs.length then some (.agg ((xs.drop o).take m)) else none⟩ else ⟨Qyb⟩
 | _, _ => ⟨fun _ _ => none⟩
noncomputable def loadK (rd : List V -> Nat -> Option V) (v : V) (F : FH) (k : V -> FO) : FO :=
 vPtr v (fun f s o => Qmk (Ks F f s) (fun xs => Qhv (rd xs o) k) .no) (fun cs o => Qhv (rd cs o) k) (fun cs o => Qhv (rd cs o) k) .no
noncomputable def Q38 (dst : Option Nat) (t : TypeId) (a : Operand) : Box (CO) :=
 ⟨fun _ _ k T F => loadK (Qvd P t).f ((cR n a).f T) F fun v => k ((cP n dst).f T v) F⟩
noncomputable def Q48 (m : Nat) (a x : V) (F : FH) (k : FH -> FO) : FO :=
 vPtr a (fun f s o => Q4a x
  (Qmk (Ks F f s) (fun xs => Bool.rec (motive := fun _ => FO) .no (Option.rec (motive := fun _ => FO) .no (fun _ => k (wrF F (some (f, s, .cells (setV xs o x))))) (Qyb xs o)) (Nat.beq m (nat_lit 1))) .no)
  (fun cs => Qmk (Ks F f s) (fun xs => Bool.rec (motive := fun _ => FO) .no (Bool.rec (motive := fun _ => FO) .no (k (wrF F (some (f, s, .cells (splice xs o cs))))) (Nat.ble (Nat.add o m) xs.length)) (Nat.beq cs.length m)) .no)
  .no) (fun _ _ => .no) (fun _ _ => .no) .no
noncomputable def Qxe (dst : Option Nat) (t : TypeId) (a x : Operand) : Box (CO) := match sz P t with
 | some m => ⟨fun _ _ k T F => Q48 m ((cR n a).f T) ((cR n x).f T) F fun F => k ((cP n dst).f T .bad) F⟩
 | none => ⟨fun _ _ _ _ _ => .no⟩
noncomputable def Qg9 (x y : V) (k : IntKind -> Int -> Int -> Option V) (e : Option V) : Option V :=
 vInt x (fun a m => vInt y (fun b l => Bool.rec (motive := fun _ => Option V) none (k a m l) (Nat.beq (Qy6 a) (Qy6 b))) e) e
noncomputable def cBin (op : BinOp) (t : TypeId) (x y : Operand) : Box (V -> V -> Option V) := match op with
 | .add => ⟨fun a b => Qg9 a b (fun k m l => some (.int k (addI k m l))) (Z1 P .add t x y a b)⟩
 | .sub => ⟨fun a b => Qg9 a b (fun k m l => some (.int k (subI k m l))) (Z1 P .sub t x y a b)⟩
 | .eql => ⟨fun a b => Qg9 a b (fun _ m l => some (.bool (eqI m l))) (Z1 P .eql t x y a b)⟩
 | .neq => ⟨fun a b => Qg9 a b (fun _ m l => some (.bool (notB (eqI m l)))) (Z1 P .neq t x y a b)⟩
 | .lss => ⟨fun a b => Qg9 a b (fun _ m l => some (.bool (ltI m l))) (Z1 P .lss t x y a b)⟩
 | .leq => ⟨fun a b => Qg9 a b (fun _ m l => some (.bool (leI m l))) (Z1 P .leq t x y a b)⟩
 | .gtr => ⟨fun a b => Qg9 a b (fun _ m l => some (.bool (ltI l m))) (Z1 P .gtr t x y a b)⟩
 | .geq => ⟨fun a b => Qg9 a b (fun _ m l => some (.bool (leI l m))) (Z1 P .geq t x y a b)⟩
 | op => ⟨fun a b => Z1 P op t x y a b⟩
noncomputable def Qx9 (dst : Option Nat) (op : BinOp) (t : TypeId) (x y : Operand) : Box (CO) :=
 ⟨fun _ _ k T F => Qhv ((cBin P op t x y).f ((cR n x).f T) ((cR n y).f T)) fun v => k ((cP n dst).f T v) F⟩
noncomputable def cUnOp (dst : Option Nat) (op : UnOp) (x : Operand) : Box (CO) :=
 ⟨fun _ _ k T F => Qhv (unV op ((cR n x).f T)) fun v => k ((cP n dst).f T v) F⟩
noncomputable def cNil (dst : Option Nat) (x : Operand) : Box (CO) :=
 ⟨fun _ _ k T F => Qhv (ncV ((cR n x).f T)) fun v => k ((cP n dst).f T v) F⟩
noncomputable def offV (off : Nat) (v : V) : Option V := vPtr v (fun a b o => some (.ptr a b (Nat.add o off))) (fun cs o => some (.iptr cs (Nat.add o off))) (fun cs o => some (.rptr cs (Nat.add o off))) none
noncomputable def Qia (dst : Option Nat) (t : TypeId) (x : Operand) (i : Nat) : Box (CO) := match P.underlying t with
 | some (.struct fs) => (match fs[i]? with
   | some f => (match sz P f.type with
     | some m => bif Nat.beq m 0 then ⟨fun _ _ _ _ _ => .no⟩ else ⟨fun _ _ k T F => Qhv (offV f.offset ((cR n x).f T)) fun v => k ((cP n dst).f T v) F⟩
     | none => ⟨fun _ _ _ _ _ => .no⟩)
   | none => ⟨fun _ _ _ _ _ => .no⟩)
 | _ => ⟨fun _ _ _ _ _ => .no⟩
noncomputable def Q5f (t : TypeId) : Box (List V -> Nat -> Option V) := match P.underlying t, sz P t with
 | some dd, some m => bif Qlf dd then ⟨fun xs o => some (.agg ((xs.drop o).take m))⟩ else ⟨Qyb⟩
 | _, _ => ⟨fun _ _ => none⟩
noncomputable def aggO (v : V) (k : List V -> Option V) : Option V := vAgg v k none
noncomputable def Qxi (dst : Option Nat) (t : TypeId) (x : Operand) (i : Nat) : Box (CO) := match P.underlying t with
 | some (.struct fs) => (match fs[i]? with
   | some f => ⟨fun _ _ k T F => Qhv (aggO ((cR n x).f T) fun cs => (Q5f P f.type).f cs f.offset) fun v => k ((cP n dst).f T v) F⟩
   | none => ⟨fun _ _ _ _ _ => .no⟩)
 | _ => ⟨fun _ _ _ _ _ => .no⟩
noncomputable def atSl (m : Nat) (x i : V) : Option V := vInt i (fun _ i => Int.rec (motive := fun _ => Option V) (fun i =>
 vSl x none
  (fun cs len => Bool.rec (motive := fun _ => Option V) none (Bool.rec (motive := fun _ => Option V) none (Bool.rec (motive := fun _ => Option V) none (some (.iptr cs (Nat.mul i m))) (Nat.ble (nat_lit 1) m)) (Nat.beq cs.length (Nat.mul len m))) (Nat.ble (Nat.succ i) len))
  (fun cs len e' => Bool.rec (motive := fun _ => Option V) none (Bool.rec (motive := fun _ => Option V) none (Bool.rec (motive := fun _ => Option V) (some (.rptr cs (Nat.mul i m))) (some (.iptr cs (Nat.mul i m))) (Qk cs)) (Nat.beq e' m)) (Nat.ble (Nat.succ i) len))
  (fun f s o len e' => Bool.rec (motive := fun _ => Option V) none (Bool.rec (motive := fun _ => Option V) none (some (.ptr f s (Nat.add o (Nat.mul i m)))) (Nat.beq e' m)) (Nat.ble (Nat.succ i) len))
  none) (fun _ => none) i) none
noncomputable def Qh8 (dst : Option Nat) (t : TypeId) (x i : Operand) : Box (CO) := match P.underlying t with
 | some (.slice e) => (match sz P e with
   | some m => ⟨fun _ _ k T F => Qhv (atSl m ((cR n x).f T) ((cR n i).f T)) fun v => k ((cP n dst).f T v) F⟩
   | none => ⟨fun _ _ _ _ _ => .no⟩)
 | _ => ⟨fun _ _ k T F => Qhv (Q9 P t ((cR n x).f T) ((cR n i).f T)) fun v => k ((cP n dst).f T v) F⟩
noncomputable def Q33 (dst : Option Nat) (s t : TypeId) (x : Operand) : Box (CO) := match P.underlying s, P.underlying t with
 | some _, some (.int a) => ⟨fun cc nm k T F => vInt ((cR n x).f T) (fun _ m => k ((cP n dst).f T (.int a (convI a m))) F) ((Kz P pol n dst (.convert s t x)).f cc nm k T F)⟩
 | _, _ => Kz P pol n dst (.convert s t x)
noncomputable def lenO (x : V) : Option V := vSl x (some (.int .i64 (Int.ofNat (nat_lit 0)))) (fun _ m => some (.int .i64 (Int.ofNat m))) (fun _ m _ => some (.int .i64 (Int.ofNat m))) (fun _ _ _ m _ => some (.int .i64 (Int.ofNat m))) none
noncomputable def tupO (v : V) (i : Nat) : Option V := vTup v (fun vs => Qyb vs i) none
noncomputable def Qtz (dst : Option Nat) (t : Operand) (i : Nat) : Box (CO) :=
 ⟨fun _ _ k T F => Qhv (tupO ((cR n t).f T) i) fun v => k ((cP n dst).f T v) F⟩
noncomputable def isSl (t : TypeId) : Bool := match P.underlying t with
 | some (.slice _) => true
 | _ => false
noncomputable def cLen (dst : Option Nat) (c : Go.Call) : Box (CO) := match c.callee, c.args.toList, c.argTypes.toList with
 | .builtin .len, [x], [t] => bif isSl P t then ⟨fun _ _ k T F => Qhv (lenO ((cR n x).f T)) fun v => k ((cP n dst).f T v) F⟩ else Kz P pol n dst (.call c)
 | _, _, _ => Kz P pol n dst (.call c)
noncomputable def Q4i (dst : Option Nat) (c : Go.Call) : Box (CO) := match c.callee with
 | .value (.func f) => (match pol.prims f with
   | some _ => ⟨fun cc _ k T F => resK (Qg3 pol cc f ((cL n c.args.toList).f T) F) T fun v F => k ((cP n dst).f T v) F⟩
   | none => (match pol.prim f with
     | some g => ⟨fun _ _ k T F => match g 0 (some F.next) (Ks F) ((cL n c.args.toList).f T) with
       | some x => k ((cP n dst).f T x.1) (wrF F x.2)
       | none => .no⟩
     | none => (match pol.fixA f, pol.fix f with
       | none, false => ⟨fun cc _ k T F => resK (cc (some f) ((cL n c.args.toList).f T) F) T fun v F => k ((cP n dst).f T v) F⟩
       | _, _ => ⟨fun cc _ k T F => resK (Qg3 pol cc f ((cL n c.args.toList).f T) F) T fun v F => k ((cP n dst).f T v) F⟩)))
 | .value _ => Kz P pol n dst (.call c)
 | _ => cLen P pol n dst c
noncomputable def cOp (chk : Bool) (dst : Option Nat) (o : Op) : Box (CO) := match o with
 | .move x | .assign x => Q3t n dst x
 | .pick c a b => Q4z n dst c a b
 | .alloc t => Qwm P n chk dst t
 | .load t a => Q38 P n dst t a
 | .store t a x => Qxe P n dst t a x
 | .nilCheck x => cNil n dst x
 | .binOp op t x y _ => Qx9 P n dst op t x y
 | .unOp op _ x => cUnOp n dst op x
 | .fieldAddr t x i => Qia P n dst t x i
 | .field t x i => Qxi P n dst t x i
 | .extract t i => Qtz n dst t i
 | .indexAddr t x i => Qh8 P n dst t x i
 | .convert s t x => Q33 P pol n dst s t x
 | .call c => Q4i P pol n dst c
 | o => Kz P pol n dst o
noncomputable def cG (ops : Array Oper) (chk : Bool) (o : Oper) : Box (CO) := match o.guard with
 | none => cOp P pol n chk o.dst o.op
 | some (j, want) => (match (ops[j]?).bind (·.dst) with
   | some i => ⟨fun cc nm k T F => match (cR n (.tmp i)).f T with
     | .bool b => bif (bif b then want else !want) then (cOp P pol n chk o.dst o.op).f cc nm k T F else k ((cP n o.dst).f T nov) F
     | .tuple [] => k ((cP n o.dst).f T nov) F
     | _ => .no⟩
   | none => ⟨fun _ _ _ _ _ => .no⟩)
noncomputable def Qtv (ops : Array Oper) (l : List Oper) : Box (FC -> KT) :=
 List.rec (motive := fun _ => Box (FC -> KT)) ⟨fun _ T F => .nrm T F⟩ (fun o _ ih => ⟨fun cc T F => (cG P pol n ops false o).f cc F.next (ih.f cc) T F⟩) l
noncomputable def fpG (lim nm : Nat) (g g1 : Get) (nx : Nat) (r : Operand -> V) (o : Oper) : FP :=
 if Qa o.op then .quiet else if Qd o.op then .all else
 match evX P g r nm o.op with
 | some (.val _ w) => .ids (Yz 0 r (atN o nm)) (Qd8 w.toList) (match w.toList with
    | [(f, s, _)] => Nat.beq f 0 && Nat.beq s nm && (g 0 nm).isNone
    | _ => false)
 | none => (match Jx P g r nm o.op with
   | some (_, ws) => .ids (Yz 0 r (atN o nm)) (Qd8 ws) (match ws with
     | [(f, s, _)] => Nat.beq f 0 && Nat.beq s nm && (g 0 nm).isNone
     | _ => false)
   | none => .all)
 | some (.call _ _) => .call (fun f s => Nat.ble lim nx && eqbG (g f s) (g1 f s))
 | _ => .all
noncomputable def Qg1 (fp : FP) (x : FT) : FT := match x with
 | .ok T F l => .ok T F (fp :: l)
 | .no => .no
noncomputable def oneT (x : FO) (k : TM -> FH -> FT) : FT := match x with
 | .nrm T F => k T F
 | _ => .no
noncomputable def Qkv (ops : Array Oper) (l : List Oper) : Box (FC -> Nat -> Nat -> TM -> FH -> FT) :=
 List.rec (motive := fun _ => Box (FC -> Nat -> Nat -> TM -> FH -> FT)) ⟨fun _ _ _ T F => .ok T F []⟩
  (fun o _ ih => match o.guard with
    | none => ⟨fun cc lim nm T F => oneT ((cOp P pol n true o.dst o.op).f cc nm (fun T F => .nrm T F) T F) fun T1 F1 =>
       Qg1 (fpG P lim nm (Ks F) (Ks F1) F.next (fun x => (cR n x).f T) o) (ih.f cc lim (Nat.succ nm) T1 F1)⟩
    | some (j, want) => (match (ops[j]?).bind (·.dst) with
      | some i => ⟨fun cc lim nm T F => match (cR n (.tmp i)).f T with
        | .bool b => bif (bif b then want else !want) then oneT ((cOp P pol n true o.dst o.op).f cc nm (fun T F => .nrm T F) T F) fun T1 F1 =>
           Qg1 (fpG P lim nm (Ks F) (Ks F1) F.next (fun x => (cR n x).f T) o) (ih.f cc lim (Nat.succ nm) T1 F1)
          else Qg1 .quiet (ih.f cc lim (Nat.succ nm) ((cP n o.dst).f T nov) F)
        | .tuple [] => Qg1 .quiet (ih.f cc lim (Nat.succ nm) ((cP n o.dst).f T nov) F)
        | _ => .no⟩
      | none => ⟨fun _ _ _ _ _ => .no⟩)) l
noncomputable def endT (bef : Array Nat) (x : FT) : FO := match x with
 | .ok T F l => bif okT bef (loud l) then .nrm T F else .no
 | .no => .no
noncomputable def cReg (ops : Array Oper) (draw : Bool) : Box (FC -> KT) :=
 bif draw then ⟨fun cc T F => match F.tr.get (F.next + ops.size) with
  | none => endT (Region.before ops) ((Qkv P pol n ops ops.toList).f cc (F.next + ops.size) F.next T (Qga F (F.next + ops.size) .dead))
  | some _ => .no⟩ else Qtv P pol n ops ops.toList
/-! ### Code -/
noncomputable def seqK (x : FO) (k : TM -> FH -> FO) : FO := FO.rec (motive := fun _ => FO) .no k (fun i T F => .exi i T F) (fun T F => .ret T F) (fun v T F => .pan v T F) x
noncomputable def Q4b (id : Nat) (x : FO) : FO := FO.rec (motive := fun _ => FO) .no (fun T F => .nrm T F) (fun i T F => Bool.rec (motive := fun _ => FO) (.exi i T F) (.nrm T F) (Nat.beq i id)) (fun T F => .ret T F) (fun v T F => .pan v T F) x
noncomputable def Qqk (body : TM -> FH -> FO) (m : Nat) : TM -> FH -> FO :=
 Nat.rec (motive := fun _ => TM -> FH -> FO) (fun _ _ => .no) (fun _ ih T F => seqK (body T F) ih) m
abbrev CB := FC -> Nat -> KT
variable (fn : Nat)
noncomputable def Qne (s : Nat) (T : TM) (F : FH) : FO := match F.tr.get s with
 | some (.loop st pend _ _ _) => bif Nat.beq st 1 then .no else
    (match pend with
    | none => .nrm T (Qga F s .dead)
    | some none => .ret T (Qga F s .dead)
    | some (some i) => .exi i T (Qga F s .dead))
 | _ => .no
noncomputable def Qwo (x : FR) (s : Nat) (T : TM) : FO := match x with
 | .ret _ F => Qne s T F
 | _ => .no
noncomputable def comp (c : Code) : Box (CB) × Box (FC -> Nat -> V -> Option (Nat × Nat × O) -> KT) :=
 Code.rec (motive := fun _ => Box (CB) × Box (FC -> Nat -> V -> Option (Nat × Nat × O) -> KT))
  (⟨fun _ _ T F => .nrm T F⟩, ⟨fun _ _ _ _ _ _ => .no⟩)
  (fun _ ops draw => (⟨fun cc _ T F => (cReg P pol n ops draw).f cc T F⟩, match ops.toList with
    | o :: r => ⟨fun cc _ v w T F => (Qtv P pol n ops r).f cc ((cP n o.dst).f T v) (wrF F w)⟩
    | [] => ⟨fun _ _ _ _ _ _ => .no⟩))
  (fun _ _ ia ib => (⟨fun cc m T F => seqK (ia.1.f cc m T F) (ib.1.f cc m)⟩, ⟨fun cc m v w T F => seqK (ia.2.f cc m v w T F) (ib.1.f cc m)⟩))
  (fun c _ _ ia ib => (⟨fun cc m T F => Qqh ((cR n c).f T) (ia.1.f cc m T F) (ib.1.f cc m T F)⟩, ⟨fun _ _ _ _ _ _ => .no⟩))
  (fun id _ ib => (⟨fun cc m T F => Q4b id (ib.1.f cc m T F)⟩, ⟨fun _ _ _ _ _ _ => .no⟩))
  (fun b ib => (match Zt b with
    | none => ⟨fun cc m T F => Qqk (ib.1.f cc m) m T F⟩
    | some x => ⟨fun cc m T F => Qqk (fun T F => match Yt (Ks F) ((cR n x).f T) with
       | some [c] => ib.2.f cc m c.1 c.2 T F
       | _ => .no) m T F⟩, ⟨fun _ _ _ _ _ _ => .no⟩))
  (fun g _ a b _ _ => (⟨fun cc _ T F => match (cR n g).f T with
    | .func (.func f) first cap => Qwo (cc (some f) (first ++ [.yield 0 F.next] ++ cap) (Qga F F.next (.loop 0 none fn (Zf a b) (toL T n 0)))) F.next T
    | _ => .no⟩, ⟨fun _ _ _ _ _ _ => .no⟩))
  (fun id => (⟨fun _ _ T F => .exi id T F⟩, ⟨fun _ _ _ _ _ _ => .no⟩))
  (fun _ _ => (⟨fun _ _ _ _ => .no⟩, ⟨fun _ _ _ _ _ _ => .no⟩))
  (fun _ => (⟨fun _ _ _ _ => .no⟩, ⟨fun _ _ _ _ _ _ => .no⟩))
  (fun _ => (⟨fun _ _ _ _ => .no⟩, ⟨fun _ _ _ _ _ _ => .no⟩))
  (⟨fun _ _ T F => .ret T F⟩, ⟨fun _ _ _ _ _ _ => .no⟩)
  (fun _ => (⟨fun _ _ _ _ => .no⟩, ⟨fun _ _ _ _ _ _ => .no⟩)) c
noncomputable def resO (P : Program) (n : Nat) (x : ResultVar) : Box (TM -> FH -> Option V) := match x with
 | .tmp i => ⟨fun T _ => some ((cR n (.tmp i)).f T)⟩
 | .cell a t => ⟨fun T F => match (cR n (.tmp a)).f T with
   | .ptr f s o => (match Ks F f s with
     | some (.cells xs) => (Qvd P t).f xs o
     | _ => none)
   | _ => none⟩
noncomputable def Qyc (l : List ResultVar) : Box (TM -> FH -> Option (List V)) :=
 List.rec (motive := fun _ => Box (TM -> FH -> Option (List V))) ⟨fun _ _ => some []⟩ (fun x _ ih => ⟨fun T F => match (resO P n x).f T F, ih.f T F with
  | some v, some vs => some (v :: vs)
  | _, _ => none⟩) l
noncomputable def retK (v : Option (List V)) (F : FH) : FR := match v with
 | some [v] => .ret v F
 | some vs => .ret (.tuple vs) F
 | none => .no
noncomputable def endF (rs : List ResultVar) (x : FO) : FR := match x with
 | .nrm T F => retK ((Qyc P n rs).f T F) F
 | .ret T F => retK ((Qyc P n rs).f T F) F
 | .pan v _ F => .pan v F
 | _ => .no
end
inductive FD where
 | no
 | ok (x : FO) (ds : List V)
def FO.plain : FO -> FD
 | .no => .no
 | x => .ok x []
section
variable (P : Program) (pol : Pol)
noncomputable def Qk9 (n fn : Nat) (cc : FC) (m : Nat) : Code -> TM -> FH -> FD
 | .seq a b, T, F => (match Qgs a with
   | some (ops, l, d, x) => (match (Qtv P pol n ops l).f cc T F with
     | .nrm T1 F1 => (match (cR n x).f T1 with
       | .func f p q => (match Qk9 n fn cc m b ((cP n d).f T1 nov) F1 with
         | .ok y ds => .ok y (ds ++ [.func f p q])
         | .no => .no)
       | _ => .no)
     | _ => .no)
   | none => bif (Q6 a).isEmpty then (match (comp P pol n fn a).1.f cc m T F with
      | .nrm T1 F1 => Qk9 n fn cc m b T1 F1
      | y => y.plain)
     else ((comp P pol n fn (.seq a b)).1.f cc m T F).plain)
 | c, T, F => ((comp P pol n fn c).1.f cc m T F).plain
noncomputable def Qex (cc : FC) : List V -> FH -> Option FH
 | [], F => some F
 | .func (.func g) first cap :: ds, F => bif Qjn P g then (match cc (some g) (first ++ cap) F with
   | .ret _ F' => Qex cc ds F'
   | _ => none) else none
 | _, _ => none
noncomputable def endD (n : Nat) (rs : List ResultVar) (cc : FC) (x : FD) : FR := match x with
 | .ok (.nrm T F) ds | .ok (.ret T F) ds => (match Qex P cc ds F with
   | some F2 => retK ((Qyc P n rs).f T F2) F2
   | none => .no)
 | _ => .no
end
section
variable (P : Program) (pol : Pol)
noncomputable def Qwc (f : FuncId) : Box (FC -> Nat -> List V -> FH -> FR) := match P.funcs[f]? with
 | some Fn => (match Fn.body with
   | some c => bif Nat.blt 1056 Fn.ntmps then ⟨fun _ _ _ _ => .no⟩ else bif Qhp c then
      ⟨fun cc m args F => bif Nat.ble args.length Fn.ntmps then endD P Fn.ntmps Fn.results.toList cc (Qk9 P pol Fn.ntmps f cc m c (ofL args 0 emp) F) else .no⟩ else
      ⟨fun cc m args F => bif Nat.ble args.length Fn.ntmps then endF P Fn.ntmps Fn.results.toList ((comp P pol Fn.ntmps f c).1.f cc m (ofL args 0 emp) F) else .no⟩
   | none => ⟨fun _ _ _ _ => .no⟩)
 | none => ⟨fun _ _ _ _ => .no⟩
noncomputable def Qdm (so : Nat) (x : FO) : FR := 
 match x with
 | .nrm _ F => (match F.tr.get so with
   | some (.loop _ _ fL rid t0) => .ret (.bool true) (Qga F so (.loop 0 none fL rid t0))
   | _ => .no)
 | .ret _ F => (match F.tr.get so with
   | some (.loop _ _ fL rid t0) => .ret (.bool false) (Qga F so (.loop 2 (some none) fL rid t0))
   | _ => .no)
 | .exi i _ F => (match F.tr.get so with
   | some (.loop _ _ fL rid t0) => .ret (.bool false) (Qga F so (.loop 2 (some (some i)) fL rid t0))
   | _ => .no)
 | _ => .no
noncomputable def putA (n : Nat) (ps : List Tmp) : List V -> TM -> TM :=
 List.rec (motive := fun _ => List V -> TM -> TM) (fun _ T => T) (fun p _ ih l T => match l with
  | v :: l => ih l ((cP n (some p)).f T v)
  | [] => T) ps
noncomputable def midR (so : Nat) (x : FO) (k : TM -> FH -> FO) : FR := match x with
 | .nrm T1 F1 => (match F1.tr.get so with
   | some (.loop 0 pend fL rid t0) => Qdm so (k T1 (Qga F1 so (.loop 1 pend fL rid t0)))
   | _ => .no)
 | _ => .no
noncomputable def compR (fL rid : Nat) : Box (FC -> Nat -> Nat -> List V -> List V -> FH -> FR) := match P.funcs[fL]?, Qv P fL rid with
 | some Fn, some (ps, a, b) => bif Nat.blt 1056 Fn.ntmps then ⟨fun _ _ _ _ _ _ => .no⟩ else
    ⟨fun cc m so t0 args F => bif Nat.beq args.length ps.size && Nat.beq t0.length Fn.ntmps then
      midR so ((comp P pol Fn.ntmps fL a).1.f cc m (putA Fn.ntmps ps.toList args (ofL t0 0 emp)) F) ((comp P pol Fn.ntmps fL b).1.f cc m) else .no⟩
 | _, _ => ⟨fun _ _ _ _ _ _ => .no⟩
noncomputable def Qs2 (cc : FC) (m : Nat) (fo so : Nat) (args : List V) (F : FH) : FR := match fo with
 | 0 => (match F.tr.get so with
   | some (.loop 0 _ fL rid t0) => (compR P pol fL rid).f cc m so t0 args F
   | _ => .no)
 | Nat.succ _ => .no
noncomputable def X8 (m : Nat) : FC :=
 Nat.rec (motive := fun _ => FC) (fun _ _ _ => .no) (fun m ih f args F => match f with
  | some f => (Qwc P pol f).f ih m args F
  | none => (match args with
    | .yield fo so :: rest => Qs2 P pol ih m fo so rest F
    | _ => .no)) m
noncomputable def isTrue (x : FR) : Bool := match x with
 | .ret (.bool b) _ => b
 | _ => false
end
end Go.AM.BM
end
section
namespace Go.AM.BM
/-! ### Temporaries -/
def NV.toL (t : NV) : List V := [t.x0, t.x1, t.x2, t.x3, t.x4, t.x5, t.x6, t.x7, t.x8, t.x9, t.x10, t.x11, t.x12, t.x13, t.x14, t.x15, t.x16, t.x17, t.x18, t.x19, t.x20, t.x21, t.x22, t.x23, t.x24, t.x25, t.x26, t.x27, t.x28, t.x29, t.x30, t.x31]
def NN.toL (t : NN) : List NV := [t.x0, t.x1, t.x2, t.x3, t.x4, t.x5, t.x6, t.x7, t.x8, t.x9, t.x10, t.x11, t.x12, t.x13, t.x14, t.x15, t.x16, t.x17, t.x18, t.x19, t.x20, t.x21, t.x22, t.x23, t.x24, t.x25, t.x26, t.x27, t.x28, t.x29, t.x30, t.x31]
theorem Q6y (d : Box (NV -> V)) (t : NV) : ∀ i, i < 32 -> (selV.getD i d).f t = t.toL.getD i .bad
 | 0, _ => rfl
 | 1, _ => rfl
 | 2, _ => rfl
 | 3, _ => rfl
 | 4, _ => rfl
 | 5, _ => rfl
 | 6, _ => rfl
 | 7, _ => rfl
 | 8, _ => rfl
 | 9, _ => rfl
 | 10, _ => rfl
 | 11, _ => rfl
 | 12, _ => rfl
 | 13, _ => rfl
 | 14, _ => rfl
 | 15, _ => rfl
 | 16, _ => rfl
 | 17, _ => rfl
 | 18, _ => rfl
 | 19, _ => rfl
 | 20, _ => rfl
 | 21, _ => rfl
 | 22, _ => rfl
 | 23, _ => rfl
 | 24, _ => rfl
 | 25, _ => rfl
 | 26, _ => rfl
 | 27, _ => rfl
 | 28, _ => rfl
 | 29, _ => rfl
 | 30, _ => rfl
 | 31, _ => rfl
 | i + 32, h => by omega
theorem Q6f (d : Box (NV -> V -> NV)) (t : NV) (v : V) : ∀ i, i < 32 -> ((updV.getD i d).f t v).toL = t.toL.set i v
 | 0, _ => rfl
 | 1, _ => rfl
 | 2, _ => rfl
 | 3, _ => rfl
 | 4, _ => rfl
 | 5, _ => rfl
 | 6, _ => rfl
 | 7, _ => rfl
 | 8, _ => rfl
 | 9, _ => rfl
 | 10, _ => rfl
 | 11, _ => rfl
 | 12, _ => rfl
 | 13, _ => rfl
 | 14, _ => rfl
 | 15, _ => rfl
 | 16, _ => rfl
 | 17, _ => rfl
 | 18, _ => rfl
 | 19, _ => rfl
 | 20, _ => rfl
 | 21, _ => rfl
 | 22, _ => rfl
 | 23, _ => rfl
 | 24, _ => rfl
 | 25, _ => rfl
 | 26, _ => rfl
 | 27, _ => rfl
 | 28, _ => rfl
 | 29, _ => rfl
 | 30, _ => rfl
 | 31, _ => rfl
 | i + 32, h => by omega
theorem Qzp (d : Box (NN -> NV)) (e : NV) (t : NN) : ∀ i, i < 32 -> (selN.getD i d).f t = t.toL.getD i e
 | 0, _ => rfl
 | 1, _ => rfl
 | 2, _ => rfl
 | 3, _ => rfl
 | 4, _ => rfl
 | 5, _ => rfl
 | 6, _ => rfl
 | 7, _ => rfl
 | 8, _ => rfl
 | 9, _ => rfl
 | 10, _ => rfl
 | 11, _ => rfl
 | 12, _ => rfl
 | 13, _ => rfl
 | 14, _ => rfl
 | 15, _ => rfl
 | 16, _ => rfl
 | 17, _ => rfl
 | 18, _ => rfl
 | 19, _ => rfl
 | 20, _ => rfl
 | 21, _ => rfl
 | 22, _ => rfl
 | 23, _ => rfl
 | 24, _ => rfl
 | 25, _ => rfl
 | 26, _ => rfl
 | 27, _ => rfl
 | 28, _ => rfl
 | 29, _ => rfl
 | 30, _ => rfl
 | 31, _ => rfl
 | i + 32, h => by omega
theorem Q72 (d : Box (NN -> NV -> NN)) (t : NN) (v : NV) : ∀ i, i < 32 -> ((updN.getD i d).f t v).toL = t.toL.set i v
 | 0, _ => rfl
 | 1, _ => rfl
 | 2, _ => rfl
 | 3, _ => rfl
 | 4, _ => rfl
 | 5, _ => rfl
 | 6, _ => rfl
 | 7, _ => rfl
 | 8, _ => rfl
 | 9, _ => rfl
 | 10, _ => rfl
 | 11, _ => rfl
 | 12, _ => rfl
 | 13, _ => rfl
 | 14, _ => rfl
 | 15, _ => rfl
 | 16, _ => rfl
 | 17, _ => rfl
 | 18, _ => rfl
 | 19, _ => rfl
 | 20, _ => rfl
 | 21, _ => rfl
 | 22, _ => rfl
 | 23, _ => rfl
 | 24, _ => rfl
 | 25, _ => rfl
 | 26, _ => rfl
 | 27, _ => rfl
 | 28, _ => rfl
 | 29, _ => rfl
 | 30, _ => rfl
 | 31, _ => rfl
 | i + 32, h => by omega
theorem Q67 (d : Box (TM -> V)) (t : TM) : ∀ i, i < 32 -> (selA.getD i d).f t = t.a.toL.getD i .bad
 | 0, _ => rfl
 | 1, _ => rfl
 | 2, _ => rfl
 | 3, _ => rfl
 | 4, _ => rfl
 | 5, _ => rfl
 | 6, _ => rfl
 | 7, _ => rfl
 | 8, _ => rfl
 | 9, _ => rfl
 | 10, _ => rfl
 | 11, _ => rfl
 | 12, _ => rfl
 | 13, _ => rfl
 | 14, _ => rfl
 | 15, _ => rfl
 | 16, _ => rfl
 | 17, _ => rfl
 | 18, _ => rfl
 | 19, _ => rfl
 | 20, _ => rfl
 | 21, _ => rfl
 | 22, _ => rfl
 | 23, _ => rfl
 | 24, _ => rfl
 | 25, _ => rfl
 | 26, _ => rfl
 | 27, _ => rfl
 | 28, _ => rfl
 | 29, _ => rfl
 | 30, _ => rfl
 | 31, _ => rfl
 | i + 32, h => by omega
theorem Q7u (d : Box (TM -> V -> TM)) (t : TM) (v : V) : ∀ i, i < 32 -> ((updA.getD i d).f t v).a.toL = t.a.toL.set i v
 | 0, _ => rfl
 | 1, _ => rfl
 | 2, _ => rfl
 | 3, _ => rfl
 | 4, _ => rfl
 | 5, _ => rfl
 | 6, _ => rfl
 | 7, _ => rfl
 | 8, _ => rfl
 | 9, _ => rfl
 | 10, _ => rfl
 | 11, _ => rfl
 | 12, _ => rfl
 | 13, _ => rfl
 | 14, _ => rfl
 | 15, _ => rfl
 | 16, _ => rfl
 | 17, _ => rfl
 | 18, _ => rfl
 | 19, _ => rfl
 | 20, _ => rfl
 | 21, _ => rfl
 | 22, _ => rfl
 | 23, _ => rfl
 | 24, _ => rfl
 | 25, _ => rfl
 | 26, _ => rfl
 | 27, _ => rfl
 | 28, _ => rfl
 | 29, _ => rfl
 | 30, _ => rfl
 | 31, _ => rfl
 | i + 32, h => by omega
theorem updA_b (d : Box (TM -> V -> TM)) (t : TM) (v : V) : ∀ i, i < 32 -> ((updA.getD i d).f t v).b = t.b
 | 0, _ => rfl
 | 1, _ => rfl
 | 2, _ => rfl
 | 3, _ => rfl
 | 4, _ => rfl
 | 5, _ => rfl
 | 6, _ => rfl
 | 7, _ => rfl
 | 8, _ => rfl
 | 9, _ => rfl
 | 10, _ => rfl
 | 11, _ => rfl
 | 12, _ => rfl
 | 13, _ => rfl
 | 14, _ => rfl
 | 15, _ => rfl
 | 16, _ => rfl
 | 17, _ => rfl
 | 18, _ => rfl
 | 19, _ => rfl
 | 20, _ => rfl
 | 21, _ => rfl
 | 22, _ => rfl
 | 23, _ => rfl
 | 24, _ => rfl
 | 25, _ => rfl
 | 26, _ => rfl
 | 27, _ => rfl
 | 28, _ => rfl
 | 29, _ => rfl
 | 30, _ => rfl
 | 31, _ => rfl
 | i + 32, h => by omega
theorem Qvb {i : Nat} (h : i < 32) (T : TM) : (gC i).f T = T.a.toL.getD i .bad := by
 have : Nat.blt i 32 = true := by rw [Nat.blt_eq]; exact h
 simp only [gC, this, cond_true]
 exact Q67 _ T i h
theorem Qvg {i : Nat} (h : ¬ i < 32) (h2 : i < 1056) (T : TM) : (gC i).f T = (T.b.toL.getD ((i - 32) / 32) Ko).toL.getD ((i - 32) % 32) .bad := by
 have : Nat.blt i 32 = false := by rw [Znd]; intro e; rw [Nat.blt_eq] at e; exact h e
 simp only [gC, this, cond_false]
 rw [Qzp _ Ko _ _ (by omega), Q6y _ _ _ (by omega)]
theorem sC_hi {i : Nat} (h : ¬ i < 32) (T : TM) (v : V) : (sC i).f T v = ⟨T.a, (updN.getD ((i - 32) / 32) ⟨fun t _ => t⟩).f T.b ((updV.getD ((i - 32) % 32) ⟨fun t _ => t⟩).f ((selN.getD ((i - 32) / 32) ⟨fun t => t.x0⟩).f T.b) v)⟩ := by
 have : Nat.blt i 32 = false := by rw [Znd]; intro e; rw [Nat.blt_eq] at e; exact h e
 simp only [sC, this, cond_false]
theorem sC_lo {i : Nat} (h : i < 32) (T : TM) (v : V) : (sC i).f T v = (updA.getD i ⟨fun t _ => t⟩).f T v := by
 have : Nat.blt i 32 = true := by rw [Nat.blt_eq]; exact h
 simp only [sC, this, cond_true]
theorem NV.toL_length (t : NV) : t.toL.length = 32 := rfl
theorem NN.toL_length (t : NN) : t.toL.length = 32 := rfl
theorem Qil {α : Type} (l : List α) (i j : Nat) (v d : α) (hi : i < l.length) : (l.set i v).getD j d = if j = i then v else l.getD j d := by
 simp only [List.getD, Zm0]
 by_cases e : i = j
 . subst e; simp [hi]
 . rw [if_neg e, if_neg (Ne.symm e)]
theorem gC_sC {i j : Nat} (hi : i < 1056) (hj : j < 1056) (T : TM) (v : V) : (gC j).f ((sC i).f T v) = if j = i then v else (gC j).f T := by
 by_cases a : i < 32
 . rw [sC_lo a]
   by_cases b : j < 32
   . rw [Qvb b, Qvb b, Q7u _ _ _ _ a, Qil _ _ _ _ _ (by rw [NV.toL_length]; exact a)]
   . rw [Qvg b hj, Qvg b hj, updA_b _ _ _ _ a, if_neg (by omega)]
 . rw [sC_hi a]
   by_cases b : j < 32
   . rw [Qvb b, Qvb b, if_neg (by omega)]
   . rw [Qvg b hj, Qvg b hj, Q72 _ _ _ _ (by omega), Qil _ _ _ _ _ (by rw [NN.toL_length]; omega)]
     by_cases e : (j - 32) / 32 = (i - 32) / 32
     . rw [if_pos e, Q6f _ _ _ _ (by omega), Qil _ _ _ _ _ (by rw [NV.toL_length]; omega), Qzp _ Ko _ _ (by omega), e]
       by_cases e2 : (j - 32) % 32 = (i - 32) % 32
       . rw [if_pos e2, if_pos (by omega)]
       . rw [if_neg e2, if_neg (by omega)]
     . rw [if_neg e, if_neg (by omega)]
structure RT (n : Nat) (T : TM) (t : List V) : Prop where
 len : t.length = n
 le : n <= 1056
 get : ∀ i, i < n -> (gC i).f T = t.getD i .bad
theorem Qny {α : Type} (n i : Nat) (x : α) : (List.replicate n x).getD i x = x := by
 simp only [List.getD, List.getElem?_replicate]
 split <;> rfl
theorem gC_emp (i : Nat) (h : i < 1056) : (gC i).f emp = .bad := by
 have e2 : Ko.toL = List.replicate 32 .bad := rfl
 by_cases a : i < 32
 . rw [Qvb a]
   show Ko.toL.getD i .bad = .bad
   rw [e2, Qny]
 . rw [Qvg a h]
   have e : emp.b.toL = List.replicate 32 Ko := rfl
   rw [e, Qny, e2, Qny]
theorem RT.put {n : Nat} {T : TM} {t : List V} (R : RT n T t) (dst : Option Nat) (v : V) : RT n ((cP n dst).f T v) (Qe t dst v) := by
 cases dst with
 | none => exact R
 | some i =>
   simp only [cP, Qe]
   by_cases h : i < n
   . have hb : Nat.blt i n = true := by rw [Nat.blt_eq]; exact h
     rw [hb]
     refine ⟨by rw [Zne]; exact R.len, R.le, fun j hj => ?_⟩
     have hn := R.le
     simp only [cond_true]
     rw [gC_sC (by omega) (by omega), Qil _ _ _ _ _ (by rw [R.len]; exact h), R.get j hj]
   . have hb : Nat.blt i n = false := by rw [Znd]; intro e; rw [Nat.blt_eq] at e; exact h e
     rw [hb]
     rw [List.set_eq_of_length_le (by rw [R.len]; omega)]
     exact R
theorem RT.rho {n : Nat} {T : TM} {t : List V} (R : RT n T t) (x : Operand) : (cR n x).f T = AM.rho t x := by
 cases x with
 | tmp i =>
   simp only [cR, AM.rho]
   by_cases h : i < n
   . have hb : Nat.blt i n = true := by rw [Nat.blt_eq]; exact h
     rw [hb]; exact R.get i h
   . have hb : Nat.blt i n = false := by rw [Znd]; intro e; rw [Nat.blt_eq] at e; exact h e
     have h' : n <= i := Nat.le_of_not_lt h
     rw [hb]
     simp only [cond_false, List.getD]
     rw [Zky (by rw [R.len]; exact h')]; rfl
 | const v => rfl
 | global g => rfl
 | func f => rfl
theorem RT.rhoF {n : Nat} {T : TM} {t : List V} (R : RT n T t) : (fun x => (cR n x).f T) = AM.rho t := funext R.rho
theorem Qp7 (n : Nat) (T : TM) : ∀ l : List Operand, (cL n l).f T = l.map fun x => (cR n x).f T
 | [] => rfl
 | x :: l => by
   have := Qp7 n T l
   show (cR n x).f T :: (cL n l).f T = _
   rw [this]; rfl
theorem toL_eq {n : Nat} {T : TM} {t : List V} (R : RT n T t) : toL T n 0 = t := by
 have : ∀ m i, toL T m i = (List.range' i m).map fun j => (gC j).f T := by
  intro m
  induction m with
  | zero => intro i; rfl
  | succ m ih =>
    intro i
    show (gC i).f T :: toL T m (Nat.succ i) = _
    rw [ih]; simp [Zle]
 rw [this]
 apply Zme
 intro i
 by_cases h : i < n
 . simp only [Znf, List.getElem?_range' h, Zkw, Zk7, Nat.one_mul]
   rw [R.get i h, List.getD, Zkv (by rw [R.len]; exact h)]; rfl
 . rw [Zky (by simp; omega), Zky (by rw [R.len]; omega)]
theorem Qzh {n : Nat} (hn : n <= 1056) : ∀ (l : List V) (i : Nat) (T : TM), i + l.length <= n -> ∀ j, j < n -> (gC j).f (ofL l i T) = if i <= j /\ j < i + l.length then l.getD (j - i) .bad else (gC j).f T
 | [], i, T, _, j, _ => by
   show (gC j).f T = _
   rw [if_neg (by simp only [Zml]; omega)]
 | v :: l, i, T, h, j, hj => by
   simp only [Zld] at h
   show (gC j).f (ofL l (Nat.succ i) ((sC i).f T v)) = _
   rw [Qzh hn l (Nat.succ i) _ (by omega) j hj, gC_sC (by omega) (by omega)]
   by_cases e : j = i
   . subst e
     rw [if_neg (by omega), if_pos rfl, if_pos (by simp)]; simp
   . by_cases c : i <= j /\ j < i + (l.length + 1)
     . rw [if_pos (by omega), if_pos (by simpa using c)]
       have : j - i = (j - Nat.succ i) + 1 := by omega
       rw [this]; rfl
     . rw [if_neg (by omega), if_neg e, if_neg (by simpa using c)]
theorem RT.args {n : Nat} (hn : n <= 1056) (l : List V) (h : l.length <= n) : RT n (ofL l 0 emp) (l ++ List.replicate (n - l.length) .bad) := by
 refine ⟨by simp; omega, hn, fun i hi => ?_⟩
 rw [Qzh hn l 0 emp (by omega) i hi]
 by_cases c : i < l.length
 . rw [if_pos (by omega)]; simp [List.getD, Zl5 c]
 . rw [if_neg (by omega), gC_emp i (by omega)]
   simp only [List.getD, Zl6 (by omega : l.length <= i), List.getElem?_replicate]
   split <;> rfl
theorem RT.ofT {n : Nat} (hn : n <= 1056) (l : List V) (h : l.length = n) : RT n (ofL l 0 emp) l := by
 have := RT.args hn l (by omega)
 rwa [h, Nat.sub_self, List.replicate_zero, Zma] at this
/-! ### Objects -/
theorem Qlj {α : Type} (j : Nat) (a b c d : α) : Qr3 j a b c d = if (j / 2) % 2 = 0 then (if j % 2 = 0 then a else b) else (if j % 2 = 0 then c else d) := by
 have h1 : Nat.land j (nat_lit 1) = j % 2 := Nat.and_one_is_mod j
 have h2 : Nat.land (Nat.shiftRight j (nat_lit 1)) (nat_lit 1) = (j / 2) % 2 := by
  have : Nat.shiftRight j 1 = j / 2 := rfl
  show Nat.land (Nat.shiftRight j 1) 1 = _
  rw [this]; exact Nat.and_one_is_mod _
 unfold Qr3
 rw [h1, h2]
 have e : ∀ (m : Nat) (x y : α), Bool.rec (motive := fun _ => α) x y (Nat.beq m (nat_lit 0)) = if m = 0 then y else x := by
  intro m x y
  cases m <;> rfl
 rw [e, e, e]
theorem Tr.get_node (o : Option O) (a b c d : Tr) (k : Nat) : (Tr.node o a b c d).get k = match k with
 | 0 => o
 | j + 1 => Qr3 j (a.get) (b.get) (c.get) (d.get) (j / 4) := by
 cases k with
 | zero => rfl
 | succ j =>
   show Qr3 j a.get b.get c.get d.get (Nat.shiftRight j (nat_lit 2)) = _
   have hs : Nat.shiftRight j (nat_lit 2) = j / 4 := by
    show Nat.shiftRight j 2 = _
    have : Nat.shiftRight j 2 = j / 2 / 2 := rfl
    rw [this, Nat.div_div_eq_div_mul]
   rw [hs]
theorem Tr.on_get (t : Tr) (k : Nat) : t.get k = t.on fun o a b c d => (Tr.node o a b c d).get k := by
 cases t with
 | nil =>
   show none = (Tr.node none .nil .nil .nil .nil).get k
   rw [Tr.get_node]
   cases k with
   | zero => rfl
   | succ j => simp only [Qlj]; repeat' split
               all_goals rfl
 | node o a b c d => rfl
theorem Tr.get_set : ∀ (n : Nat) (t : Tr) (k : Nat) (o : O), k < n -> ∀ k', (Tr.set n t k o).get k' = if k' = k then some o else t.get k'
 | 0, _, _, _, h, _ => by omega
 | n + 1, t, k, x, h, k' => by
   have main : ∀ (o : Option O) (a b c d : Tr), (Nat.rec (motive := fun _ => Tr) (.node (some x) a b c d)
    (fun j _ => Qr3 j (Tr.node o (Tr.set n a (Nat.shiftRight j (nat_lit 2)) x) b c d) (.node o a (Tr.set n b (Nat.shiftRight j (nat_lit 2)) x) c d) (.node o a b (Tr.set n c (Nat.shiftRight j (nat_lit 2)) x) d) (.node o a b c (Tr.set n d (Nat.shiftRight j (nat_lit 2)) x))) k : Tr).get k' =
      if k' = k then some x else (Tr.node o a b c d).get k' := by
    intro o a b c d
    cases k with
    | zero =>
      show (Tr.node (some x) a b c d).get k' = _
      rw [Tr.get_node, Tr.get_node]
      cases k' with
      | zero => rfl
      | succ j => simp
    | succ j =>
      show (Qr3 j (Tr.node o (Tr.set n a (Nat.shiftRight j (nat_lit 2)) x) b c d) (.node o a (Tr.set n b (Nat.shiftRight j (nat_lit 2)) x) c d) (.node o a b (Tr.set n c (Nat.shiftRight j (nat_lit 2)) x) d) (.node o a b c (Tr.set n d (Nat.shiftRight j (nat_lit 2)) x))).get k' = _
      have hs : Nat.shiftRight j (nat_lit 2) = j / 4 := by
       show Nat.shiftRight j 2 = _
       have : Nat.shiftRight j 2 = j / 2 / 2 := rfl
       rw [this, Nat.div_div_eq_div_mul]
      rw [hs]
      have hlt : j / 4 < n := by omega
      have ih := fun (t : Tr) => Tr.get_set n t (j / 4) x hlt
      cases k' with
      | zero =>
        simp only [Qlj]
        repeat' split
        all_goals first | rfl | (exfalso; omega) | skip
        all_goals simp [Tr.get_node]
      | succ j' =>
        simp only [Qlj]
        (repeat' split) <;> (try simp only [Tr.get_node, Qlj]) <;> (repeat' split) <;> (try simp only [ih]) <;> (repeat' split) <;> first | rfl | (exfalso; omega)
   cases t with
   | nil => 
     exact (main none .nil .nil .nil .nil).trans (by rw [Tr.on_get .nil k']; rfl)
   | node o a b c d => exact main o a b c d
def RH (F : FH) (H : Heap) : Prop := ∃ fr, H = [fr] /\ (∀ s, Qu fr s = F.tr.get s) /\ Qfj fr = F.next
theorem Quw : ∀ (fr : Frame) (s : Nat), Qfj fr <= s -> Qu fr s = none
 | [], _, _ => rfl
 | (k, o) :: r, s, h => by
   simp only [Qfj] at h
   simp only [Qu]
   rw [if_neg (by omega)]
   exact Quw r s (by omega)
theorem RH.get {F : FH} {H : Heap} (h : RH F H) : Ks F = Qb H := by
 obtain ⟨fr, rfl, h1, _⟩ := h
 funext f s
 cases f with
 | zero => exact (h1 s).symm
 | succ f => simp [Ks, Qb]
theorem RH.tr {F : FH} {H : Heap} (h : RH F H) (s : Nat) : F.tr.get s = Qb H 0 s := by
 rw [<- h.get]; rfl
theorem RH.next {F : FH} {H : Heap} (h : RH F H) : Q8 H = F.next := by
 obtain ⟨fr, rfl, _, h2⟩ := h; exact h2
theorem RH.fresh {F : FH} {H : Heap} (h : RH F H) : F.tr.get F.next = none := by
 obtain ⟨fr, rfl, h1, h2⟩ := h
 rw [<- h1, <- h2]; exact Quw fr _ (Zk0 _)
theorem RH.set {F : FH} {H : Heap} (h : RH F H) (s : Nat) (o : O) : RH (Qga F s o) (hset H 0 s o) := by
 obtain ⟨fr, rfl, h1, h2⟩ := h
 refine ⟨Qs fr s o, rfl, fun s' => ?_, ?_⟩
 . rw [Qbt, h1]
   exact (Tr.get_set (Nat.succ s) F.tr s o (Nat.lt_succ_self s) s').symm
 . rw [Qd1, h2]
   simp only [Qga]
   cases e : Nat.ble (Nat.succ s) F.next with
   | true => have := Zmy e; simp only; omega
   | false =>
     have : ¬ Nat.succ s <= F.next := fun h => by rw [Zng h] at e; cases e
     simp only; omega
theorem RH.wr {F : FH} {H : Heap} (h : RH F H) (w : Option (Nat × Nat × O)) : RH (wrF F w) (AM.wr H w) := by
 match w with
 | none => exact h
 | some (0, s, o) => exact h.set s o
 | some (f + 1, s, o) =>
   obtain ⟨fr, rfl, h1, h2⟩ := h
   exact ⟨fr, by simp [AM.wr, hset], h1, h2⟩
theorem RH.wrL : ∀ (ws : List (Nat × Nat × O)) {F : FH} {H : Heap}, RH F H -> RH (wrLF F ws) (BM.wrL H ws)
 | [], _, _, h => h
 | (f, s, o) :: r, F, H, h => by
   have := h.wr (some (f, s, o))
   exact RH.wrL r this
end Go.AM.BM
end
