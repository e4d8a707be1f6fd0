/- This file holds in one the texts Bf2, DK, DL, DK2, Bx29; each says at its head what it proves. -/
import Derived.Test.YtafhcdagifopeaaGreatDoorT18
import Derived.Test.YtafhcdagifopeaaGreatDoorT22
import Derived.Test.YtafhcdagifopeaaGreatDoorT29
import Derived.Test.YtafhcdagifopeaaGreatDoorT30
set_option linter.unusedSimpArgs false
set_option linter.unusedVariables false
section
/- The machine for closed laws, reckoned quickly, part 2: code as functions. -/
namespace Go.AM.BM

section
variable (P : Program) (pol : Pol) (n : Nat)

noncomputable def cR : Operand → Box (TM → V)
  | .tmp i => bif Nat.blt i n then gC i else ⟨fun _ => .bad⟩
  | .const v => ⟨fun _ => ofConst v⟩
  | .global _ => ⟨fun _ => .bad⟩
  | .func f => ⟨fun _ => .func (.func f) [] []⟩
noncomputable def cP : Option Nat → Box (TM → V → TM)
  | none => ⟨fun T _ => T⟩
  | some i => bif Nat.blt i n then sC i else ⟨fun T _ => T⟩
noncomputable def cL (l : List Operand) : Box (TM → List V) :=
  List.rec (motive := fun _ => Box (TM → List V)) ⟨fun _ => []⟩ (fun x _ ih => ⟨fun T => (cR n x).f T :: ih.f T⟩) l

abbrev KT := TM → FH → FO
abbrev CO := FC → Nat → KT → KT

noncomputable def optK (o : Option V) (k : V → FO) : FO := Option.rec (motive := fun _ => FO) .no k o
noncomputable def resK (x : FR) (T : TM) (k : V → FH → FO) : FO := FR.rec (motive := fun _ => FO) .no k (fun v F => .pan v T F) x
noncomputable def fixF (b : Bool) (x : FR) : FR := match b with
  | false => x
  | true => (match x with
    | .ret v F => (match fixV (getF F) v with
      | some (v', w) => .ret v' (wrF F w)
      | none => .no)
    | x => x)
noncomputable def callK (cc : FC) (f : FuncId) (args : List V) (F : FH) : FR := match pol.prims f with
  | some g => (match g F.next (getF F) args with
    | some x => .ret x.1 (wrLF F x.2)
    | none => .no)
  | none => (match pol.prim f with
    | some g => (match g 0 (some F.next) (getF F) args with
      | some x => .ret x.1 (wrF F x.2)
      | none => .no)
    | none => (match fixAt (getF F) (pol.fixA f) args with
      | some (as, w) => fixF (pol.fix f) (cc (some f) as (wrF F w))
      | none => .no))
noncomputable def rndK (x : FR) (k : V → FH → FO) : FO := match x with
  | .ret v F => k v F
  | _ => .no
noncomputable def stepK (s : Option Step) (m : Option (V × List (Nat × Nat × O))) (cc : FC) (k : V → FH → FO) (T : TM) (F : FH) : FO := match s with
  | none => (match m with
    | some (v, ws) => k v (wrLF F ws)
    | none => .no)
  | some (.val v w) => k v (wrF F w)
  | some (.panic v) => .pan v T F
  | some (.call f args) => resK (callK pol cc f args F) T k
  | some (.round f s args) => rndK (cc none (.yield f s :: args) F) k

noncomputable def cGen (dst : Option Nat) (o : Op) : Box (CO) :=
  ⟨fun cc nm k T F => stepK pol (evX P (getF F) (fun x => (cR n x).f T) nm o) (moreOp P (getF F) (fun x => (cR n x).f T) nm o) cc (fun v F => k ((cP n dst).f T v) F) T F⟩

/-! ### Operations that are met often -/
noncomputable def nthV (l : List V) : Nat → Option V :=
  List.rec (motive := fun _ => Nat → Option V) (fun _ => none) (fun x _ ih i => Nat.rec (motive := fun _ => Option V) (some x) (fun j _ => ih j) i) l
noncomputable def setV (l : List V) : Nat → V → List V :=
  List.rec (motive := fun _ => Nat → V → List V) (fun _ _ => []) (fun x xs ih i v => Nat.rec (motive := fun _ => List V) (v :: xs) (fun j _ => x :: ih j v) i) l

noncomputable def cMove (dst : Option Nat) (x : Operand) : Box (CO) := ⟨fun _ _ k T F => k ((cP n dst).f T ((cR n x).f T)) F⟩

noncomputable def boolK (v : V) (a b : FO) : FO := vBool v a b .no
noncomputable def cPick (dst : Option Nat) (c a b : Operand) : Box (CO) :=
  ⟨fun _ _ k T F => boolK ((cR n c).f T) (k ((cP n dst).f T ((cR n a).f T)) F) (k ((cP n dst).f T ((cR n b).f T)) F)⟩

noncomputable def newK (chk : Bool) (F : FH) (nm : Nat) (o : O) (k : FH → FO) : FO :=
  Bool.rec (motive := fun _ => FO) (k (setF F nm o)) (Option.rec (motive := fun _ => FO) (k (setF F nm o)) (fun _ => .no) (F.tr.get nm)) chk
noncomputable def cAlloc (chk : Bool) (dst : Option Nat) (t : TypeId) : Box (CO) := match zeroCells P t with
  | some z => ⟨fun _ nm k T F => newK chk F nm (.cells z) fun F => k ((cP n dst).f T (.ptr 0 nm 0)) F⟩
  | none => ⟨fun _ _ _ _ _ => .no⟩

noncomputable def cRead (t : TypeId) : Box (List V → Nat → Option V) := match P.underlying t, sz P t with
  | some dd, some m => bif aggD dd then ⟨fun xs o => bif Nat.ble (o + m) xs.length then some (.agg ((xs.drop o).take m)) else none⟩ else ⟨nthV⟩
  | _, _ => ⟨fun _ _ => none⟩
noncomputable def loadK (rd : List V → Nat → Option V) (v : V) (F : FH) (k : V → FO) : FO :=
  vPtr v (fun f s o => oCells (getF F f s) (fun xs => optK (rd xs o) k) .no) (fun cs o => optK (rd cs o) k) (fun cs o => optK (rd cs o) k) .no
noncomputable def cLoad (dst : Option Nat) (t : TypeId) (a : Operand) : Box (CO) :=
  ⟨fun _ _ k T F => loadK (cRead P t).f ((cR n a).f T) F fun v => k ((cP n dst).f T v) F⟩

noncomputable def storeK (m : Nat) (a x : V) (F : FH) (k : FH → FO) : FO :=
  vPtr a (fun f s o => vCells x
      (oCells (getF F f s) (fun xs => Bool.rec (motive := fun _ => FO) .no (Option.rec (motive := fun _ => FO) .no (fun _ => k (wrF F (some (f, s, .cells (setV xs o x))))) (nthV xs o)) (Nat.beq m (nat_lit 1))) .no)
      (fun cs => oCells (getF F f s) (fun xs => Bool.rec (motive := fun _ => FO) .no (Bool.rec (motive := fun _ => FO) .no (k (wrF F (some (f, s, .cells (splice xs o cs))))) (Nat.ble (Nat.add o m) xs.length)) (Nat.beq cs.length m)) .no)
      .no) (fun _ _ => .no) (fun _ _ => .no) .no
noncomputable def cStore (dst : Option Nat) (t : TypeId) (a x : Operand) : Box (CO) := match sz P t with
  | some m => ⟨fun _ _ k T F => storeK m ((cR n a).f T) ((cR n x).f T) F fun F => k ((cP n dst).f T .bad) F⟩
  | none => ⟨fun _ _ _ _ _ => .no⟩

noncomputable def intsK (x y : V) (k : IntKind → Int → Int → Option V) (e : Option V) : Option V :=
  vInt x (fun a m => vInt y (fun b l => Bool.rec (motive := fun _ => Option V) none (k a m l) (Nat.beq (kindN a) (kindN b))) e) e
noncomputable def cBin (op : BinOp) (t : TypeId) (x y : Operand) : Box (V → V → Option V) := match op with
  | .add => ⟨fun a b => intsK a b (fun k m l => some (.int k (addI k m l))) (binV P .add t x y a b)⟩
  | .sub => ⟨fun a b => intsK a b (fun k m l => some (.int k (subI k m l))) (binV P .sub t x y a b)⟩
  | .eql => ⟨fun a b => intsK a b (fun _ m l => some (.bool (eqI m l))) (binV P .eql t x y a b)⟩
  | .neq => ⟨fun a b => intsK a b (fun _ m l => some (.bool (notB (eqI m l)))) (binV P .neq t x y a b)⟩
  | .lss => ⟨fun a b => intsK a b (fun _ m l => some (.bool (ltI m l))) (binV P .lss t x y a b)⟩
  | .leq => ⟨fun a b => intsK a b (fun _ m l => some (.bool (leI m l))) (binV P .leq t x y a b)⟩
  | .gtr => ⟨fun a b => intsK a b (fun _ m l => some (.bool (ltI l m))) (binV P .gtr t x y a b)⟩
  | .geq => ⟨fun a b => intsK a b (fun _ m l => some (.bool (leI l m))) (binV P .geq t x y a b)⟩
  | op => ⟨fun a b => binV P op t x y a b⟩
noncomputable def cBinOp (dst : Option Nat) (op : BinOp) (t : TypeId) (x y : Operand) : Box (CO) :=
  ⟨fun _ _ k T F => optK ((cBin P op t x y).f ((cR n x).f T) ((cR n y).f T)) fun v => k ((cP n dst).f T v) F⟩
noncomputable def cUnOp (dst : Option Nat) (op : UnOp) (x : Operand) : Box (CO) :=
  ⟨fun _ _ k T F => optK (unV op ((cR n x).f T)) fun v => k ((cP n dst).f T v) F⟩
noncomputable def cNil (dst : Option Nat) (x : Operand) : Box (CO) :=
  ⟨fun _ _ k T F => optK (ncV ((cR n x).f T)) fun v => k ((cP n dst).f T v) F⟩

noncomputable def offV (off : Nat) (v : V) : Option V := vPtr v (fun a b o => some (.ptr a b (Nat.add o off))) (fun cs o => some (.iptr cs (Nat.add o off))) (fun cs o => some (.rptr cs (Nat.add o off))) none
noncomputable def cFieldAddr (dst : Option Nat) (t : TypeId) (x : Operand) (i : Nat) : Box (CO) := match P.underlying t with
  | some (.struct fs) => (match fs[i]? with
    | some f => (match sz P f.type with
      | some m => bif Nat.beq m 0 then ⟨fun _ _ _ _ _ => .no⟩ else ⟨fun _ _ k T F => optK (offV f.offset ((cR n x).f T)) fun v => k ((cP n dst).f T v) F⟩
      | none => ⟨fun _ _ _ _ _ => .no⟩)
    | none => ⟨fun _ _ _ _ _ => .no⟩)
  | _ => ⟨fun _ _ _ _ _ => .no⟩
noncomputable def cPart (t : TypeId) : Box (List V → Nat → Option V) := match P.underlying t, sz P t with
  | some dd, some m => bif aggD dd then ⟨fun xs o => some (.agg ((xs.drop o).take m))⟩ else ⟨nthV⟩
  | _, _ => ⟨fun _ _ => none⟩
noncomputable def aggO (v : V) (k : List V → Option V) : Option V := vAgg v k none
noncomputable def cField (dst : Option Nat) (t : TypeId) (x : Operand) (i : Nat) : Box (CO) := match P.underlying t with
  | some (.struct fs) => (match fs[i]? with
    | some f => ⟨fun _ _ k T F => optK (aggO ((cR n x).f T) fun cs => (cPart P f.type).f cs f.offset) fun v => k ((cP n dst).f T v) F⟩
    | none => ⟨fun _ _ _ _ _ => .no⟩)
  | _ => ⟨fun _ _ _ _ _ => .no⟩

noncomputable def atSl (m : Nat) (x i : V) : Option V := vInt i (fun _ i => Int.rec (motive := fun _ => Option V) (fun i =>
    vSl x none
      (fun cs len => Bool.rec (motive := fun _ => Option V) none (Bool.rec (motive := fun _ => Option V) none (Bool.rec (motive := fun _ => Option V) none (some (.iptr cs (Nat.mul i m))) (Nat.ble (nat_lit 1) m)) (Nat.beq cs.length (Nat.mul len m))) (Nat.ble (Nat.succ i) len))
      (fun cs len e' => Bool.rec (motive := fun _ => Option V) none (Bool.rec (motive := fun _ => Option V) none (Bool.rec (motive := fun _ => Option V) (some (.rptr cs (Nat.mul i m))) (some (.iptr cs (Nat.mul i m))) (pureL cs)) (Nat.beq e' m)) (Nat.ble (Nat.succ i) len))
      (fun f s o len e' => Bool.rec (motive := fun _ => Option V) none (Bool.rec (motive := fun _ => Option V) none (some (.ptr f s (Nat.add o (Nat.mul i m)))) (Nat.beq e' m)) (Nat.ble (Nat.succ i) len))
      none) (fun _ => none) i) none
noncomputable def cIndexAddr (dst : Option Nat) (t : TypeId) (x i : Operand) : Box (CO) := match P.underlying t with
  | some (.slice e) => (match sz P e with
    | some m => ⟨fun _ _ k T F => optK (atSl m ((cR n x).f T) ((cR n i).f T)) fun v => k ((cP n dst).f T v) F⟩
    | none => ⟨fun _ _ _ _ _ => .no⟩)
  | _ => ⟨fun _ _ k T F => optK (indexAddrV P t ((cR n x).f T) ((cR n i).f T)) fun v => k ((cP n dst).f T v) F⟩
noncomputable def cConv (dst : Option Nat) (s t : TypeId) (x : Operand) : Box (CO) := match P.underlying s, P.underlying t with
  | some _, some (.int a) => ⟨fun cc nm k T F => vInt ((cR n x).f T) (fun _ m => k ((cP n dst).f T (.int a (convI a m))) F) ((cGen P pol n dst (.convert s t x)).f cc nm k T F)⟩
  | _, _ => cGen P pol n dst (.convert s t x)
noncomputable def lenO (x : V) : Option V := vSl x (some (.int .i64 (Int.ofNat (nat_lit 0)))) (fun _ m => some (.int .i64 (Int.ofNat m))) (fun _ m _ => some (.int .i64 (Int.ofNat m))) (fun _ _ _ m _ => some (.int .i64 (Int.ofNat m))) none
noncomputable def tupO (v : V) (i : Nat) : Option V := vTup v (fun vs => nthV vs i) none
noncomputable def cExtract (dst : Option Nat) (t : Operand) (i : Nat) : Box (CO) :=
  ⟨fun _ _ k T F => optK (tupO ((cR n t).f T) i) fun v => k ((cP n dst).f T v) F⟩
noncomputable def isSl (t : TypeId) : Bool := match P.underlying t with
  | some (.slice _) => true
  | _ => false
noncomputable def cLen (dst : Option Nat) (c : Go.Call) : Box (CO) := match c.callee, c.args.toList, c.argTypes.toList with
  | .builtin .len, [x], [t] => bif isSl P t then ⟨fun _ _ k T F => optK (lenO ((cR n x).f T)) fun v => k ((cP n dst).f T v) F⟩ else cGen P pol n dst (.call c)
  | _, _, _ => cGen P pol n dst (.call c)
noncomputable def cCall (dst : Option Nat) (c : Go.Call) : Box (CO) := match c.callee with
  | .value (.func f) => (match pol.prims f with
    | some _ => ⟨fun cc _ k T F => resK (callK pol cc f ((cL n c.args.toList).f T) F) T fun v F => k ((cP n dst).f T v) F⟩
    | none => (match pol.prim f with
      | some g => ⟨fun _ _ k T F => match g 0 (some F.next) (getF F) ((cL n c.args.toList).f T) with
        | some x => k ((cP n dst).f T x.1) (wrF F x.2)
        | none => .no⟩
      | none => (match pol.fixA f, pol.fix f with
        | none, false => ⟨fun cc _ k T F => resK (cc (some f) ((cL n c.args.toList).f T) F) T fun v F => k ((cP n dst).f T v) F⟩
        | _, _ => ⟨fun cc _ k T F => resK (callK pol cc f ((cL n c.args.toList).f T) F) T fun v F => k ((cP n dst).f T v) F⟩)))
  | .value _ => cGen P pol n dst (.call c)
  | _ => cLen P pol n dst c

noncomputable def cOp (chk : Bool) (dst : Option Nat) (o : Op) : Box (CO) := match o with
  | .move x | .assign x => cMove n dst x
  | .pick c a b => cPick n dst c a b
  | .alloc t => cAlloc P n chk dst t
  | .load t a => cLoad P n dst t a
  | .store t a x => cStore P n dst t a x
  | .nilCheck x => cNil n dst x
  | .binOp op t x y _ => cBinOp P n dst op t x y
  | .unOp op _ x => cUnOp n dst op x
  | .fieldAddr t x i => cFieldAddr P n dst t x i
  | .field t x i => cField P n dst t x i
  | .extract t i => cExtract n dst t i
  | .indexAddr t x i => cIndexAddr P n dst t x i
  | .convert s t x => cConv P pol n dst s t x
  | .call c => cCall P pol n dst c
  | o => cGen P pol n dst o

noncomputable def cG (ops : Array Oper) (chk : Bool) (o : Oper) : Box (CO) := match o.guard with
  | none => cOp P pol n chk o.dst o.op
  | some (j, want) => (match (ops[j]?).bind (·.dst) with
    | some i => ⟨fun cc nm k T F => match (cR n (.tmp i)).f T with
      | .bool b => bif (bif b then want else !want) then (cOp P pol n chk o.dst o.op).f cc nm k T F else k ((cP n o.dst).f T nov) F
      | .tuple [] => k ((cP n o.dst).f T nov) F
      | _ => .no⟩
    | none => ⟨fun _ _ _ _ _ => .no⟩)
noncomputable def cOps (ops : Array Oper) (l : List Oper) : Box (FC → KT) :=
  List.rec (motive := fun _ => Box (FC → KT)) ⟨fun _ T F => .nrm T F⟩ (fun o _ ih => ⟨fun cc T F => (cG P pol n ops false o).f cc F.next (ih.f cc) T F⟩) l

noncomputable def fpG (lim nm : Nat) (g g1 : Get) (nx : Nat) (r : Operand → V) (o : Oper) : FP :=
  if quietOp o.op then .quiet else if farOp o.op then .all else
  match evX P g r nm o.op with
  | some (.val _ w) => .ids (idsOf 0 r (atN o nm)) (idsL w.toList) (match w.toList with
      | [(f, s, _)] => Nat.beq f 0 && Nat.beq s nm && (g 0 nm).isNone
      | _ => false)
  | none => (match moreOp P g r nm o.op with
    | some (_, ws) => .ids (idsOf 0 r (atN o nm)) (idsL ws) (match ws with
      | [(f, s, _)] => Nat.beq f 0 && Nat.beq s nm && (g 0 nm).isNone
      | _ => false)
    | none => .all)
  | some (.call _ _) => .call (fun f s => Nat.ble lim nx && eqbG (g f s) (g1 f s))
  | _ => .all
noncomputable def consT (fp : FP) (x : FT) : FT := match x with
  | .ok T F l => .ok T F (fp :: l)
  | .no => .no
noncomputable def oneT (x : FO) (k : TM → FH → FT) : FT := match x with
  | .nrm T F => k T F
  | _ => .no
noncomputable def cOpsT (ops : Array Oper) (l : List Oper) : Box (FC → Nat → Nat → TM → FH → FT) :=
  List.rec (motive := fun _ => Box (FC → Nat → Nat → TM → FH → FT)) ⟨fun _ _ _ T F => .ok T F []⟩
    (fun o _ ih => match o.guard with
      | none => ⟨fun cc lim nm T F => oneT ((cOp P pol n true o.dst o.op).f cc nm (fun T F => .nrm T F) T F) fun T1 F1 =>
          consT (fpG P lim nm (getF F) (getF F1) F.next (fun x => (cR n x).f T) o) (ih.f cc lim (Nat.succ nm) T1 F1)⟩
      | some (j, want) => (match (ops[j]?).bind (·.dst) with
        | some i => ⟨fun cc lim nm T F => match (cR n (.tmp i)).f T with
          | .bool b => bif (bif b then want else !want) then oneT ((cOp P pol n true o.dst o.op).f cc nm (fun T F => .nrm T F) T F) fun T1 F1 =>
              consT (fpG P lim nm (getF F) (getF F1) F.next (fun x => (cR n x).f T) o) (ih.f cc lim (Nat.succ nm) T1 F1)
            else consT .quiet (ih.f cc lim (Nat.succ nm) ((cP n o.dst).f T nov) F)
          | .tuple [] => consT .quiet (ih.f cc lim (Nat.succ nm) ((cP n o.dst).f T nov) F)
          | _ => .no⟩
        | none => ⟨fun _ _ _ _ _ => .no⟩)) l
noncomputable def endT (bef : Array Nat) (x : FT) : FO := match x with
  | .ok T F l => bif okT bef (loud l) then .nrm T F else .no
  | .no => .no
noncomputable def cReg (ops : Array Oper) (draw : Bool) : Box (FC → KT) :=
  bif draw then ⟨fun cc T F => match F.tr.get (F.next + ops.size) with
    | none => endT (Region.before ops) ((cOpsT P pol n ops ops.toList).f cc (F.next + ops.size) F.next T (setF F (F.next + ops.size) .dead))
    | some _ => .no⟩ else cOps P pol n ops ops.toList

/-! ### Code -/
noncomputable def seqK (x : FO) (k : TM → FH → FO) : FO := FO.rec (motive := fun _ => FO) .no k (fun i T F => .exi i T F) (fun T F => .ret T F) (fun v T F => .pan v T F) x
noncomputable def blockK (id : Nat) (x : FO) : FO := FO.rec (motive := fun _ => FO) .no (fun T F => .nrm T F) (fun i T F => Bool.rec (motive := fun _ => FO) (.exi i T F) (.nrm T F) (Nat.beq i id)) (fun T F => .ret T F) (fun v T F => .pan v T F) x
noncomputable def floop (body : TM → FH → FO) (m : Nat) : TM → FH → FO :=
  Nat.rec (motive := fun _ => TM → FH → FO) (fun _ _ => .no) (fun _ ih T F => seqK (body T F) ih) m

abbrev CB := FC → Nat → KT
variable (fn : Nat)

noncomputable def loopEndF (s : Nat) (T : TM) (F : FH) : FO := match F.tr.get s with
  | some (.loop st pend _ _ _) => bif Nat.beq st 1 then .no else
      (match pend with
      | none => .nrm T (setF F s .dead)
      | some none => .ret T (setF F s .dead)
      | some (some i) => .exi i T (setF F s .dead))
  | _ => .no
noncomputable def rangeK (x : FR) (s : Nat) (T : TM) : FO := match x with
  | .ret _ F => loopEndF s T F
  | _ => .no

noncomputable def comp (c : Code) : Box (CB) × Box (FC → Nat → V → Option (Nat × Nat × O) → KT) :=
  Code.rec (motive := fun _ => Box (CB) × Box (FC → Nat → V → Option (Nat × Nat × O) → KT))
    (⟨fun _ _ T F => .nrm T F⟩, ⟨fun _ _ _ _ _ _ => .no⟩)
    (fun _ ops draw => (⟨fun cc _ T F => (cReg P pol n ops draw).f cc T F⟩, match ops.toList with
      | o :: r => ⟨fun cc _ v w T F => (cOps P pol n ops r).f cc ((cP n o.dst).f T v) (wrF F w)⟩
      | [] => ⟨fun _ _ _ _ _ _ => .no⟩))
    (fun _ _ ia ib => (⟨fun cc m T F => seqK (ia.1.f cc m T F) (ib.1.f cc m)⟩, ⟨fun cc m v w T F => seqK (ia.2.f cc m v w T F) (ib.1.f cc m)⟩))
    (fun c _ _ ia ib => (⟨fun cc m T F => boolK ((cR n c).f T) (ia.1.f cc m T F) (ib.1.f cc m T F)⟩, ⟨fun _ _ _ _ _ _ => .no⟩))
    (fun id _ ib => (⟨fun cc m T F => blockK id (ib.1.f cc m T F)⟩, ⟨fun _ _ _ _ _ _ => .no⟩))
    (fun b ib => (match headNext b with
      | none => ⟨fun cc m T F => floop (ib.1.f cc m) m T F⟩
      | some x => ⟨fun cc m T F => floop (fun T F => match nextC (getF F) ((cR n x).f T) with
          | some [c] => ib.2.f cc m c.1 c.2 T F
          | _ => .no) m T F⟩, ⟨fun _ _ _ _ _ _ => .no⟩))
    (fun g _ a b _ _ => (⟨fun cc _ T F => match (cR n g).f T with
        | .func (.func f) first cap => rangeK (cc (some f) (first ++ [.yield 0 F.next] ++ cap) (setF F F.next (.loop 0 none fn (loopId a b) (toL T n 0)))) F.next T
        | _ => .no⟩, ⟨fun _ _ _ _ _ _ => .no⟩))
    (fun id => (⟨fun _ _ T F => .exi id T F⟩, ⟨fun _ _ _ _ _ _ => .no⟩))
    (fun _ _ => (⟨fun _ _ _ _ => .no⟩, ⟨fun _ _ _ _ _ _ => .no⟩))
    (fun _ => (⟨fun _ _ _ _ => .no⟩, ⟨fun _ _ _ _ _ _ => .no⟩))
    (fun _ => (⟨fun _ _ _ _ => .no⟩, ⟨fun _ _ _ _ _ _ => .no⟩))
    (⟨fun _ _ T F => .ret T F⟩, ⟨fun _ _ _ _ _ _ => .no⟩)
    (fun _ => (⟨fun _ _ _ _ => .no⟩, ⟨fun _ _ _ _ _ _ => .no⟩)) c

noncomputable def resO (P : Program) (n : Nat) (x : ResultVar) : Box (TM → FH → Option V) := match x with
  | .tmp i => ⟨fun T _ => some ((cR n (.tmp i)).f T)⟩
  | .cell a t => ⟨fun T F => match (cR n (.tmp a)).f T with
    | .ptr f s o => (match getF F f s with
      | some (.cells xs) => (cRead P t).f xs o
      | _ => none)
    | _ => none⟩
noncomputable def resF (l : List ResultVar) : Box (TM → FH → Option (List V)) :=
  List.rec (motive := fun _ => Box (TM → FH → Option (List V))) ⟨fun _ _ => some []⟩ (fun x _ ih => ⟨fun T F => match (resO P n x).f T F, ih.f T F with
    | some v, some vs => some (v :: vs)
    | _, _ => none⟩) l
noncomputable def retK (v : Option (List V)) (F : FH) : FR := match v with
  | some [v] => .ret v F
  | some vs => .ret (.tuple vs) F
  | none => .no
noncomputable def endF (rs : List ResultVar) (x : FO) : FR := match x with
  | .nrm T F => retK ((resF P n rs).f T F) F
  | .ret T F => retK ((resF P n rs).f T F) F
  | .pan v _ F => .pan v F
  | _ => .no
end

inductive FD where
  | no
  | ok (x : FO) (ds : List V)
def FO.plain : FO → FD
  | .no => .no
  | x => .ok x []
section
variable (P : Program) (pol : Pol)
noncomputable def compD (n fn : Nat) (cc : FC) (m : Nat) : Code → TM → FH → FD
  | .seq a b, T, F => (match deferOf a with
    | some (ops, l, d, x) => (match (cOps P pol n ops l).f cc T F with
      | .nrm T1 F1 => (match (cR n x).f T1 with
        | .func f p q => (match compD n fn cc m b ((cP n d).f T1 nov) F1 with
          | .ok y ds => .ok y (ds ++ [.func f p q])
          | .no => .no)
        | _ => .no)
      | _ => .no)
    | none => bif (loopIds a).isEmpty then (match (comp P pol n fn a).1.f cc m T F with
        | .nrm T1 F1 => compD n fn cc m b T1 F1
        | y => y.plain)
      else ((comp P pol n fn (.seq a b)).1.f cc m T F).plain)
  | c, T, F => ((comp P pol n fn c).1.f cc m T F).plain
noncomputable def runDsF (cc : FC) : List V → FH → Option FH
  | [], F => some F
  | .func (.func g) first cap :: ds, F => bif plainF P g then (match cc (some g) (first ++ cap) F with
    | .ret _ F' => runDsF cc ds F'
    | _ => none) else none
  | _, _ => none
noncomputable def endD (n : Nat) (rs : List ResultVar) (cc : FC) (x : FD) : FR := match x with
  | .ok (.nrm T F) ds | .ok (.ret T F) ds => (match runDsF P cc ds F with
    | some F2 => retK ((resF P n rs).f T F2) F2
    | none => .no)
  | _ => .no
end
section
variable (P : Program) (pol : Pol)
noncomputable def compFn (f : FuncId) : Box (FC → Nat → List V → FH → FR) := match P.funcs[f]? with
  | some Fn => (match Fn.body with
    | some c => bif Nat.blt 1056 Fn.ntmps then ⟨fun _ _ _ _ => .no⟩ else bif deferC c then
        ⟨fun cc m args F => bif Nat.ble args.length Fn.ntmps then endD P Fn.ntmps Fn.results.toList cc (compD P pol Fn.ntmps f cc m c (ofL args 0 emp) F) else .no⟩ else
        ⟨fun cc m args F => bif Nat.ble args.length Fn.ntmps then endF P Fn.ntmps Fn.results.toList ((comp P pol Fn.ntmps f c).1.f cc m (ofL args 0 emp) F) else .no⟩
    | none => ⟨fun _ _ _ _ => .no⟩)
  | none => ⟨fun _ _ _ _ => .no⟩

noncomputable def roundEndF (so : Nat) (x : FO) : FR := 
  match x with
  | .nrm _ F => (match F.tr.get so with
    | some (.loop _ _ fL rid t0) => .ret (.bool true) (setF F so (.loop 0 none fL rid t0))
    | _ => .no)
  | .ret _ F => (match F.tr.get so with
    | some (.loop _ _ fL rid t0) => .ret (.bool false) (setF F so (.loop 2 (some none) fL rid t0))
    | _ => .no)
  | .exi i _ F => (match F.tr.get so with
    | some (.loop _ _ fL rid t0) => .ret (.bool false) (setF F so (.loop 2 (some (some i)) fL rid t0))
    | _ => .no)
  | _ => .no
noncomputable def putA (n : Nat) (ps : List Tmp) : List V → TM → TM :=
  List.rec (motive := fun _ => List V → TM → TM) (fun _ T => T) (fun p _ ih l T => match l with
    | v :: l => ih l ((cP n (some p)).f T v)
    | [] => T) ps
noncomputable def midR (so : Nat) (x : FO) (k : TM → FH → FO) : FR := match x with
  | .nrm T1 F1 => (match F1.tr.get so with
    | some (.loop 0 pend fL rid t0) => roundEndF so (k T1 (setF F1 so (.loop 1 pend fL rid t0)))
    | _ => .no)
  | _ => .no
noncomputable def compR (fL rid : Nat) : Box (FC → Nat → Nat → List V → List V → FH → FR) := match P.funcs[fL]?, loopAt P fL rid with
  | some Fn, some (ps, a, b) => bif Nat.blt 1056 Fn.ntmps then ⟨fun _ _ _ _ _ _ => .no⟩ else
      ⟨fun cc m so t0 args F => bif Nat.beq args.length ps.size && Nat.beq t0.length Fn.ntmps then
        midR so ((comp P pol Fn.ntmps fL a).1.f cc m (putA Fn.ntmps ps.toList args (ofL t0 0 emp)) F) ((comp P pol Fn.ntmps fL b).1.f cc m) else .no⟩
  | _, _ => ⟨fun _ _ _ _ _ _ => .no⟩
noncomputable def roundF (cc : FC) (m : Nat) (fo so : Nat) (args : List V) (F : FH) : FR := match fo with
  | 0 => (match F.tr.get so with
    | some (.loop 0 _ fL rid t0) => (compR P pol fL rid).f cc m so t0 args F
    | _ => .no)
  | Nat.succ _ => .no

noncomputable def fcall (m : Nat) : FC :=
  Nat.rec (motive := fun _ => FC) (fun _ _ _ => .no) (fun m ih f args F => match f with
    | some f => (compFn P pol f).f ih m args F
    | none => (match args with
      | .yield fo so :: rest => roundF P pol ih m fo so rest F
      | _ => .no)) m

noncomputable def isTrue (x : FR) : Bool := match x with
  | .ret (.bool b) _ => b
  | _ => false
end

end Go.AM.BM
end
section
/- dev: what its functions answer, as functions on values. -/
namespace Go.AM.BM

def isNumB : V → Bool
  | .int _ _ => true
  | _ => false
def rowOk (v : V) : Bool := match v with
  | .islice c n _ => Nat.beq n 256 && (Nat.beq c.length 256 && c.all isNumB)
  | _ => false
def rowC : V → List V
  | .islice c _ _ => c
  | _ => []
def waitsOk : List V → Bool
  | [] => true
  | .int .i64 a :: v :: r => decide (0 ≤ a) && decide (a < 256) && rowOk v && waitsOk r
  | _ => false
def waitsC : V → Option (List V × Nat)
  | .nilslice => some ([], 0)
  | .islice cs n _ => if Nat.beq cs.length (n * 2) && Nat.ble n 4096 && waitsOk cs then some (cs, n) else none
  | _ => none
def blocksC : V → Option (List V)
  | .islice rv n _ => if Nat.beq n 256 && Nat.beq rv.length 256 && rv.all rowOk then some rv else none
  | _ => none
def newRow (fl : Bool) (v : V) : V := .islice (rowC v) 256 fl
def newWaits : List V → List V
  | a :: v :: r => a :: newRow false v :: newWaits r
  | l => l
def mkDisk (rv cs : List V) (n : Nat) : V := .agg [.islice (rv.map (newRow true)) 256 false, if n = 0 then .nilslice else .islice (newWaits cs) n false]
def kTwin : List V → Option V
  | [.agg [bv, wv]] => (match blocksC bv, waitsC wv with
    | some rv, some (cs, n) => some (mkDisk rv cs n)
    | _, _ => none)
  | _ => none
def applyW : List V → List V → List V
  | .int _ a :: v :: r, rv => applyW r (rv.set a.toNat v)
  | _, rv => rv
def kLeft (all : FuncId) : List V → Option V
  | [.agg [bv, wv], .func (.func f) [] []] => if Nat.beq f all then (match blocksC bv, waitsC wv with
    | some rv, some (cs, _) => some (mkDisk (applyW cs rv) [] 0)
    | _, _ => none) else none
  | _ => none
def kCheck : List V → Option V
  | [.agg [.nilslice, .nilslice]] => some (.int .i64 8)
  | [.agg [bv, wv]] => (match blocksC bv, waitsC wv with
    | some _, some _ => some (.int .i64 0)
    | _, _ => none)
  | _ => none
def zeroRow : List V := List.replicate 256 (.int .u8 0)
def kNew : List V → Option V
  | [] => some (.agg [.islice (List.replicate 256 (.islice zeroRow 256 true)) 256 false, .nilslice])
  | _ => none
/-! ### Sums -/
structure W4 where
  a : Nat
  b : Nat
  c : Nat
  d : Nat
noncomputable def add32 (x y : Nat) : Nat := Nat.mod (Nat.add x y) (nat_lit 4294967296)
noncomputable def rot32 (x k : Nat) : Nat := Nat.lor (Nat.mod (Nat.shiftLeft x k) (nat_lit 4294967296)) (Nat.shiftRight x (Nat.sub (nat_lit 32) k))
noncomputable def force {α : Type} (x : Nat) (k : Nat → α) : α := Nat.rec (motive := fun _ => α) (k (nat_lit 0)) (fun m _ => k (Nat.succ m)) x
noncomputable def halfW (far near : Nat) (x : W4) : W4 :=
  force (add32 x.a x.b) fun a => force (rot32 (Nat.xor x.d a) far) fun d => force (add32 x.c d) fun c => force (rot32 (Nat.xor x.b c) near) fun b => ⟨a, b, c, d⟩
noncomputable def turnedW (x : W4) : W4 := halfW (nat_lit 9) (nat_lit 6) (halfW (nat_lit 15) (nat_lit 11) x)
noncomputable def oftenW (n : Nat) : W4 → W4 := Nat.rec (motive := fun _ => W4 → W4) (fun x => x) (fun _ ih x => ih (turnedW x)) n
noncomputable def numV (v : V) : Nat := vInt v (fun _ m => Int.rec (motive := fun _ => Nat) (fun a => a) (fun _ => nat_lit 0) m) (nat_lit 0)
noncomputable def num4 (w x y z : V) : Nat := Nat.add (numV w) (Nat.mul (nat_lit 256) (Nat.add (numV x) (Nat.mul (nat_lit 256) (Nat.add (numV y) (Nat.mul (nat_lit 256) (numV z))))))
noncomputable def chunksW (n : Nat) : List V → W4 → W4 := Nat.rec (motive := fun _ => List V → W4 → W4) (fun _ x => x) (fun _ ih l x => match l with
    | a :: b :: c :: d :: e :: f :: g :: h :: r => force (Nat.xor x.a (num4 a b c d)) fun p => force (Nat.xor x.c (num4 e f g h)) fun q => ih r (oftenW (nat_lit 4) ⟨p, x.b, q, x.d⟩)
    | _ => x) n
noncomputable def pad8 (l : List V) : List V := l ++ .int .u8 1 :: List.replicate ((8 - (l.length + 1) % 8) % 8) (.int .u8 0)
noncomputable def fourW (l : List V) : W4 := match chunksW (l.length + 1) (pad8 l) ⟨1, 2, 3, 4⟩ with
  | x => oftenW (nat_lit 8) ⟨x.a, Nat.xor x.b l.length, x.c, x.d⟩
def isByteB : V → Bool
  | .int .u8 (.ofNat n) => Nat.blt n 256
  | _ => false
def bytesC : V → Option (List V)
  | .nilslice => some []
  | .islice c n _ => if Nat.beq c.length n && (Nat.ble n 1048576 && c.all isByteB) then some c else none
  | _ => none
noncomputable def kSum : List V → Option V
  | [x] => (match bytesC x with
    | some l => some (.int .u32 (Int.ofNat (fourW l).a))
    | none => none)
  | _ => none
noncomputable def maxV (l : List V) : Nat → Nat := List.rec (motive := fun _ => Nat → Nat) (fun m => m) (fun v _ ih m => Bool.rec (motive := fun _ => Nat) (ih m) (ih (numV v)) (Nat.ble (Nat.succ m) (numV v))) l
noncomputable def kMax : List V → Option V
  | [x] => (match bytesC x with
    | some (v :: l) => some (.int .u8 (Int.ofNat (maxV l (numV v))))
    | _ => none)
  | _ => none
end Go.AM.BM
end
section
/- Entries of a map that are stored one by one, in any order: plain lemmas. -/
namespace Go.AM

def apply1 (L : List (Int × V)) (c : List V) (b : Nat) : List V := match L[b]? with
  | some (k, v) => c.set k.toNat v
  | none => c
def applyS (L : List (Int × V)) (seen : List Nat) (rv : List V) : List V := seen.foldl (apply1 L) rv
theorem applyS_snoc (L : List (Int × V)) (seen : List Nat) (b : Nat) (rv : List V) (k : Int) (v : V) (h : L[b]? = some (k, v)) : applyS L (seen ++ [b]) rv = (applyS L seen rv).set k.toNat v := by
  simp only [applyS, List.foldl_append, List.foldl_cons, List.foldl_nil, apply1, h]
theorem applyS_length (L : List (Int × V)) : ∀ (seen : List Nat) (rv : List V), (applyS L seen rv).length = rv.length
  | [], rv => rfl
  | b :: seen, rv => by
    show (applyS L seen (apply1 L rv b)).length = _
    rw [applyS_length L seen]
    unfold apply1
    split
    · rw [List.length_set]
    · rfl
theorem applyS_miss (L : List (Int × V)) (i : Nat) : ∀ (seen : List Nat) (rv : List V), (∀ b ∈ seen, ∀ k v, L[b]? = some (k, v) → k.toNat ≠ i) → (applyS L seen rv)[i]? = rv[i]?
  | [], rv, _ => rfl
  | b :: seen, rv, h => by
    show (applyS L seen (apply1 L rv b))[i]? = _
    rw [applyS_miss L i seen _ (fun c hc => h c (List.mem_cons_of_mem _ hc))]
    unfold apply1
    split
    · rename_i k v hk
      rw [List.getElem?_set, if_neg (h b (by simp) k v hk)]
    · rfl
theorem applyS_hit (L : List (Int × V)) (hd : ∀ (b c : Nat) (k : Int) (v w : V), L[b]? = some (k, v) → L[c]? = some (k, w) → b = c) (h0 : ∀ (b : Nat) (k : Int) (v : V), L[b]? = some (k, v) → 0 ≤ k) {b : Nat} {k : Int} {v : V} (hL : L[b]? = some (k, v)) :
    ∀ (seen : List Nat) (rv : List V), b ∈ seen → k.toNat < rv.length → (applyS L seen rv)[k.toNat]? = some v
  | [], _, h, _ => by cases h
  | c :: seen, rv, h, hi => by
    show (applyS L seen (apply1 L rv c))[k.toNat]? = _
    by_cases hs : b ∈ seen
    · refine applyS_hit L hd h0 hL seen _ hs ?_
      unfold apply1
      split
      · rw [List.length_set]; exact hi
      · exact hi
    · have hc : b = c := by
        rcases List.mem_cons.1 h with h | h
        · exact h
        · exact absurd h hs
      subst hc
      rw [applyS_miss L]
      · simp only [apply1, hL]
        rw [List.getElem?_set, if_pos rfl, if_pos hi]
      · intro c hcs k' v' hk' e
        have : k' = k := by have := h0 _ _ _ hL; have := h0 _ _ _ hk'; omega
        subst this
        exact hs (hd _ _ _ _ _ hL hk' ▸ hcs)
theorem applyS_all (L : List (Int × V)) (hd : ∀ (b c : Nat) (k : Int) (v w : V), L[b]? = some (k, v) → L[c]? = some (k, w) → b = c) (h0 : ∀ (b : Nat) (k : Int) (v : V), L[b]? = some (k, v) → 0 ≤ k) (seen : List Nat) (hall : ∀ b, b < L.length → b ∈ seen) (rv : List V) (hk : ∀ (b : Nat) (k : Int) (v : V), L[b]? = some (k, v) → k.toNat < rv.length) :
    applyS L seen rv = applyS L (List.range L.length) rv := by
  apply List.ext_getElem?
  intro i
  by_cases h : ∃ (b : Nat) (k : Int) (v : V), L[b]? = some (k, v) ∧ k.toNat = i
  · obtain ⟨b, k, v, hL, rfl⟩ := h
    have hb : b < L.length := (List.getElem?_eq_some_iff.1 hL).1
    rw [applyS_hit L hd h0 hL seen rv (hall b hb) (hk _ _ _ hL), applyS_hit L hd h0 hL _ rv (List.mem_range.2 hb) (hk _ _ _ hL)]
  · have hm : ∀ s : List Nat, ∀ b ∈ s, ∀ k v, L[b]? = some (k, v) → k.toNat ≠ i := fun s b _ k v hL e => h ⟨b, k, v, hL, e⟩
    rw [applyS_miss L i _ _ (hm _), applyS_miss L i _ _ (hm _)]

theorem leftE_mem (seen : List Nat) : ∀ (es : List (V × V)) (i : Nat) (x : (V × V) × Nat), x ∈ leftE seen es (List.range' i es.length) → i ≤ x.2 ∧ es[x.2 - i]? = some x.1 ∧ x.2 ∉ seen
  | [], _, x, h => by cases h
  | e :: es, i, x, h => by
    simp only [List.length_cons, List.range'_succ, leftE] at h
    have next : x ∈ leftE seen es (List.range' (i + 1) es.length) → i ≤ x.2 ∧ (e :: es)[x.2 - i]? = some x.1 ∧ x.2 ∉ seen := by
      intro h
      obtain ⟨h1, h2, h3⟩ := leftE_mem seen es (i + 1) x h
      refine ⟨by omega, ?_, h3⟩
      have e : x.2 - i = (x.2 - (i + 1)) + 1 := by omega
      rw [e]; exact h2
    split at h
    · exact next h
    · rename_i hc
      rcases List.mem_cons.1 h with rfl | h
      · exact ⟨Nat.le_refl _, by simp, by simpa using hc⟩
      · exact next h
theorem leftE_nil (seen : List Nat) : ∀ (es : List (V × V)) (i : Nat), leftE seen es (List.range' i es.length) = [] → ∀ b, i ≤ b → b < i + es.length → b ∈ seen
  | [], _, _, b, h1, h2 => by simp at h2; omega
  | e :: es, i, h, b, h1, h2 => by
    simp only [List.length_cons, List.range'_succ, leftE] at h h2
    split at h
    · rename_i hc
      by_cases e : b = i
      · subst e; simpa using hc
      · exact leftE_nil seen es (i + 1) h b (by omega) (by omega)
    · cases h
theorem leftE_le (seen : List Nat) (c : Nat) : ∀ (es : List (V × V)) (bs : List Nat), (leftE (seen ++ [c]) es bs).length ≤ (leftE seen es bs).length
  | [], bs => by cases bs <;> simp [leftE]
  | e :: es, [] => by simp [leftE]
  | e :: es, b :: bs => by
    have := leftE_le seen c es bs
    simp only [leftE]
    split <;> split
    · exact this
    · simp only [List.length_cons]; omega
    · rename_i h1 h2
      simp at h1 h2
      exact absurd h2 h1.1
    · simp only [List.length_cons]; omega
theorem leftE_less (seen : List Nat) (x : (V × V) × Nat) : ∀ (es : List (V × V)) (bs : List Nat), x ∈ leftE seen es bs → (leftE (seen ++ [x.2]) es bs).length < (leftE seen es bs).length
  | [], bs, h => by cases bs <;> simp [leftE] at h
  | e :: es, [], h => by simp [leftE] at h
  | e :: es, b :: bs, h => by
    have le := leftE_le seen x.2 es bs
    simp only [leftE] at h ⊢
    by_cases hb : seen.contains b = true
    · have hb2 : (seen ++ [x.2]).contains b = true := by simp at hb ⊢; exact .inl hb
      simp only [hb, hb2, if_true] at h ⊢
      exact leftE_less seen x es bs h
    · simp only [hb, Bool.false_eq_true, if_false] at h ⊢
      rcases List.mem_cons.1 h with rfl | h
      · have : (seen ++ [b]).contains b = true := by simp
        simp only [this, if_true, List.length_cons]
        simp only at le
        omega
      · have := leftE_less seen x es bs h
        split <;> simp only [List.length_cons] <;> omega
theorem entryAt_at (b : Nat) : ∀ (es : List (V × V)) (i : Nat), i ≤ b → entryAt b es (List.range' i es.length) = es[b - i]?
  | [], i, h => by simp [entryAt]
  | e :: es, i, h => by
    simp only [List.length_cons, List.range'_succ, entryAt]
    split
    · rename_i q; subst q; simp
    · have q : b - i = (b - (i + 1)) + 1 := by omega
      rw [q, entryAt_at b es (i + 1) (by omega)]; rfl
end Go.AM
end
section
/- code: what its functions answer, as functions on values. -/
namespace Go.AM.BM

def slC : V → Option (List V × Nat)
  | .nilslice => some ([], 0)
  | .islice c n _ => if Nat.beq c.length n && Nat.ble n 1048576 then some (c, n) else none
  | _ => none
def numC : List V → Option Nat
  | [] => some 0
  | .int .u8 (.ofNat b) :: r => if Nat.blt b 256 then (match numC r with
    | some n => some (Nat.add b (Nat.mul 256 n))
    | none => none) else none
  | _ => none
def kGet : List V → Option V
  | [x, .int .i64 (.ofNat a), .int .i64 (.ofNat k)] => (match slC x with
    | some (c, n) => if Nat.ble a 1048576 && Nat.ble k 1048576 then
        (if Nat.beq k 0 || (Nat.blt 4 k || Nat.blt n a) then some (.tuple [.int .i64 (.ofNat 0), .int .i64 (.ofNat 2)])
         else if Nat.blt n (Nat.add a k) then some (.tuple [.int .i64 (.ofNat 0), .int .i64 (.ofNat 8)])
         else (match numC ((c.drop a).take k) with
           | some m => some (.tuple [.int .i64 (.ofNat m), .int .i64 (.ofNat 0)])
           | none => none)) else none
    | none => none)
  | _ => none
def bytesN (n : Nat) : Nat → List V
  | 0 => []
  | k + 1 => .int .u8 (.ofNat (Nat.mod n 256)) :: bytesN (Nat.div n 256) k
noncomputable def keyC (x : W4) : List V := bytesN x.a 4 ++ (bytesN x.b 4 ++ (bytesN x.c 4 ++ bytesN x.d 4))
noncomputable def kKey : List V → Option V
  | [x] => (match bytesC x with
    | some l => some (.islice (keyC (fourW l)) 16 false)
    | none => none)
  | _ => none
end Go.AM.BM
end
section
/- The machine for closed laws, part 29: the library's functions without a body. -/
namespace Go.AM.BM

section
variable {P : Program} {E : Env} {B : Nat} {F : Nat → Nat → Prop} {H : Heap}
theorem invokes_am {f : FuncId} {args : Array Value} {w : World} {v : V} {x : Option (Nat × Nat × O)} (one : H.length = 1) (h : AM.Invokes P f args w (AM.Answer B F H E (.ret v) (wr H x))) : Invokes P f args w (Answer B F H E (.ret v) (wr H x)) := by
  have key : ∀ e w', AM.Answer B F H E (.ret v) (wr H x) e w' → Answer B F H E (.ret v) (wr H x) e w' := by
    rintro e w' ⟨E', h1, h2, h3, h4, h5⟩
    rw [one] at h4
    exact ⟨E', h1, h2, h3, h4, by rw [AM.wr_length]; exact one⟩
  rcases h with ⟨u, w', h1, h2⟩ | ⟨j, h1, h2⟩
  · exact .inl ⟨u, w', h1, key _ _ h2⟩
  · exact .inr ⟨j, h1, h2.mono key⟩

theorem bytesV_le {G G' : Get} (h : GLe G G') {x : V} {l : List UInt8} (e : bytesV G x = some l) : bytesV G' x = some l := by
  unfold bytesV at e ⊢
  split at e
  · exact e
  · rename_i y hy
    cases hs : sliceCells G 1 x with
    | none => rw [hs] at e; cases e
    | some q =>
      rw [hs] at e
      have hs' : sliceCells G' 1 x = some q := by
        exact sliceCells_mono h hs
      rw [hs']; exact e
theorem primCount_tame (nm : Nat) (G G' : Get) (args : List V) (v : V) (w : Option (Nat × Nat × O)) (h : GLe G G') (e : primCount 0 (some nm) G args = some (v, w)) :
    primCount 0 (some nm) G' args = some (v, w) ∧ ∀ x ∈ w.toList, (∃ y, G x.1 x.2.1 = some y) ∨ (x.1 = 0 ∧ x.2.1 = nm) := by
  unfold primCount at e ⊢
  split at e
  case h_2 => cases e
  rename_i y c
  split at e
  case h_2 => cases e
  rename_i l hl
  cases e
  exact ⟨by simp only [bytesV_le h hl], fun x hx => by cases hx⟩
theorem primIndexByte_tame (nm : Nat) (G G' : Get) (args : List V) (v : V) (w : Option (Nat × Nat × O)) (h : GLe G G') (e : primIndexByte 0 (some nm) G args = some (v, w)) :
    primIndexByte 0 (some nm) G' args = some (v, w) ∧ ∀ x ∈ w.toList, (∃ y, G x.1 x.2.1 = some y) ∨ (x.1 = 0 ∧ x.2.1 = nm) := by
  unfold primIndexByte at e ⊢
  split at e
  case h_2 => cases e
  rename_i y c
  split at e
  case h_2 => cases e
  rename_i l hl
  cases e
  exact ⟨by simp only [bytesV_le h hl], fun x hx => by cases hx⟩
theorem primCompare_tame (nm : Nat) (G G' : Get) (args : List V) (v : V) (w : Option (Nat × Nat × O)) (h : GLe G G') (e : primCompare 0 (some nm) G args = some (v, w)) :
    primCompare 0 (some nm) G' args = some (v, w) ∧ ∀ x ∈ w.toList, (∃ y, G x.1 x.2.1 = some y) ∨ (x.1 = 0 ∧ x.2.1 = nm) := by
  unfold primCompare at e ⊢
  split at e
  case h_2 => cases e
  rename_i y z
  split at e
  case h_2 => cases e
  rename_i l r hl hr
  cases e
  exact ⟨by simp only [bytesV_le h hl, bytesV_le h hr], fun x hx => by cases hx⟩
theorem primMake_tame (nm : Nat) (G G' : Get) (args : List V) (v : V) (w : Option (Nat × Nat × O)) (h : GLe G G') (hn : G' 0 nm = G 0 nm) (e : primMake 0 (some nm) G args = some (v, w)) :
    primMake 0 (some nm) G' args = some (v, w) ∧ ∀ x ∈ w.toList, (∃ y, G x.1 x.2.1 = some y) ∨ (x.1 = 0 ∧ x.2.1 = nm) := by
  unfold primMake at e ⊢
  split at e
  case h_2 => cases e
  rename_i n d he
  cases he
  split at e
  case h_2 => cases e
  rename_i hg
  split at e
  case isFalse => cases e
  rename_i hc
  cases e
  refine ⟨by simp only [hn, hg]; rw [if_pos hc], fun x hx => ?_⟩
  simp only [Option.toList, List.mem_singleton] at hx
  subst hx
  exact .inr ⟨rfl, rfl⟩
end
end Go.AM.BM
end
