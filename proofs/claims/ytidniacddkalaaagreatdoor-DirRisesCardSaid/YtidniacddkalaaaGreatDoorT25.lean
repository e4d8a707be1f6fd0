/- This file holds in one the texts Bf2, DK, TP, An51, TP2, TP3, DK2; each says at its head what it proves. -/
import Derived.Test.YtidniacddkalaaaGreatDoorT13
import Derived.Test.YtidniacddkalaaaGreatDoorT16
import Derived.Test.YtidniacddkalaaaGreatDoorT17
import Derived.Test.YtidniacddkalaaaGreatDoorT23
import Derived.Test.YtidniacddkalaaaGreatDoorT24
set_option linter.unusedSimpArgs false
set_option linter.unusedVariables false
section
namespace Go.AM.BM
section
variable (P : Program) (pol : Pol) (n : Nat)
noncomputable def cR:Operand->Box (TM->V)
 | .tmp i=>bif Nat.blt i n then gC i else⟨fun _=> .bad⟩
 | .const v=>⟨fun _=>Z0 v⟩
 | .global _=>⟨fun _=> .bad⟩
 | .func f=>⟨fun _=> .func (.func f) [] []⟩
noncomputable def cP:Option Nat->Box (TM->V->TM)
 |none=>⟨fun T _=>T⟩
 |some i=>bif Nat.blt i n then sC i else⟨fun T _=>T⟩
noncomputable def cL(l:List Operand):Box (TM->List V):=
 List.rec (motive:=fun _=>Box (TM->List V)) ⟨fun _=>[]⟩ (fun x _ ih=>⟨fun T=>(cR n x).f T::ih.f T⟩) l
abbrev KT:=TM->FH->FO
abbrev CO:=FC->Nat->KT->KT
noncomputable def Qkl(o:Option V)(k:V->FO):FO:=Option.rec (motive:=fun _=>FO) .no k o
noncomputable def resK(x:FR)(T:TM)(k:V->FH->FO):FO:=FR.rec (motive:=fun _=>FO) .no k (fun v F=> .pan v T F) x
noncomputable def fixF(b:Bool)(x:FR):FR:=match b with
 |false=>x
 |true=>(match x with
  | .ret v F=>(match Qyw (Xy F) v with
    |some (v',w)=> .ret v' (wrF F w)
    |none=> .no)
  |x=>x)
noncomputable def Qjc(cc:FC)(f:FuncId)(args:List V)(F:FH):FR:=match pol.prims f with
 |some g=>(match g F.next (Xy F) args with
  |some x=> .ret x.1 (wrLF F x.2)
  |none=> .no)
 |none=>(match pol.prim f with
  |some g=>(match g 0 (some F.next) (Xy F) args with
   |some x=> .ret x.1 (wrF F x.2)
   |none=> .no)
  |none=>(match Qko (Xy F) (pol.fixA f) args with
   |some (as,w)=>fixF (pol.fix f) (cc (some f) as (wrF F w))
   |none=> .no))
noncomputable def rndK(x:FR)(k:V->FH->FO):FO:=match x with
 | .ret v F=>k v F
 |_=> .no
noncomputable def Qqc(s:Option Zk)(m:Option (V×List (Nat×Nat×O)))(cc:FC)(k:V->FH->FO)(T:TM)(F:FH):FO:=match s with
 |none=>(match m with
  |some (v,ws)=>k v (wrLF F ws)
  |none=> .no)
 |some (.val v w)=>k v (wrF F w)
 |some (.panic v)=> .pan v T F
 |some (.call f args)=>resK (Qjc pol cc f args F) T k
 |some (.round f s args)=>rndK (cc none (.yield f s::args) F) k
noncomputable def Bc(dst:Option Nat)(o:Op):Box (CO):=
 ⟨fun cc nm k T F=>Qqc pol (evX P (Xy F) (fun x=>(cR n x).f T) nm o) (J7 P (Xy F) (fun x=>(cR n x).f T) nm o) cc (fun v F=>k ((cP n dst).f T v) F) T F⟩
noncomputable def Q14(l:List V):Nat->Option V:=
 List.rec (motive:=fun _=>Nat->Option V) (fun _=>none) (fun x _ ih i=>Nat.rec (motive:=fun _=>Option V) (some x) (fun j _=>ih j) i) l
noncomputable def setV(l:List V):Nat->V->List V:=
 List.rec (motive:=fun _=>Nat->V->List V) (fun _ _=>[]) (fun x xs ih i v=>Nat.rec (motive:=fun _=>List V) (v::xs) (fun j _=>x::ih j v) i) l
noncomputable def Q9o(dst:Option Nat)(x:Operand):Box (CO):=⟨fun _ _ k T F=>k ((cP n dst).f T ((cR n x).f T)) F⟩
noncomputable def Qsz(v:V)(a b:FO):FO:=vBool v a b .no
noncomputable def Za5(dst:Option Nat)(c a b:Operand):Box (CO):=
 ⟨fun _ _ k T F=>Qsz ((cR n c).f T) (k ((cP n dst).f T ((cR n a).f T)) F) (k ((cP n dst).f T ((cR n b).f T)) F)⟩
noncomputable def newK(chk:Bool)(F:FH)(nm:Nat)(o:O)(k:FH->FO):FO:=
 Bool.rec (motive:=fun _=>FO) (k (Qh7 F nm o)) (Option.rec (motive:=fun _=>FO) (k (Qh7 F nm o)) (fun _=> .no) (F.tr.get nm)) chk
noncomputable def Q0l(chk:Bool)(dst:Option Nat)(t:TypeId):Box (CO):=match zeroCells P t with
 |some z=>⟨fun _ nm k T F=>newK chk F nm (.cells z) fun F=>k ((cP n dst).f T (.ptr 0 nm 0)) F⟩
 |none=>⟨fun _ _ _ _ _=> .no⟩
noncomputable def Qyj(t:TypeId):Box (List V->Nat->Option V):=match P.underlying t,sz P t with
 |some dd,some m=>bif Qk1 dd then⟨fun xs o=>bif Nat.ble (o+m) xs.length then some (.agg ((xs.drop o).take m)) else none⟩ else⟨Q14⟩
 |_,_=>⟨fun _ _=>none⟩
noncomputable def loadK(rd:List V->Nat->Option V)(v:V)(F:FH)(k:V->FO):FO:=
 vPtr v (fun f s o=>Qon (Xy F f s) (fun xs=>Qkl (rd xs o) k) .no) (fun cs o=>Qkl (rd cs o) k) (fun cs o=>Qkl (rd cs o) k) .no
noncomputable def Q9n(dst:Option Nat)(t:TypeId)(a:Operand):Box (CO):=
 ⟨fun _ _ k T F=>loadK (Qyj P t).f ((cR n a).f T) F fun v=>k ((cP n dst).f T v) F⟩
noncomputable def Zbj(m:Nat)(a x:V)(F:FH)(k:FH->FO):FO:=
 vPtr a (fun f s o=>Q9z x
  (Qon (Xy F f s) (fun xs=>Bool.rec (motive:=fun _=>FO) .no (Option.rec (motive:=fun _=>FO) .no (fun _=>k (wrF F (some (f,s,.cells (setV xs o x))))) (Q14 xs o)) (Nat.beq m (nat_lit 1))) .no)
  (fun cs=>Qon (Xy F f s) (fun xs=>Bool.rec (motive:=fun _=>FO) .no (Bool.rec (motive:=fun _=>FO) .no (k (wrF F (some (f,s,.cells (splice xs o cs))))) (Nat.ble (Nat.add o m) xs.length)) (Nat.beq cs.length m)) .no)
  .no) (fun _ _=> .no) (fun _ _=> .no) .no
noncomputable def Q0s(dst:Option Nat)(t:TypeId)(a x:Operand):Box (CO):=match sz P t with
 |some m=>⟨fun _ _ k T F=>Zbj m ((cR n a).f T) ((cR n x).f T) F fun F=>k ((cP n dst).f T .bad) F⟩
 |none=>⟨fun _ _ _ _ _=> .no⟩
noncomputable def Qja(x y:V)(k:IntKind->Int->Int->Option V)(e:Option V):Option V:=
 vInt x (fun a m=>vInt y (fun b l=>Bool.rec (motive:=fun _=>Option V) none (k a m l) (Nat.beq (Q3l a) (Q3l b))) e) e
noncomputable def cBin(op:BinOp)(t:TypeId)(x y:Operand):Box (V->V->Option V):=match op with
 | .add=>⟨fun a b=>Qja a b (fun k m l=>some (.int k (addI k m l))) (Zp P .add t x y a b)⟩
 | .sub=>⟨fun a b=>Qja a b (fun k m l=>some (.int k (subI k m l))) (Zp P .sub t x y a b)⟩
 | .eql=>⟨fun a b=>Qja a b (fun _ m l=>some (.bool (eqI m l))) (Zp P .eql t x y a b)⟩
 | .neq=>⟨fun a b=>Qja a b (fun _ m l=>some (.bool (notB (eqI m l)))) (Zp P .neq t x y a b)⟩
 | .lss=>⟨fun a b=>Qja a b (fun _ m l=>some (.bool (ltI m l))) (Zp P .lss t x y a b)⟩
 | .leq=>⟨fun a b=>Qja a b (fun _ m l=>some (.bool (leI m l))) (Zp P .leq t x y a b)⟩
 | .gtr=>⟨fun a b=>Qja a b (fun _ m l=>some (.bool (ltI l m))) (Zp P .gtr t x y a b)⟩
 | .geq=>⟨fun a b=>Qja a b (fun _ m l=>some (.bool (leI l m))) (Zp P .geq t x y a b)⟩
 |op=>⟨fun a b=>Zp P op t x y a b⟩
noncomputable def Q24(dst:Option Nat)(op:BinOp)(t:TypeId)(x y:Operand):Box (CO):=
 ⟨fun _ _ k T F=>Qkl ((cBin P op t x y).f ((cR n x).f T) ((cR n y).f T)) fun v=>k ((cP n dst).f T v) F⟩
noncomputable def cUnOp(dst:Option Nat)(op:UnOp)(x:Operand):Box (CO):=
 ⟨fun _ _ k T F=>Qkl (unV op ((cR n x).f T)) fun v=>k ((cP n dst).f T v) F⟩
noncomputable def cNil(dst:Option Nat)(x:Operand):Box (CO):=
 ⟨fun _ _ k T F=>Qkl (ncV ((cR n x).f T)) fun v=>k ((cP n dst).f T v) F⟩
noncomputable def offV(off:Nat)(v:V):Option V:=vPtr v (fun a b o=>some (.ptr a b (Nat.add o off))) (fun cs o=>some (.iptr cs (Nat.add o off))) (fun cs o=>some (.rptr cs (Nat.add o off))) none
noncomputable def Qkg(dst:Option Nat)(t:TypeId)(x:Operand)(i:Nat):Box (CO):=match P.underlying t with
 |some (.struct fs)=>(match fs[i]? with
  |some f=>(match sz P f.type with
   |some m=>bif Nat.beq m 0 then⟨fun _ _ _ _ _=> .no⟩ else⟨fun _ _ k T F=>Qkl (offV f.offset ((cR n x).f T)) fun v=>k ((cP n dst).f T v) F⟩
   |none=>⟨fun _ _ _ _ _=> .no⟩)
  |none=>⟨fun _ _ _ _ _=> .no⟩)
 |_=>⟨fun _ _ _ _ _=> .no⟩
noncomputable def Q9v(t:TypeId):Box (List V->Nat->Option V):=match P.underlying t,sz P t with
 |some dd,some m=>bif Qk1 dd then⟨fun xs o=>some (.agg ((xs.drop o).take m))⟩ else⟨Q14⟩
 |_,_=>⟨fun _ _=>none⟩
noncomputable def aggO(v:V)(k:List V->Option V):Option V:=vAgg v k none
noncomputable def Q1o(dst:Option Nat)(t:TypeId)(x:Operand)(i:Nat):Box (CO):=match P.underlying t with
 |some (.struct fs)=>(match fs[i]? with
  |some f=>⟨fun _ _ k T F=>Qkl (aggO ((cR n x).f T) fun cs=>(Q9v P f.type).f cs f.offset) fun v=>k ((cP n dst).f T v) F⟩
  |none=>⟨fun _ _ _ _ _=> .no⟩)
 |_=>⟨fun _ _ _ _ _=> .no⟩
noncomputable def atSl(m:Nat)(x i:V):Option V:=vInt i (fun _ i=>Int.rec (motive:=fun _=>Option V) (fun i=>
 vSl x none
  (fun cs len=>Bool.rec (motive:=fun _=>Option V) none (Bool.rec (motive:=fun _=>Option V) none (Bool.rec (motive:=fun _=>Option V) none (some (.iptr cs (Nat.mul i m))) (Nat.ble (nat_lit 1) m)) (Nat.beq cs.length (Nat.mul len m))) (Nat.ble (Nat.succ i) len))
  (fun cs len e' =>Bool.rec (motive:=fun _=>Option V) none (Bool.rec (motive:=fun _=>Option V) none (Bool.rec (motive:=fun _=>Option V) (some (.rptr cs (Nat.mul i m))) (some (.iptr cs (Nat.mul i m))) (Qx cs)) (Nat.beq e' m)) (Nat.ble (Nat.succ i) len))
  (fun f s o len e' =>Bool.rec (motive:=fun _=>Option V) none (Bool.rec (motive:=fun _=>Option V) none (some (.ptr f s (Nat.add o (Nat.mul i m)))) (Nat.beq e' m)) (Nat.ble (Nat.succ i) len))
  none) (fun _=>none) i) none
noncomputable def Qj7(dst:Option Nat)(t:TypeId)(x i:Operand):Box (CO):=match P.underlying t with
 |some (.slice e)=>(match sz P e with
  |some m=>⟨fun _ _ k T F=>Qkl (atSl m ((cR n x).f T) ((cR n i).f T)) fun v=>k ((cP n dst).f T v) F⟩
  |none=>⟨fun _ _ _ _ _=> .no⟩)
 |_=>⟨fun _ _ k T F=>Qkl (Qm P t ((cR n x).f T) ((cR n i).f T)) fun v=>k ((cP n dst).f T v) F⟩
noncomputable def Q93(dst:Option Nat)(s t:TypeId)(x:Operand):Box (CO):=match P.underlying s,P.underlying t with
 |some _,some (.int a)=>⟨fun cc nm k T F=>vInt ((cR n x).f T) (fun _ m=>k ((cP n dst).f T (.int a (convI a m))) F) ((Bc P pol n dst (.convert s t x)).f cc nm k T F)⟩
 |_,_=>Bc P pol n dst (.convert s t x)
noncomputable def lenO(x:V):Option V:=vSl x (some (.int .i64 (Int.ofNat (nat_lit 0)))) (fun _ m=>some (.int .i64 (Int.ofNat m))) (fun _ m _=>some (.int .i64 (Int.ofNat m))) (fun _ _ _ m _=>some (.int .i64 (Int.ofNat m))) none
noncomputable def tupO(v:V)(i:Nat):Option V:=vTup v (fun vs=>Q14 vs i) none
noncomputable def Qx1(dst:Option Nat)(t:Operand)(i:Nat):Box (CO):=
 ⟨fun _ _ k T F=>Qkl (tupO ((cR n t).f T) i) fun v=>k ((cP n dst).f T v) F⟩
noncomputable def isSl(t:TypeId):Bool:=match P.underlying t with
 |some (.slice _)=>true
 |_=>false
noncomputable def cLen(dst:Option Nat)(c:Go.Call):Box (CO):=match c.callee,c.args.toList,c.argTypes.toList with
 | .builtin .len,[x],[t]=>bif isSl P t then⟨fun _ _ k T F=>Qkl (lenO ((cR n x).f T)) fun v=>k ((cP n dst).f T v) F⟩ else Bc P pol n dst (.call c)
 |_,_,_=>Bc P pol n dst (.call c)
noncomputable def Zap(dst:Option Nat)(c:Go.Call):Box (CO):=match c.callee with
 | .value (.func f)=>(match pol.prims f with
   |some _=>⟨fun cc _ k T F=>resK (Qjc pol cc f ((cL n c.args.toList).f T) F) T fun v F=>k ((cP n dst).f T v) F⟩
   |none=>(match pol.prim f with
    |some g=>⟨fun _ _ k T F=>match g 0 (some F.next) (Xy F) ((cL n c.args.toList).f T) with
     |some x=>k ((cP n dst).f T x.1) (wrF F x.2)
     |none=> .no⟩
    |none=>(match pol.fixA f,pol.fix f with
     |none,false=>⟨fun cc _ k T F=>resK (cc (some f) ((cL n c.args.toList).f T) F) T fun v F=>k ((cP n dst).f T v) F⟩
     |_,_=>⟨fun cc _ k T F=>resK (Qjc pol cc f ((cL n c.args.toList).f T) F) T fun v F=>k ((cP n dst).f T v) F⟩)))
 | .value _=>Bc P pol n dst (.call c)
 |_=>cLen P pol n dst c
noncomputable def cOp(chk:Bool)(dst:Option Nat)(o:Op):Box (CO):=match o with
 | .move x| .assign x=>Q9o n dst x
 | .pick c a b=>Za5 n dst c a b
 | .alloc t=>Q0l P n chk dst t
 | .load t a=>Q9n P n dst t a
 | .store t a x=>Q0s P n dst t a x
 | .nilCheck x=>cNil n dst x
 | .binOp op t x y _=>Q24 P n dst op t x y
 | .unOp op _ x=>cUnOp n dst op x
 | .fieldAddr t x i=>Qkg P n dst t x i
 | .field t x i=>Q1o P n dst t x i
 | .extract t i=>Qx1 n dst t i
 | .indexAddr t x i=>Qj7 P n dst t x i
 | .convert s t x=>Q93 P pol n dst s t x
 | .call c=>Zap P pol n dst c
 |o=>Bc P pol n dst o
noncomputable def cG(ops:Array Oper)(chk:Bool)(o:Oper):Box (CO):=match o.guard with
 |none=>cOp P pol n chk o.dst o.op
 |some (j,want)=>(match(ops[j]?).bind (·.dst) with
  |some i=>⟨fun cc nm k T F=>match(cR n (.tmp i)).f T with
   | .bool b=>bif (bif b then want else !want) then(cOp P pol n chk o.dst o.op).f cc nm k T F else k ((cP n o.dst).f T nov) F
   | .tuple []=>k ((cP n o.dst).f T nov) F
   |_=> .no⟩
  |none=>⟨fun _ _ _ _ _=> .no⟩)
noncomputable def Qx2(ops:Array Oper)(l:List Oper):Box (FC->KT):=
 List.rec (motive:=fun _=>Box (FC->KT)) ⟨fun _ T F=> .nrm T F⟩ (fun o _ ih=>⟨fun cc T F=>(cG P pol n ops false o).f cc F.next (ih.f cc) T F⟩) l
noncomputable def fpG(lim nm:Nat)(g g1:Get)(nx:Nat)(r:Operand->V)(o:Oper):FP:=
 if Q9 o.op then .quiet else if Y9 o.op then .all else
 match evX P g r nm o.op with
 |some (.val _ w)=> .ids (Kp 0 r (atN o nm)) (Qgg w.toList) (match w.toList with
   |[(f,s,_)]=>Nat.beq f 0&&Nat.beq s nm&&(g 0 nm).isNone
   |_=>false)
 |none=>(match J7 P g r nm o.op with
  |some (_,ws)=> .ids (Kp 0 r (atN o nm)) (Qgg ws) (match ws with
   |[(f,s,_)]=>Nat.beq f 0&&Nat.beq s nm&&(g 0 nm).isNone
   |_=>false)
  |none=> .all)
 |some (.call _ _)=> .call (fun f s=>Nat.ble lim nx&&eqbG (g f s) (g1 f s))
 |_=> .all
noncomputable def Qi0(fp:FP)(x:FT):FT:=match x with
 | .ok T F l=> .ok T F (fp::l)
 | .no=> .no
noncomputable def oneT(x:FO)(k:TM->FH->FT):FT:=match x with
 | .nrm T F=>k T F
 |_=> .no
noncomputable def Qm1(ops:Array Oper)(l:List Oper):Box (FC->Nat->Nat->TM->FH->FT):=
 List.rec (motive:=fun _=>Box (FC->Nat->Nat->TM->FH->FT)) ⟨fun _ _ _ T F=> .ok T F []⟩
  (fun o _ ih=>match o.guard with
    |none=>⟨fun cc lim nm T F=>oneT ((cOp P pol n true o.dst o.op).f cc nm (fun T F=> .nrm T F) T F) fun T1 F1=>
      Qi0 (fpG P lim nm (Xy F) (Xy F1) F.next (fun x=>(cR n x).f T) o) (ih.f cc lim (Nat.succ nm) T1 F1)⟩
    |some (j,want)=>(match(ops[j]?).bind (·.dst) with
     |some i=>⟨fun cc lim nm T F=>match(cR n (.tmp i)).f T with
      | .bool b=>bif (bif b then want else !want) then oneT ((cOp P pol n true o.dst o.op).f cc nm (fun T F=> .nrm T F) T F) fun T1 F1=>
         Qi0 (fpG P lim nm (Xy F) (Xy F1) F.next (fun x=>(cR n x).f T) o) (ih.f cc lim (Nat.succ nm) T1 F1)
        else Qi0 .quiet (ih.f cc lim (Nat.succ nm) ((cP n o.dst).f T nov) F)
      | .tuple []=>Qi0 .quiet (ih.f cc lim (Nat.succ nm) ((cP n o.dst).f T nov) F)
      |_=> .no⟩
     |none=>⟨fun _ _ _ _ _=> .no⟩)) l
noncomputable def endT(bef:Array Nat)(x:FT):FO:=match x with
 | .ok T F l=>bif okT bef (loud l) then .nrm T F else .no
 | .no=> .no
noncomputable def cReg(ops:Array Oper)(draw:Bool):Box (FC->KT):=
 bif draw then⟨fun cc T F=>match F.tr.get (F.next+ops.size) with
  |none=>endT (Region.before ops) ((Qm1 P pol n ops ops.toList).f cc (F.next+ops.size) F.next T (Qh7 F (F.next+ops.size) .dead))
  |some _=> .no⟩ else Qx2 P pol n ops ops.toList
noncomputable def seqK(x:FO)(k:TM->FH->FO):FO:=FO.rec (motive:=fun _=>FO) .no k (fun i T F=> .exi i T F) (fun T F=> .ret T F) (fun v T F=> .pan v T F) x
noncomputable def Q8j(id:Nat)(x:FO):FO:=FO.rec (motive:=fun _=>FO) .no (fun T F=> .nrm T F) (fun i T F=>Bool.rec (motive:=fun _=>FO) (.exi i T F) (.nrm T F) (Nat.beq i id)) (fun T F=> .ret T F) (fun v T F=> .pan v T F) x
noncomputable def Qrz(body:TM->FH->FO)(m:Nat):TM->FH->FO:=
 Nat.rec (motive:=fun _=>TM->FH->FO) (fun _ _=> .no) (fun _ ih T F=>seqK (body T F) ih) m
abbrev CB:=FC->Nat->KT
variable (fn : Nat)
noncomputable def Qqq(s:Nat)(T:TM)(F:FH):FO:=match F.tr.get s with
 |some (.loop st pend _ _ _)=>bif Nat.beq st 1 then .no else
   (match pend with
   |none=> .nrm T (Qh7 F s .dead)
   |some none=> .ret T (Qh7 F s .dead)
   |some (some i)=> .exi i T (Qh7 F s .dead))
 |_=> .no
noncomputable def Q27(x:FR)(s:Nat)(T:TM):FO:=match x with
 | .ret _ F=>Qqq s T F
 |_=> .no
noncomputable def comp(c:Code):Box (CB)×Box (FC->Nat->V->Option (Nat×Nat×O)->KT):=
 Code.rec (motive:=fun _=>Box (CB)×Box (FC->Nat->V->Option (Nat×Nat×O)->KT))
  (⟨fun _ _ T F=> .nrm T F⟩,⟨fun _ _ _ _ _ _=> .no⟩)
  (fun _ ops draw=>(⟨fun cc _ T F=>(cReg P pol n ops draw).f cc T F⟩,match ops.toList with
    |o::r=>⟨fun cc _ v w T F=>(Qx2 P pol n ops r).f cc ((cP n o.dst).f T v) (wrF F w)⟩
    |[]=>⟨fun _ _ _ _ _ _=> .no⟩))
  (fun _ _ ia ib=>(⟨fun cc m T F=>seqK (ia.1.f cc m T F) (ib.1.f cc m)⟩,⟨fun cc m v w T F=>seqK (ia.2.f cc m v w T F) (ib.1.f cc m)⟩))
  (fun c _ _ ia ib=>(⟨fun cc m T F=>Qsz ((cR n c).f T) (ia.1.f cc m T F) (ib.1.f cc m T F)⟩,⟨fun _ _ _ _ _ _=> .no⟩))
  (fun id _ ib=>(⟨fun cc m T F=>Q8j id (ib.1.f cc m T F)⟩,⟨fun _ _ _ _ _ _=> .no⟩))
  (fun b ib=>(match Zx b with
    |none=>⟨fun cc m T F=>Qrz (ib.1.f cc m) m T F⟩
    |some x=>⟨fun cc m T F=>Qrz (fun T F=>match Y5 (Xy F) ((cR n x).f T) with
      |some [c]=>ib.2.f cc m c.1 c.2 T F
      |_=> .no) m T F⟩,⟨fun _ _ _ _ _ _=> .no⟩))
  (fun g _ a b _ _=>(⟨fun cc _ T F=>match(cR n g).f T with
    | .func (.func f) first cap=>Q27 (cc (some f) (first++[.yield 0 F.next]++cap) (Qh7 F F.next (.loop 0 none fn (Zc a b) (toL T n 0)))) F.next T
    |_=> .no⟩,⟨fun _ _ _ _ _ _=> .no⟩))
  (fun id=>(⟨fun _ _ T F=> .exi id T F⟩,⟨fun _ _ _ _ _ _=> .no⟩))
  (fun _ _=>(⟨fun _ _ _ _=> .no⟩,⟨fun _ _ _ _ _ _=> .no⟩))
  (fun _=>(⟨fun _ _ _ _=> .no⟩,⟨fun _ _ _ _ _ _=> .no⟩))
  (fun _=>(⟨fun _ _ _ _=> .no⟩,⟨fun _ _ _ _ _ _=> .no⟩))
  (⟨fun _ _ T F=> .ret T F⟩,⟨fun _ _ _ _ _ _=> .no⟩)
  (fun _=>(⟨fun _ _ _ _=> .no⟩,⟨fun _ _ _ _ _ _=> .no⟩)) c
noncomputable def resO(P:Program)(n:Nat)(x:ResultVar):Box (TM->FH->Option V):=match x with
 | .tmp i=>⟨fun T _=>some ((cR n (.tmp i)).f T)⟩
 | .cell a t=>⟨fun T F=>match(cR n (.tmp a)).f T with
   | .ptr f s o=>(match Xy F f s with
     |some (.cells xs)=>(Qyj P t).f xs o
     |_=>none)
   |_=>none⟩
noncomputable def Q2o(l:List ResultVar):Box (TM->FH->Option (List V)):=
 List.rec (motive:=fun _=>Box (TM->FH->Option (List V))) ⟨fun _ _=>some []⟩ (fun x _ ih=>⟨fun T F=>match(resO P n x).f T F,ih.f T F with
  |some v,some vs=>some (v::vs)
  |_,_=>none⟩) l
noncomputable def retK(v:Option (List V))(F:FH):FR:=match v with
 |some [v]=> .ret v F
 |some vs=> .ret (.tuple vs) F
 |none=> .no
noncomputable def endF(rs:List ResultVar)(x:FO):FR:=match x with
 | .nrm T F=>retK ((Q2o P n rs).f T F) F
 | .ret T F=>retK ((Q2o P n rs).f T F) F
 | .pan v _ F=> .pan v F
 |_=> .no
end
inductive FD where
 |no
 |ok(x:FO)(ds:List V)
def FO.plain:FO->FD
 | .no=> .no
 |x=> .ok x []
section
variable (P : Program) (pol : Pol)
noncomputable def Qnj(n fn:Nat)(cc:FC)(m:Nat):Code->TM->FH->FD
 | .seq a b,T,F=>(match Qid a with
   |some (ops,l,d,x)=>(match(Qx2 P pol n ops l).f cc T F with
    | .nrm T1 F1=>(match(cR n x).f T1 with
      | .func f p q=>(match Qnj n fn cc m b ((cP n d).f T1 nov) F1 with
        | .ok y ds=> .ok y (ds++[.func f p q])
        | .no=> .no)
      |_=> .no)
    |_=> .no)
   |none=>bif (Q1 a).isEmpty then(match(comp P pol n fn a).1.f cc m T F with
     | .nrm T1 F1=>Qnj n fn cc m b T1 F1
     |y=>y.plain)
    else((comp P pol n fn (.seq a b)).1.f cc m T F).plain)
 |c,T,F=>((comp P pol n fn c).1.f cc m T F).plain
noncomputable def Qh1(cc:FC):List V->FH->Option FH
 |[],F=>some F
 | .func (.func g) first cap::ds,F=>bif Ql0 P g then(match cc (some g) (first++cap) F with
   | .ret _ F' =>Qh1 cc ds F'
   |_=>none) else none
 |_,_=>none
noncomputable def endD(n:Nat)(rs:List ResultVar)(cc:FC)(x:FD):FR:=match x with
 | .ok (.nrm T F) ds| .ok (.ret T F) ds=>(match Qh1 P cc ds F with
   |some F2=>retK ((Q2o P n rs).f T F2) F2
   |none=> .no)
 |_=> .no
end
section
variable (P : Program) (pol : Pol)
noncomputable def Q13(f:FuncId):Box (FC->Nat->List V->FH->FR):=match P.funcs[f]? with
 |some Fn=>(match Fn.body with
  |some c=>bif Nat.blt 1056 Fn.ntmps then⟨fun _ _ _ _=> .no⟩ else bif Qj2 c then
    ⟨fun cc m args F=>bif Nat.ble args.length Fn.ntmps then endD P Fn.ntmps Fn.results.toList cc (Qnj P pol Fn.ntmps f cc m c (ofL args 0 emp) F) else .no⟩ else
    ⟨fun cc m args F=>bif Nat.ble args.length Fn.ntmps then endF P Fn.ntmps Fn.results.toList ((comp P pol Fn.ntmps f c).1.f cc m (ofL args 0 emp) F) else .no⟩
  |none=>⟨fun _ _ _ _=> .no⟩)
 |none=>⟨fun _ _ _ _=> .no⟩
noncomputable def Qfe(so:Nat)(x:FO):FR:=
 match x with
 | .nrm _ F=>(match F.tr.get so with
   |some (.loop _ _ fL rid t0)=> .ret (.bool true) (Qh7 F so (.loop 0 none fL rid t0))
   |_=> .no)
 | .ret _ F=>(match F.tr.get so with
   |some (.loop _ _ fL rid t0)=> .ret (.bool false) (Qh7 F so (.loop 2 (some none) fL rid t0))
   |_=> .no)
 | .exi i _ F=>(match F.tr.get so with
   |some (.loop _ _ fL rid t0)=> .ret (.bool false) (Qh7 F so (.loop 2 (some (some i)) fL rid t0))
   |_=> .no)
 |_=> .no
noncomputable def putA(n:Nat)(ps:List Tmp):List V->TM->TM:=
 List.rec (motive:=fun _=>List V->TM->TM) (fun _ T=>T) (fun p _ ih l T=>match l with
  |v::l=>ih l ((cP n (some p)).f T v)
  |[]=>T) ps
noncomputable def midR(so:Nat)(x:FO)(k:TM->FH->FO):FR:=match x with
 | .nrm T1 F1=>(match F1.tr.get so with
   |some (.loop 0 pend fL rid t0)=>Qfe so (k T1 (Qh7 F1 so (.loop 1 pend fL rid t0)))
   |_=> .no)
 |_=> .no
noncomputable def compR(fL rid:Nat):Box (FC->Nat->Nat->List V->List V->FH->FR):=match P.funcs[fL]?,Qo P fL rid with
 |some Fn,some (ps,a,b)=>bif Nat.blt 1056 Fn.ntmps then⟨fun _ _ _ _ _ _=> .no⟩ else
   ⟨fun cc m so t0 args F=>bif Nat.beq args.length ps.size&&Nat.beq t0.length Fn.ntmps then
     midR so ((comp P pol Fn.ntmps fL a).1.f cc m (putA Fn.ntmps ps.toList args (ofL t0 0 emp)) F) ((comp P pol Fn.ntmps fL b).1.f cc m) else .no⟩
 |_,_=>⟨fun _ _ _ _ _ _=> .no⟩
noncomputable def Qt2(cc:FC)(m:Nat)(fo so:Nat)(args:List V)(F:FH):FR:=match fo with
 |0=>(match F.tr.get so with
  |some (.loop 0 _ fL rid t0)=>(compR P pol fL rid).f cc m so t0 args F
  |_=> .no)
 |Nat.succ _=> .no
noncomputable def Qoh(m:Nat):FC:=
 Nat.rec (motive:=fun _=>FC) (fun _ _ _=> .no) (fun m ih f args F=>match f with
  |some f=>(Q13 P pol f).f ih m args F
  |none=>(match args with
   | .yield fo so::rest=>Qt2 P pol ih m fo so rest F
   |_=> .no)) m
noncomputable def isTrue(x:FR):Bool:=match x with
 | .ret (.bool b) _=>b
 |_=>false
end
def isNumB:V->Bool
 | .int _ _=>true
 |_=>false
def Q37(v:V):Bool:=match v with
 | .iS c n _=>Nat.beq n 256&&(Nat.beq c.length 256&&c.all isNumB)
 |_=>false
def Qrk:V->List V
 | .iS c _ _=>c
 |_=>[]
def Qej:List V->Bool
 |[]=>true
 | .int .i64 a::v::r=>decide (0<=a)&&decide (a<256)&&Q37 v&&Qej r
 |_=>false
def Qkj:V->Option (List V×Nat)
 | .nS=>some ([],0)
 | .iS cs n _=>if Nat.beq cs.length (n*2)&&Nat.ble n 4096&&Qej cs then some (cs,n) else none
 |_=>none
def Qkp:V->Option (List V)
 | .iS rv n _=>if Nat.beq n 256&&Nat.beq rv.length 256&&rv.all Q37 then some rv else none
 |_=>none
def newRow(fl:Bool)(v:V):V:= .iS (Qrk v) 256 fl
def Qez:List V->List V
 |a::v::r=>a::newRow false v::Qez r
 |l=>l
def Qtw(rv cs:List V)(n:Nat):V:= .agg [.iS (rv.map (newRow true)) 256 false,if n=0 then .nS else .iS (Qez cs) n false]
def Q3t:List V->Option V
 |[.agg [bv,wv]]=>(match Qkp bv,Qkj wv with
  |some rv,some (cs,n)=>some (Qtw rv cs n)
  |_,_=>none)
 |_=>none
def Qgj:List V->List V->List V
 | .int _ a::v::r,rv=>Qgj r (rv.set a.toNat v)
 |_,rv=>rv
def isFn:V->Bool
 | .func (.func _) [] []=>true
 | .func (.func _) [] [.iptr _ _]=>true
 | .func (.func _) [] [.bad]=>true
 |_=>false
def isAll(all:FuncId):V->Bool
 | .func (.func f) [] []=>Nat.beq f all
 |_=>false
def Q31(all:FuncId):List V->Option V
 |[.agg [bv,wv],sv]=>if isFn sv then(match Qkp bv,Qkj wv with
  |some rv,some (cs,n)=>if isAll all sv||Nat.beq n 0 then some (Qtw (Qgj cs rv) [] 0) else none
  |_,_=>none) else none
 |_=>none
def Qv5:List V->Option V
 |[.agg [.nS,.nS]]=>some (.int .i64 8)
 |[.agg [bv,wv]]=>(match Qkp bv,Qkj wv with
  |some _,some _=>some (.int .i64 0)
  |_,_=>none)
 |_=>none
def Zcq:List V:=List.replicate 256 (.int .u8 0)
def kNew:List V->Option V
 |[]=>some (.agg [.iS (List.replicate 256 (.iS Zcq 256 true)) 256 false,.nS])
 |_=>none
structure W4 where
 a:Nat
 b:Nat
 c:Nat
 d:Nat
noncomputable def Qc8(x y:Nat):Nat:=Nat.mod (Nat.add x y) (nat_lit 4294967296)
noncomputable def Qg2(x k:Nat):Nat:=Nat.lor (Nat.mod (Nat.shiftLeft x k) (nat_lit 4294967296)) (Nat.shiftRight x (Nat.sub (nat_lit 32) k))
noncomputable def Qi2{α:Type}(x:Nat)(k:Nat->α):α:=Nat.rec (motive:=fun _=>α) (k (nat_lit 0)) (fun m _=>k (Nat.succ m)) x
noncomputable def Qhx(far near:Nat)(x:W4):W4:=
 Qi2 (Qc8 x.a x.b) fun a=>Qi2 (Qg2 (Nat.xor x.d a) far) fun d=>Qi2 (Qc8 x.c d) fun c=>Qi2 (Qg2 (Nat.xor x.b c) near) fun b=>⟨a,b,c,d⟩
noncomputable def Qie(x:W4):W4:=Qhx (nat_lit 9) (nat_lit 6) (Qhx (nat_lit 15) (nat_lit 11) x)
noncomputable def Bd(n:Nat):W4->W4:=Nat.rec (motive:=fun _=>W4->W4) (fun x=>x) (fun _ ih x=>ih (Qie x)) n
noncomputable def Q1n(v:V):Nat:=vInt v (fun _ m=>Int.rec (motive:=fun _=>Nat) (fun a=>a) (fun _=>nat_lit 0) m) (nat_lit 0)
noncomputable def num4(w x y z:V):Nat:=Nat.add (Q1n w) (Nat.mul (nat_lit 256) (Nat.add (Q1n x) (Nat.mul (nat_lit 256) (Nat.add (Q1n y) (Nat.mul (nat_lit 256) (Q1n z))))))
noncomputable def Qlo(n:Nat):List V->W4->W4:=Nat.rec (motive:=fun _=>List V->W4->W4) (fun _ x=>x) (fun _ ih l x=>match l with
 |a::b::c::d::e::f::g::h::r=>Qi2 (Nat.xor x.a (num4 a b c d)) fun p=>Qi2 (Nat.xor x.c (num4 e f g h)) fun q=>ih r (Bd (nat_lit 4) ⟨p,x.b,q,x.d⟩)
 |_=>x) n
noncomputable def pad8(l:List V):List V:=l++ .int .u8 1::List.replicate ((8-(l.length+1)%8)%8) (.int .u8 0)
noncomputable def Qwu(l:List V):W4:=match Qlo (l.length+1) (pad8 l) ⟨1,2,3,4⟩ with
 |x=>Bd (nat_lit 8) ⟨x.a,Nat.xor x.b l.length,x.c,x.d⟩
def Qn1:V->Bool
 | .int .u8 (.ofNat n)=>Nat.blt n 256
 |_=>false
def Qo9:V->Option (List V)
 | .nS=>some []
 | .iS c n _=>if Nat.beq c.length n&&(Nat.ble n 1048576&&c.all Qn1) then some c else none
 |_=>none
noncomputable def kSum:List V->Option V
 |[x]=>(match Qo9 x with
  |some l=>some (.int .u32 (Int.ofNat (Qwu l).a))
  |none=>none)
 |_=>none
noncomputable def maxV(l:List V):Nat->Nat:=List.rec (motive:=fun _=>Nat->Nat) (fun m=>m) (fun v _ ih m=>Bool.rec (motive:=fun _=>Nat) (ih m) (ih (Q1n v)) (Nat.ble (Nat.succ m) (Q1n v))) l
noncomputable def kMax:List V->Option V
 |[x]=>(match Qo9 x with
  |some (v::l)=>some (.int .u8 (Int.ofNat (maxV l (Q1n v))))
  |_=>none)
 |_=>none
end Go.AM.BM
namespace Go.AM
def Qj6:List V->List (Int×List UInt8)->Prop
 |cs,[]=>cs=[]
 |cs,w::r=>∃v d,cs= .int .i64 w.1::v::d/\Qf v w.2/\Qj6 d r
def Qa9(v:V)(l:List (Int×List UInt8)):Prop:=∃cs,Qj6 cs l/\Q0 2 v cs l.length
theorem Qj6.len:∀{l:List (Int×List UInt8)} {cs:List V},Qj6 cs l->cs.length=l.length*2
 |[],cs,h=>by
  have:cs=[]:=h;subst this;rfl
 |x::r,cs,h=>by
  obtain⟨v,d,rfl,h1,h2⟩:=h;simp only[Zrs,h2.len];omega
theorem Qj6.at_:∀{l:List (Int×List UInt8)} {cs:List V} {i:Nat},Qj6 cs l->(h:i<l.length)->cs[2*i]?=some (.int .i64 l[i].1)/\∃v,cs[2*i+1]?=some v/\Qf v l[i].2
 |x::r,cs,0,h,hi=>by
  obtain⟨v,d,rfl,h1,h2⟩:=h;exact⟨rfl,v,rfl,h1⟩
 |x::r,cs,i+1,h,hi=>by
  obtain⟨v,d,rfl,h1,h2⟩:=h;obtain⟨h3,w,h4,h5⟩:=h2.at_ (i:=i) (by simpa using hi);have e:2*(i+1)=2*i+1+1:=by omega
  refine⟨?_,w,?_,?_⟩
  . rw[e];simpa using h3
  . rw[e];simpa using h4
  . simpa using h5
def Qh8(a:Int):Bool:=decide ((IntKind.u64).wrap a<256)
def Qa1(b:List UInt8):Bool:=(b.length:Int)==256
def Qfm(w:Int×List UInt8):Bool:=Qh8 w.1&&Qa1 w.2
def B2(bl:List (List UInt8))(wl:List (Int×List UInt8)):Bool:=((((bl.length:Int)==256)&&decide ((wl.length:Int)<=4096))&&bl.all Qa1)&&wl.all Qfm
def Qk0{α:Type}(b:Bool)(p:α->Bool)(l:List α)(i:Nat):Bool:=b&&(l.take i).all p
theorem Qr2{α:Type}(b:Bool)(p:α->Bool)(l:List α):Qk0 b p l 0=b:=by simp[Qk0]
theorem Qsy{α:Type}(b:Bool)(p:α->Bool)(l:List α)(i:Nat)(h:i<l.length):Qk0 b p l (i+1)=(Qk0 b p l i&&p l[i]):=by simp only[Qk0,Zty h,Zte,List.all_cons,List.all_nil,Zs1,Bool.and_assoc]
theorem Qxd{α:Type}(b:Bool)(p:α->Bool)(l:List α)(i:Nat)(h:l.length<=i):Qk0 b p l i=(b&&l.all p):=by simp only[Qk0,Ztz h]
def K9:List V->List Zf->List (List UInt8)->Prop
 |cs,[],[]=>cs=[]
 |cs,c::r,x::s=>∃dv d,cs=Za c dv++d/\Qf dv x/\c.n=x.length/\K9 d r s
 |_,_,_=>False
theorem K9.toC:∀{ls:List Zf} {ds:List (List UInt8)} {cs:List V},K9 cs ls ds->ChangesC cs ls
 |[],[],cs,h=>h
 |c::r,x::s,cs,h=>by
  obtain⟨dv,d,rfl,h1,h2,h3⟩:=h;exact⟨dv,d,rfl,⟨_,by rw[h2];exact h1⟩,h3.toC⟩
def Zq.Rng(p:Zq):Prop:=(0<=p.birth/\p.birth<4294967296)/\(0<=p.iv/\p.iv<4294967296)/\(0<=p.tag/\p.tag<4294967296)/\(0<=p.sum/\p.sum<4294967296)
structure B6 where
 blocks:List (List UInt8)
 waits:List (Int×List UInt8)
 space:List UInt8
 p:Qpc
 datas:List (List UInt8)
abbrev K6:Nat:=9223372036854775807
structure B6.Fits(x:B6):Prop where
 blocks:x.blocks.length<=K6
 waits:x.waits.length<=K6
 space:x.space.length<=K6
 own:x.p.own.length<=K6
 lines:x.p.lines.length<=K6
 keys:x.p.keys.length<=K6
 loaded:x.p.loaded.length<=K6
 changes:x.p.changes.length<=K6
 rows:∀k∈x.blocks,k.length<=K6
 wdata:∀w∈x.waits,w.2.length<=K6
 keyl:∀k∈x.p.keys,k.length<=K6
 loadedl:∀k∈x.p.loaded,k.length<=K6
 dead:∀l∈x.p.lines,l.dead.length<=K6
 data:∀k∈x.datas,k.length<=K6
 wat:∀w∈x.waits,-9223372036854775808<=w.1/\w.1<=9223372036854775807
 root:x.p.root.Rng
 roots:∀l∈x.p.lines,l.root.Rng
 laids:∀c∈x.p.changes,c.laid.Rng
structure Jx(bv wv sv mv lv kv ov cv:V)(x:B6):Prop where
 blocks:Kt bv x.blocks
 waits:Qa9 wv x.waits
 space:Qf sv x.space
 own:Ke mv x.p.own
 lines:Qij lv x.p.lines
 keys:Kt kv x.p.keys
 loaded:Kt ov x.p.loaded
 changes:∃cs,K9 cs x.p.changes x.datas/\Q0 12 cv cs x.p.changes.length
section
variable {P : Program} {pol : Pol} {L : Ka -> Kw} {fn fr : Nat} {t : List V} {H : Heap} {k : List It} {Q : Ex -> List V -> Heap -> Prop}
theorem Zcu{C:Call}{g:Operand}{ps:Array Tmp}{a b:Code}{f:FuncId}{first cap:List V}(hg:rho t g= .func (.func f) first cap)(hf:Qd H fr (Qv (Zc a b))=none):
 U P pol C L fn fr (.code (.rangeFunc g ps a b)::k) .normal t H=(match C f (first++[.yield fr (Qv (Zc a b))]++cap) (hset H fr (Qv (Zc a b)) (.loop 0 none fn (Zc a b) t)) with
   |some (.ret _,H2)=>UL P pol C L fn fr (Kx fr (Qv (Zc a b)) t H2) k
   |_=>none):=by
 simp only[U,Q5,hg,hf,UL];cases C f (first++[.yield fr (Qv (Zc a b))]++cap) (hset H fr (Qv (Zc a b)) (.loop 0 none fn (Zc a b) t)) with
 |none=>rfl
 |some q=>obtain⟨q,H2⟩:=q;cases q<;>rfl
theorem W.rfunc{g:Operand}{ps:Array Tmp}{a b:Code}{f:FuncId}{first cap:List V}{rid:Nat}(hr:Zc a b=rid)(hg:rho t g= .func (.func f) first cap)(hf:Qd H fr (Qv rid)=none)
 (h:CW P pol f (first++[.yield fr (Qv rid)]++cap) (hset H fr (Qv rid) (.loop 0 none fn rid t)) fun r H2=>∃v,r= .ret v/\W (UL P pol (Qp P pol) L fn fr (Kx fr (Qv rid) t H2) k) Q):
 W (U P pol (Qp P pol) L fn fr (.code (.rangeFunc g ps a b)::k) .normal t H) Q:=by
 subst hr;obtain⟨r,H2,h1,v,rfl,h2⟩:=h;rw[Zcu hg hf,h1];exact h2
theorem Qbg{s st f r:Nat}{t0:List V}(hg:Qd H fr s=some (.loop st none f r t0))(hst:st≠1)(h1:Qi (Je fr s) t=false)(h2:Qz (Je fr s) (H.modify fr (Jb fun x=>[s].contains x))=true):
 Kx fr s t H=some (.normal,t,H.modify fr (Jb fun x=>[s].contains x)):=by
 simp only[Kx,hg,if_neg hst,h1,h2,Zre,if_false,if_true]
theorem X9{F:Func}{c:Code}{fn rid:Nat}{x:Array Tmp×Code×Code}(hF:P.funcs[fn]?=some F)(hc:F.body=some c)(h:Qy rid c=some x):Qo P fn rid=some x:=by simp only[Qo,hF,hc,h]
theorem Yo{t:List V}{i:Nat}{x d:V}(h:i<t.length):(t.set i x).getD i d=x:=by simp[List.getD,h]
theorem Yq{t:List V}{i j:Nat}{x d:V}(h:(i==j)=false):(t.set i x).getD j d=t.getD j d:=by
 have:i≠j:=by simpa using h
 simp[List.getD,this]
theorem B8{fo so:Nat}{args:List V}{p:Option (Option Nat)}{fL rid:Nat}{t0:List V}{ps:Array Tmp}{a b:Code}{R:Rt->Heap->Prop}
 (hg:Qd H fo so=some (.loop 0 p fL rid t0))(hl:Qo P fL rid=some (ps,a,b))(hn:args.length=ps.size)
 (h:W (U P pol (Qp P pol) Zz fL H.length [.code a] .normal (Bs t0 (ps.toList.zip args)) (H++[[]])) fun e t1 H1=>e= .normal/\∃p' fL' rid' t0',Qd H1 fo so=some (.loop 0 p' fL' rid' t0')/\
   W (U P pol (Qp P pol) Zz fL H.length [.code b] .normal t1 (hset H1 fo so (.loop 1 p' fL' rid' t0'))) fun e _ H2=>∃r H3,Bq fo so H.length e H2=some (r,H3)/\R r H3):
 ∃r H3,Qp P pol none (.yield fo so::args) H=some (r,H3)/\R r H3:=by
 obtain⟨e,t1,H1,h1,rfl,p',fL',rid',t0',h2,h3⟩:=h.out;obtain⟨e2,t2,H2,h4,r,H3,h5,h6⟩:=h3.out;refine⟨r,H3,Qzd ?_,h6⟩;have one' :∀(fr:Nat) (c:Code) t H,U P pol (Qp P pol) Zz fL fr [.code c] .normal t H=Q5 P pol (Qp P pol) Zz fL fr c t H:=by intro fr c t H;simp only[U];cases Q5 P pol (Qp P pol) Zz fL fr c t H<;>rfl
 rw[one'] at h1 h4;unfold Qa0;simp only[hg,hl,if_pos hn,h1,h2,h4];exact h5
end
theorem Qj3(all:List Zt):∀{ls:List Zt},Qdk all ls=true->∀l∈ls,Qfv all l=false
 |[],_,_,h=>by cases h
 |x::r,h,l,hl=>by
  simp only[Qdk] at h;cases hb:Qfv all x
  . rw[hb] at h;rcases Zrx.1 hl with rfl|h2
    . exact hb
    . exact Qj3 all h l h2
  . rw[hb] at h;cases h
theorem Qqg(ls:List Zt):∀{o:Option Zf} {cs:List Zf},Qfl ls o cs=true->∀c∈cs,J8 c=true
 |_,[],_,_,h=>by cases h
 |o,x::r,h,c,hc=>by
  have h2:Qfl ls (some x) r=true:=by
   unfold Qfl at h
   (repeat' split at h)<;>first|exact h|cases h
  rcases Zrx.1 hc with rfl|h3
  . cases hm:J8 c with
    |true=>rfl
    |false=>
     unfold Qfl at h;rw[hm,Zto,Bool.true_or,Bool.or_true] at h;cases h
  . exact Qqg ls h2 c h3
structure Q73(x:B6):Prop where
 store:Qad (okE (B2 x.blocks x.waits)) (Xx x.space) x.p.epoch x.p.count=true
 lines:x.p.lines.length<=16
 line:∀l∈x.p.lines,Yp l.root=true/\0<=l.key/\l.key<8
 keys:x.p.keys.length=8
 loaded:x.p.loaded.length=8
 key:∀k∈x.p.loaded,k.length=0\/k.length=16
 change:∀c∈x.p.changes,J8 c=true
theorem Qz9{x:B6}(h:Qf9 (okE (B2 x.blocks x.waits)) (Xx x.space) (Qga x.space) x.p=true):Q73 x:=by
 unfold Qf9 at h;split at h
 . cases h
 rename_i h1;split at h
 case isFalse=>cases h
 split at h
 . cases h
 rename_i h3;split at h
 case isFalse=>cases h
 rename_i h4;simp only[Qn0,Zs4,not_or,Bool.not_eq_true,Zt0] at h1;simp only[Qmg,Zs4,not_or,Bool.not_eq_true,Zt0] at h3;have hl:=h3.1;have hk:=h3.2.1;have ho:=h3.2.2.1;unfold Xw at hl;split at hl
 . cases hl
 rename_i l1;split at hl
 case isFalse=>cases hl
 simp only[Qcl,Zr1,beq_iff_eq,Zss,Ztg] at hk ho;refine⟨by simpa using h1.1,by simp at l1;omega,fun l hm=>?_,by omega,by omega,fun k hm=>?_,fun c hc=>Qqg _ h4 c hc⟩
 . have:=Qj3 _ hl l hm;simp only[Qfv,Zsr,decide_eq_false_iff_not,Zt0] at this;exact⟨this.2.2.2.1,by omega,by omega⟩
 . have:=ho.2 k hm;simp only[Bj,Zr1,decide_eq_true_eq,Zs4,bne_iff_ne,not_and,not_or,ne_eq,Classical.not_not] at this;by_cases hz:k.length=0
   . exact .inl hz
   . have:=this (by omega);omega
theorem Qyg{c:Zf}(h:J8 c=true):c.n=0\/c.n=256:=by
 unfold J8 at h;split at h
 . cases h
 split at h
 . simp only[Zr1,beq_iff_eq] at h;exact .inl (by omega)
 . simp only[Zr1,Zs4,beq_iff_eq] at h;omega
theorem Qoo{c:Zf}(h:J8 c=true)(hx:c.index=15):0<=c.size/\c.size<=3840/\0<=c.links:=by
 unfold J8 at h;split at h
 . cases h
 rw[if_pos (by simp[hx])] at h;simp only[Zr1,beq_iff_eq,decide_eq_true_eq] at h;have:=h.1.2;split at this<;>omega
theorem Qo0:∀{o:Option Zt} {ls:List Zt},Qa8 o ls=true->∀l∈ls,1<=l.id/\l.id<=255
 |_,[],_,_,h=>by cases h
 |o,x::r,h,l,hl=>by
  have h2:Qa8 (some x) r=true:=by
   unfold Qa8 at h
   (repeat' split at h)<;>first|exact h|cases h
  rcases Zrx.1 hl with rfl|h3
  . by_cases a:l.id<1
    . unfold Qa8 at h;simp[a] at h
    . by_cases b:l.id>255
      . unfold Qa8 at h;simp[b] at h
      . omega
  . exact Qo0 h2 l h3
theorem Qc3{a b:Int}(h:Qal a b=0):a=b:=by
 unfold Qal at h;split at h
 . cases h
 . split at h
   . cases h
   . rename_i h1 h2;simp only[decide_eq_true_eq] at h1 h2;omega
theorem Qp7{a b:Int}(h:Qal a b<0):a<b:=by
 unfold Qal at h;split at h
 . rename_i h1;simpa using h1
 . split at h<;>omega
theorem Q6p{ls:List Zt}{id:Int}{l:Zt}(h:Xl ls id=some l):l∈ls/\l.id=id:=by
 unfold Xl at h;split at h
 case h_2=>cases h
 rename_i i hi;refine⟨Zt1 h,?_⟩;unfold Qc9 at hi;split at hi
 case isFalse=>cases hi
 rename_i hb;cases hi;simp only[Qb0,Zr1,decide_eq_true_eq] at hb;have h2:=hb.2;generalize bs (B7 ls id) ls.length=i at*;unfold B7 at h2;rw[h] at h2;exact Qc3 h2
def chK(c:Zf):Int:=c.set*256+c.obj*16+c.index
def inR(c:Zf):Prop:=1<=c.set/\c.set<=255/\0<=c.obj/\c.obj<16/\0<=c.index/\c.index<=15
theorem Qye{c:Zf}(h:J8 c=true):0<=c.obj/\c.obj<16/\0<=c.index/\c.index<=15:=by
 unfold J8 at h;split at h
 . cases h
 . rename_i hn;simp only[Zs4,decide_eq_true_eq,not_or] at hn;omega
theorem Q71{q c:Zf}(h:Qep q c<0)(hq:inR q)(hc:inR c):chK q<chK c:=by
 unfold Qep Qdf at h;unfold chK;obtain⟨_,_,_,_,_,_⟩:=hq;obtain⟨_,_,_,_,_,_⟩:=hc;split at h
 . have:=Qp7 h;omega
 . rename_i h1;have e1:=Qc3 (a:=q.set) (b:=c.set) (by simpa using h1);unfold Qdf at h;split at h
   . have:=Qp7 h;omega
   . rename_i h2;have e2:=Qc3 (a:=q.obj) (b:=c.obj) (by simpa using h2);unfold Qdf at h;split at h
     . have:=Qp7 h;omega
     . simp[Qdf] at h
theorem Qw0(ls:List Zt)(hid:∀l∈ls,1<=l.id/\l.id<=255):∀{o:Option Zf} {cs:List Zf},Qfl ls o cs=true->(∀q,o=some q->inR q)->(cs.length:Int)+(match o with|some q=>chK q+1|none=>0)<=65536
 |none,[],_,_=>by simp
 |some q,[],_,h=>by
  obtain⟨_,_,_,_,_,_⟩:=h q rfl;simp only[Zs9,chK];omega
 |o,c::r,h,ho=>by
  have h2:Qfl ls (some c) r=true:=by
   unfold Qfl at h
   (repeat' split at h)<;>first|exact h|cases h
  have hm:J8 c=true:=Qqg ls h c (by simp);have hs:∃l,Xl ls c.set=some l:=by
   cases hl:Xl ls c.set with
   |some l=>exact⟨l,rfl⟩
   |none=>
    unfold Qfl at h;rw[hl] at h;simp at h
  obtain⟨l,hl⟩:=hs;obtain⟨hl1,hl2⟩:=Q6p hl;have hr:=Qye hm;have hi:=hid l hl1;have hc:inR c:=⟨by omega,by omega,hr.1,hr.2.1,hr.2.2.1,hr.2.2.2⟩;have ih:=Qw0 ls hid h2 (fun q e=>by cases e;exact hc);simp only at ih;cases o with
  |none=>
   simp only[Zrs];have:0<=chK c:=by unfold chK;obtain⟨_,_,_,_,_,_⟩:=hc;omega
   omega
  |some q=>
   have hlt:Qep q c<0:=by
    by_cases hge:Qep q c>=0
    . exfalso;unfold Qfl at h;simp only[hge,decide_true,Bool.or_true,if_true] at h;cases h
    . omega
   have:=Q71 hlt (ho q rfl) hc;simp only[Zrs];omega
theorem Qvv{x:B6}(h:Qf9 (okE (B2 x.blocks x.waits)) (Xx x.space) (Qga x.space) x.p=true):x.p.changes.length<=65536:=by
 unfold Qf9 at h;split at h
 . cases h
 split at h
 case isFalse=>cases h
 split at h
 . cases h
 rename_i h3;split at h
 case isFalse=>cases h
 rename_i h4;simp only[Qmg,Zs4,not_or,Bool.not_eq_true,Zt0] at h3;have hl:=h3.1;unfold Xw at hl;split at hl
 . cases hl
 split at hl
 case isFalse=>cases hl
 rename_i hA;have:=Qw0 x.p.lines (Qo0 hA) h4 (fun q e=>by cases e);simp only at this;omega
theorem Q5x{x:B6}(h:Qf9 (okE (B2 x.blocks x.waits)) (Xx x.space) (Qga x.space) x.p=true):∀l∈x.p.lines,l.dead.length<=240:=by
 unfold Qf9 at h;split at h
 . cases h
 split at h
 case isFalse=>cases h
 split at h
 . cases h
 rename_i h3;simp only[Qmg,Zs4,not_or,Bool.not_eq_true,Zt0] at h3;have hl:=h3.1;unfold Xw at hl;split at hl
 . cases hl
 split at hl
 case isFalse=>cases hl
 intro l hm;have:=Qj3 _ hl l hm;simp only[Qfv,Zsr,decide_eq_false_iff_not,Zt0] at this;have hd:=this.2.2.2.2.1;unfold Qmc at hd;split at hd
 . cases hd
 . rename_i hn;simp at hn;omega
theorem Qui{c:Nat->Int}{n:Nat}(h:Qb0 c n=true):bs c n<n/\c (bs c n)=0:=by simpa [Qb0] using h
theorem Qzo{c:Zf}{s o i:Int}(h:Qfo c s o i=0):c.set=s/\c.obj=o/\c.index=i:=by
 unfold Qfo Qdf at h;split at h
 . rename_i h1;simp at h1;omega
 . rename_i h1;have e1:=Qc3 (a:=c.set) (b:=s) (by simpa using h1);unfold Qdf at h;split at h
   . rename_i h2;simp at h2;omega
   . rename_i h2;have e2:=Qc3 (a:=c.obj) (b:=o) (by simpa using h2);unfold Qdf at h;split at h
     . rename_i h3;simp at h3;omega
     . rename_i h3;exact⟨e1,e2,Qc3 (by simpa using h3)⟩
theorem K9.at_:∀{ls:List Zf} {ds:List (List UInt8)} {cs:List V} {i:Nat},K9 cs ls ds->(h:i<ls.length)->∃dv k,(cs.drop (i*12)).take 12=Za ls[i] dv/\Qf dv k/\ls[i].n=k.length
 |c::r,x::s,cs,0,h,_=>by
  obtain⟨dv,d,rfl,h1,h2,h3⟩:=h;exact⟨dv,x,by rfl,h1,h2⟩
 |c::r,x::s,cs,i+1,h,hi=>by
  obtain⟨dv,d,rfl,h1,h2,h3⟩:=h;obtain⟨dv',k,h4,h5,h6⟩:=h3.at_ (i:=i) (by simpa using hi);refine⟨dv',k,?_,by simpa using h5,by simpa using h6⟩;rw[show(i+1)*12=(Za c dv).length+i*12 by simp[Za];omega,<-Zsh,List.drop_left];simpa using h4
 |c::r,[],cs,i,h,_=>h.elim
end Go.AM
namespace Go.AM.BM
def Qjk(n:Nat):Nat->List V
 |0=>[]
 |k+1=> .int .u8 (.ofNat (Nat.mod n 256))::Qjk (Nat.div n 256) k
noncomputable def keyC(x:W4):List V:=Qjk x.a 4++(Qjk x.b 4++(Qjk x.c 4++Qjk x.d 4))
noncomputable def kKey:List V->Option V
 |[x]=>(match Qo9 x with
  |some l=>some (.iS (keyC (Qwu l)) 16 false)
  |none=>none)
 |_=>none
end Go.AM.BM
end
