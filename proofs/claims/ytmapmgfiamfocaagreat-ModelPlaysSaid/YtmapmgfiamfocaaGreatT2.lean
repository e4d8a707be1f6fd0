/- This file holds in one the texts An3, An4, An5, An6; each says at its head what it proves. -/
import Derived.Test.YtmapmgfiamfocaaGreatT1
import Derived.Laws.Entries
import Derived.Laws.Strings
import Derived.Laws.Strings2
set_option linter.unusedSimpArgs false
set_option linter.unusedVariables false
section
namespace Go.AM
def sz(P:Program)(t:TypeId):Option Nat:=(P.info? t).map (·.size)
def byt(P:Program)(t:TypeId):Option Nat:=(P.info? t).map (·.bytes)
def zer(P:Program)(t:TypeId):Option Value:=(P.info? t).bind (·.zero)
def Qsb:TypeDesc->Bool
 | .struct _| .array _ _=>true
 |_=>false
def Qbd:Value->V
 | .bool b=> .bool b
 | .int k n=> .int k n
 | .string s=> .str s.data.toList
 | .pointer none=> .nP
 | .slice none 0 0=> .nS
 | .map none=> .nM
 | .nilFunc=> .nF
 | .nilIface=> .nI
 |_=> .bad
def Jw:Value->V
 | .agg cs=> .agg (cs.toList.map Qbd)
 | .iface t v=> .face t (Qbd v)
 | .tuple cs=> .tuple (cs.toList.map Qbd)
 |v=>Qbd v
def V.cells:V->Option (List V)
 | .agg cs=>if cs.all V.scalar then some cs else none
 | .bad| .tuple _=>none
 |v=>some [v]
def zeroCells(P:Program)(t:TypeId):Option (List V):=(zer P t).bind fun z=>(Jw z).cells
def splice{α:Type}(xs:List α)(o:Nat)(cs:List α):List α:=xs.take o++cs++xs.drop (o+cs.length)
def Zf(P:Program)(t:TypeId)(xs:List V)(o:Nat):Option V:=
 match P.underlying t,sz P t with
 |some d,some n=>if Qsb d then(if o+n<=xs.length then some (.agg ((xs.drop o).take n)) else none) else xs[o]?
 |_,_=>none
def Bn(place:Nat->Option (Nat×Nat))(cells:List V):List (Nat×V)->Option (List V)
 |[]=>some cells
 |(i,v)::rest=>
  match place i,v.cells with
  |some (off,size),some cs=>if cs.length=size/\off+cs.length<=cells.length then Bn place (splice cells off cs) rest else none
  |_,_=>none
def Qp8(P:Program):List Field->Option (List (Nat×Nat))
 |[]=>some []
 |f::fs=>match sz P f.type,Qp8 P fs with
  |some n,some r=>some ((f.offset,n)::r)
  |_,_=>none
def Qac(P:Program)(t:TypeId)(parts:List (Nat×V)):Option V:=
 match zeroCells P t,P.underlying t with
 |some z,some (.struct fs)=>match Qp8 P fs.toList with
  |some ps=>(Bn (fun i=>ps[i]?) z parts).map .agg
  |none=>none
 |some z,some (.array _ e)=>match sz P e with
  |some n=>(Bn (fun i=>some (i*n,n)) z parts).map .agg
  |none=>none
 |_,_=>none
def zerosN{α:Type}(z:List α):Nat->List α
 |0=>[]
 |n+1=>z++zerosN z n
def Qj4(op:BinOp)(k:IntKind)(a b:Int):Option V:=
 match op with
 | .add=>some (.int k (k.wrap (a+b)))
 | .sub=>some (.int k (k.wrap (a-b)))
 | .mul=>some (.int k (k.wrap (a*b)))
 | .quo=>if b=0 then none else some (.int k (k.wrap (a.tdiv b)))
 | .rem=>if b=0 then none else some (.int k (a.tmod b))
 | .and=>some (.int k (k.wrap (BitVec.ofInt k.bits a&&&BitVec.ofInt k.bits b).toNat))
 | .or=>some (.int k (k.wrap (BitVec.ofInt k.bits a|||BitVec.ofInt k.bits b).toNat))
 | .xor=>some (.int k (k.wrap (BitVec.ofInt k.bits a^^^BitVec.ofInt k.bits b).toNat))
 | .andNot=>some (.int k (k.wrap (BitVec.ofInt k.bits a&&& ~~~BitVec.ofInt k.bits b).toNat))
 | .eql=>some (.bool (a==b))
 | .neq=>some (.bool (a !=b))
 | .lss=>some (.bool (a<b))
 | .leq=>some (.bool (a<=b))
 | .gtr=>some (.bool (a>b))
 | .geq=>some (.bool (a>=b))
 | .shl| .shr=>none
def Ql5(op:BinOp)(k:IntKind)(a b:Int):Option V:=
 if b<0 then none else
 match op with
 | .shl=>some (.int k (k.wrap (a*2^(min b.toNat k.bits))))
 | .shr=>some (.int k (a.fdiv (2^(min b.toNat k.bits))))
 |_=>none
def binS(op:BinOp)(a b:List UInt8):Option V:=
 match op with
 | .add=>if a.length+b.length<=140737488355328 then some (.str (a++b)) else none
 | .eql=>some (.bool (a==b))
 | .neq=>some (.bool (!(a==b)))
 | .lss=>some (.bool (Op.bytesLess a b))
 | .leq=>some (.bool (Op.bytesLess a b||a==b))
 | .gtr=>some (.bool (!(Op.bytesLess a b||a==b)))
 | .geq=>some (.bool (!(Op.bytesLess a b)))
 |_=>none
def Qec(P:Program)(t:TypeId)(xs:List V)(o:Nat):Option V:=
 match P.underlying t,sz P t with
 |some d,some n=>if Qsb d then some (.agg ((xs.drop o).take n)) else xs[o]?
 |_,_=>none
def Qdc(P:Program)(eq:TypeId->V->V->Option Bool):List Field->List V->List V->Option Bool
 |[],_,_=>some true
 |f::fs,xs,ys=>
  if f.name= "_" then Qdc P eq fs xs ys else
  match Qec P f.type xs f.offset,Qec P f.type ys f.offset with
  |some x,some y=>match eq f.type x y with
   |some true=>Qdc P eq fs xs ys
   |some false=>some false
   |none=>none
  |_,_=>none
def Qki(P:Program)(eq:TypeId->V->V->Option Bool)(e:TypeId)(m:Nat)(xs ys:List V):Nat->Nat->Option Bool
 |_,0=>some true
 |i,n+1=>
  match Qec P e xs (i*m),Qec P e ys (i*m) with
  |some x,some y=>match eq e x y with
   |some true=>Qki P eq e m xs ys (i+1) n
   |some false=>some false
   |none=>none
  |_,_=>none
def V.isNil:V->Option Bool
 | .nP| .nS| .nM| .nF| .nI=>some true
 | .ptr _ _ _| .iptr _ _| .rptr _ _| .iS _ _ _| .gS _ _ _ _ _| .mS _ _ _ _ _ _| .map _ _| .func _ _ _| .face _ _=>some false
 |_=>none
def Qmq(x y:V):Option Bool:=
 match x.isNil,y.isNil with
 |some true,some b=>some b
 |some false,some true=>some false
 |_,_=>none
def Qr8:V->V->Option Bool
 | .bool a,.bool b=>some (a==b)
 |_,_=>none
def Qr1:V->V->Option Bool
 | .int k a,.int k' b=>if k=k' then some (a==b) else none
 |_,_=>none
def Qri:V->V->Option Bool
 | .str a,.str b=>some (a==b)
 |_,_=>none
def eqV(P:Program):Nat->TypeId->V->V->Option Bool
 |0,_,_,_=>none
 |d+1,t,x,y=>
  match P.underlying t with
  |some .bool=>Qr8 x y
  |some (.int _)=>Qr1 x y
  |some .string=>Qri x y
  |some (.struct fs)=>(match x,y with
   | .agg xs,.agg ys=>if P.stoodInHeld t then none else Qdc P (eqV P d) fs.toList xs ys
   |_,_=>none)
  |some (.array n e)=>(match x,y,sz P e with
   | .agg xs,.agg ys,some m=>Qki P (eqV P d) e m xs ys 0 n
   |_,_,_=>none)
  |_=>none
def J4:TypeDesc->V->Bool
 | .pointer _,.nP| .pointer _,.ptr _ _ _| .pointer _,.iptr _ _| .pointer _,.rptr _ _=>true
 | .slice _,.nS| .slice _,.iS _ _ _| .slice _,.gS _ _ _ _ _| .slice _,.mS _ _ _ _ _ _=>true
 | .map _ _,.nM| .map _ _,.map _ _=>true
 | .func _ _ _,.nF| .func _ _ _,.func _ _ _=>true
 | .interface _,.nI| .interface _,.face _ _=>true
 |_,_=>false
def Qel:Operand->Bool
 | .const _=>true
 |_=>false
def Qjr(P:Program)(t:TypeId)(x y:Operand)(a b:V):Option Bool:=
 match P.underlying t with
 |some (.struct _)|some (.array _ _)=>if P.eqGuardType P.depth t then none else eqV P 8 t a b
 |some .bool|some (.int _)|some .string=>eqV P 8 t a b
 |some d=>
  if J4 d a&&J4 d b then
   (match a,b with
   | .nI,.nI=>if Qel x||Qel y then some true else none
   |_,_=>Qmq a b)
  else none
 |none=>none
def X7(P:Program)(op:BinOp)(t:TypeId)(x y:Operand)(a b:V):Option V:=
 match op,a,b with
 | .shl,.int k m,.int _ n=>Ql5 .shl k m n
 | .shr,.int k m,.int _ n=>Ql5 .shr k m n
 |_,.int k m,.int k' n=>if k=k' then Qj4 op k m n else none
 |_,.str m,.str n=>binS op m n
 | .eql,_,_=>(Qjr P t x y a b).map .bool
 | .neq,_,_=>(Qjr P t x y a b).map fun r=> .bool (!r)
 |_,_,_=>none
def unV(op:UnOp)(a:V):Option V:=
 match op,a with
 | .neg,.int k n=>some (.int k (k.wrap (0-n)))
 | .xor,.int k n=>some (.int k (k.wrap (BitVec.ofInt k.bits (if k.signed then-1 else k.max)^^^BitVec.ofInt k.bits n).toNat))
 | .not,.bool b=>some (.bool !b)
 |_,_=>none
def bytesOf:List V->Option (List UInt8)
 |[]=>some []
 | .int .u8 n::r=>(bytesOf r).map (UInt8.ofNat n.toNat:: ·)
 |_=>none
def Qp(l:List UInt8):List V:=l.map fun b=> .int .u8 b.toNat
abbrev Get:=Nat->Nat->Option O
def Z3(g:Get)(esz:Nat):V->Option (List V×Nat)
 | .nS=>some ([],0)
 | .iS cs n _=>if cs.length=n*esz then some (cs,n) else none
 | .gS _ _ cs n e=>if e=esz then some (cs,n) else none
 | .mS f s o n _ e=>(match g f s with
   |some (.cells xs)=>if e=esz/\o+n*esz<=xs.length then some ((xs.drop o).take (n*esz),n) else none
   |_=>none)
 | .mg f s n e=>(match g f s with
   |some (.mgrow xs k)=>if e=esz/\k=n/\xs.length=n*esz then some (xs,n) else none
   |_=>none)
 |_=>none
inductive Yv where
 |val(v:V)(w:Option (Nat×Nat×O))
 |call(f:FuncId)(args:List V)
 |round(f s:Nat)(args:List V)
 |panic(v:V)
def new(g:Get)(fr:Nat)(dst:Option Nat)(o:O)(v:Nat->V):Option Yv:=
 match dst with
 |some d=>(match g fr d with
  |none=>some (.val (v d) (some (fr,d,o)))
  |some _=>none)
 |none=>none
def asInt:V->Option Int
 | .int _ n=>some n
 |_=>none
def Qgf:Option V->Option (Option Int)
 |none=>some none
 |some (.int _ n)=>some (some n)
 |some _=>none
def Qfg(len:Nat)(cap:Nat)(lo hi mx:Option Int):Option (Nat×Nat×Nat):=
 if 0<=mx.getD cap/\mx.getD cap<=cap/\0<=hi.getD len/\hi.getD len<=mx.getD cap/\0<=lo.getD 0/\lo.getD 0<=hi.getD len/\(mx.isSome->hi.isSome) then
  some ((lo.getD 0).toNat,(hi.getD len).toNat,(mx.getD cap).toNat) else none
def Qnf(cells:List V)(len:Nat)(full:Bool)(esz:Nat)(lo hi mx:Option Int):Option V:=
 if cells.length=len*esz then
  match Qfg len len lo hi mx with
  |some (l,h,m)=>some (.iS ((cells.drop (l*esz)).take ((h-l)*esz)) (h-l) ((full||mx.isSome)&&m==h))
  |none=>none
 else none
def Qsn(f s o len:Nat)(cap:Option Nat)(esz:Nat)(lo hi mx:Option Int):Option V:=
 match cap with
 |some c=>(match Qfg len c lo hi mx with
  |some (l,h,m)=>some (.mS f s (if m=l then o else o+l*esz) (h-l) (some (m-l)) esz)
  |none=>none)
 |none=>(match Qfg len len lo hi mx with
  |some (l,h,m)=>
   if mx.isSome then some (.mS f s (if m=l then o else o+l*esz) (h-l) (some (m-l)) esz)
   else if l<len then some (.mS f s (o+l*esz) (h-l) none esz) else some (.iS [] 0 false)
  |none=>none)
def Qci(P:Program)(g:Get)(t:TypeId)(x:V)(lo hi mx:Option V):Option V:=
 match Qgf lo,Qgf hi,Qgf mx with
 |some lo,some hi,some mx=>
  (match P.underlying t with
  |some .string=>(match x with
   | .str s=>if mx.isSome then none else(match Qfg s.length s.length lo hi none with
     |some (l,h,_)=>some (.str ((s.drop l).take (h-l)))
     |none=>none)
   |_=>none)
  |some (.slice e)=>(match sz P e with
   |some n=>(match x with
    | .nS=>(match Qfg 0 0 lo hi mx with
      |some _=>some .nS
      |none=>none)
    | .iS cs len full=>Qnf cs len full n lo hi mx
    | .gS _ _ cs len e' =>if e' =n/\Zt cs then Qnf cs len false n lo hi mx else none
    | .mS f s o len cap e' =>if e' =n then Qsn f s o len cap n lo hi mx else none
    |_=>none)
   |none=>none)
  |some (.array k e)=>(match sz P e with
   |some n=>(match x with
    | .ptr f s o=>(match g f s with
      |some (.cells xs)=>if o+k*n<=xs.length then Qsn f s o k (some k) n lo hi mx else none
      |_=>none)
    | .iptr cs o=>if o+k*n<=cs.length then Qnf ((cs.drop o).take (k*n)) k true n lo hi mx else none
    |_=>none)
   |none=>none)
  |_=>none)
 |_,_,_=>none
def Zs(P:Program)(t:TypeId)(x i:V):Option V:=
 match i with
 | .int _ i=>
   (match P.underlying t with
   |some (.array k e)=>(match sz P e with
    |some n=>if 0<=i/\i<k then(match x with
     | .ptr f s o=>some (.ptr f s (o+i.toNat*n))
     | .iptr cs o=>some (.iptr cs (o+i.toNat*n))
     | .rptr cs o=>some (.rptr cs (o+i.toNat*n))
     | .mp f s o len=>some (.mp f s (o+i.toNat*n) len)
     |_=>none) else none
    |none=>none)
   |some (.slice e)=>(match sz P e with
    |some n=>(match x with
     | .iS cs len _=>if 0<=i/\i<len/\cs.length=len*n/\0<n then some (.iptr cs (i.toNat*n)) else none
     | .gS _ _ cs len e' =>if 0<=i/\i<len/\e' =n then some (if Zt cs then .iptr cs (i.toNat*n) else .rptr cs (i.toNat*n)) else none
     | .mS f s o len _ e' =>if 0<=i/\i<len/\e' =n then some (.ptr f s (o+i.toNat*n)) else none
     | .mg f s len e' =>if 0<=i/\i<len/\e' =n then some (.mp f s (i.toNat*n) len) else none
     |_=>none)
    |none=>none)
   |_=>none)
 |_=>none
def Qg2(P:Program)(t:TypeId)(x i:V):Option V:=
 match i with
 | .int _ i=>
   (match P.underlying t,x with
   |some (.array k e),.agg cs=>(match sz P e with
    |some n=>if 0<=i/\i<k then Qec P e cs (i.toNat*n) else none
    |none=>none)
   |some .string,.str s=>if 0<=i then(s[i.toNat]?).map fun b=> .int .u8 b.toNat else none
   |_,_=>none)
 |_=>none
def Qmx:V->V->Option Bool
 | .int k a,.int k' b=>if k=k' then some (a==b) else none
 | .str a,.str b=>some (a==b)
 | .bool a,.bool b=>some (a==b)
 |_,_=>none
def findKey(k:V):List (V×V)->Nat->Option (Option (Nat×V))
 |[],_=>some none
 |(k',x)::r,i=>match Qmx k k' with
  |some true=>some (some (i,x))
  |some false=>findKey k r (i+1)
  |none=>none
def Yo:TypeDesc->V->Bool
 | .int _,.int _ _| .string,.str _| .bool,.bool _=>true
 |_,_=>false
def Bu(P:Program)(g:Get)(t:TypeId)(m k:V)(ok:Bool):Option V:=
 match P.underlying t with
 |some (.map kt e)=>(match P.underlying kt,zer P e with
  |some kd,some z=>if Yo kd k then
    (match m with
    | .nM=>some (if ok then .tuple [Jw z,.bool false] else Jw z)
    | .map f s=>(match g f s with
      |some (.map es _ _)=>(match findKey k es 0 with
       |some (some (_,x))=>some (if ok then .tuple [x,.bool true] else x)
       |some none=>some (if ok then .tuple [Jw z,.bool false] else Jw z)
       |none=>none)
      |_=>none)
    |_=>none) else none
  |_,_=>none)
 |_=>none
def updateV(P:Program)(g:Get)(t:TypeId)(m k x:V):Option Yv:=
 match P.underlying t with
 |some (.map kt _)=>(match P.underlying kt with
  |some kd=>if Yo kd k then
    (match m with
    | .map f s=>(match g f s with
      |some (.map es bs clk)=>(match findKey k es 0 with
       |some (some (i,_))=>some (.val .bad (some (f,s,.map (es.set i (k,x)) bs clk)))
       |some none=>some (.val .bad (some (f,s,.map (es++[(k,x)]) (bs++[clk]) (clk+1))))
       |none=>none)
      |_=>none)
    |_=>none) else none
  |none=>none)
 |_=>none
def Qi9(d:Nat):Nat:=d+3000000
def Qlv(d:Nat):Nat:=d+4000000
def grown(mt:Nat->Bool)(g:Get)(fr:Nat)(dst:Option Nat)(cs _chk:List V)(n esz:Nat):Option Yv:=
 match dst with
 |some d=>
  if mt d then(if cs.all V.scalar then new g fr dst (.cells cs) (fun d=> .mS fr d 0 n none esz) else none)
  else if mt (Qi9 d) then(if cs.all V.scalar/\cs.length=n*esz then new g fr dst (.mgrow cs n) (fun d=> .mg fr d n esz) else none)
  else if mt (Qlv d) then(if Zt cs then some (.val (.iS cs n false) none) else none)
  else new g fr dst (.grow n) (fun d=> .gS fr d cs n esz)
 |none=>none
def Qa1(len bytes:Nat):Bool:=len*bytes<=35184372088832&&len<=35184372088832
def Qcj(P:Program)(g:Get)(t2:TypeId)(n by_:Nat)(z:List V)(x:V):Option (List V×Nat):=
 match P.underlying t2 with
 |some (.int _)=>(match x with
  | .int .i64 k=>if 0<=k/\Qa1 k.toNat by_ then some (zerosN z k.toNat,k.toNat) else none
  |_=>none)
 |some .string=>(match x with
  | .str l=>if n=1 then some (Qp l,l.length) else none
  |_=>none)
 |some (.slice _)=>Z3 g n x
 |_=>none
def Qst:V->Bool
 | .nS| .iS _ _ _| .gS _ _ _ _ _| .mS _ _ _ _ _ _| .mg _ _ _ _=>true
 |_=>false
def appendTo(mt:Nat->Bool)(fr:Nat)(g:Get)(dst:Option Nat)(n by_:Nat)(s:V)(new:List V)(m:Nat):Option Yv:=
 match s with
 | .nS=>if Qa1 m by_ then grown mt g fr dst new new m n else none
 | .iS cs len true=>if cs.length=len*n/\Qa1 (len+m) by_ then grown mt g fr dst (cs++new) new (len+m) n else none
 | .gS f sl cs len e' =>if e' =n/\Qa1 (len+m) by_/\new.all V.scalar then
    (match g f sl with
    |some (.grow k)=>if k=len then some (.val (.gS f sl (cs++new) (len+m) n) (some (f,sl,.grow (len+m)))) else none
    |_=>none) else none
 | .mg f sl len e' =>if e' =n/\Qa1 (len+m) by_/\new.all V.scalar/\new.length=m*n then
    (match g f sl with
    |some (.mgrow xs k)=>if k=len/\xs.length=len*n then some (.val (.mg f sl (len+m) n) (some (f,sl,.mgrow (xs++new) (len+m)))) else none
    |_=>none) else none
 | .mS f sl o len cap e' =>if e' =n/\Qa1 (len+m) by_ then
    (match g f sl with
    |some (.cells xs)=>
     (match cap with
     |some c=>
      if len+m<=c then(if o+(len+m)*n<=xs.length/\new.all V.scalar then some (.val (.mS f sl o (len+m) cap n) (some (f,sl,.cells (splice xs (o+len*n) new)))) else none)
      else if o+len*n<=xs.length then grown mt g fr dst ((xs.drop o).take (len*n)++new) ((xs.drop o).take (len*n)++new) (len+m) n else none
     |none=>if o+(len+m)*n<=xs.length/\new.all V.scalar/\0<n then some (.val (.mS f sl o (len+m) cap n) (some (f,sl,.cells (splice xs (o+len*n) new)))) else none)
    |_=>none) else none
 |_=>none
def Yi(P:Program)(mt:Nat->Bool)(fr:Nat)(g:Get)(dst:Option Nat)(t:TypeId)(t2:TypeId)(s x:V):Option Yv:=
 match P.underlying t with
 |some (.slice e)=>(match sz P e,byt P e,zeroCells P e with
  |some n,some by_,some z=>if z.length=n then
   (match Qcj P g t2 n by_ z x with
   |none=>none
   |some (_,0)=>if Qst s then some (.val s none) else none
   |some (new,m+1)=>appendTo mt fr g dst n by_ s new (m+1)) else none
  |_,_,_=>none)
 |_=>none
def Qaw(P:Program)(g:Get)(t:TypeId)(x:V):Option V:=
 match P.underlying t,x with
 |some .string,.str s=>some (.int .i64 s.length)
 |some (.array n _),_=>some (.int .i64 n)
 |some (.pointer a),_=>(match P.underlying a with
  |some (.array n _)=>some (.int .i64 n)
  |_=>none)
 |some (.slice _),.nS=>some (.int .i64 0)
 |some (.slice _),.iS _ n _=>some (.int .i64 n)
 |some (.slice _),.gS _ _ _ n _=>some (.int .i64 n)
 |some (.slice _),.mS _ _ _ n _ _=>some (.int .i64 n)
 |some (.slice _),.mg _ _ n _=>some (.int .i64 n)
 |some (.map _ _),.nM=>some (.int .i64 0)
 |some (.map _ _),.map f s=>(match g f s with
  |some (.map es _ _)=>some (.int .i64 es.length)
  |_=>none)
 |_,_=>none
def capV(P:Program)(t:TypeId)(x:V):Option V:=
 match P.underlying t,x with
 |some (.slice _),.nS=>some (.int .i64 0)
 |some (.slice _),.iS _ n true=>some (.int .i64 n)
 |some (.slice _),.mS _ _ _ _ (some c) _=>some (.int .i64 c)
 |_,_=>none
def Qf4(g:Get)(n:Nat):V->Option (List V×Nat)
 | .str l=>if n=1 then some (Qp l,l.length) else none
 |s=>Z3 g n s
def Qgv(g:Get)(n:Nat)(d:V)(cs:List V)(m:Nat):Option Yv:=
 match d with
 | .nS=>some (.val (.int .i64 0) none)
 | .mS f sl o len _ e' =>if e' =n then
    (match g f sl with
    |some (.cells xs)=>if o+len*n<=xs.length/\(cs.take (min m len*n)).all V.scalar then
      some (.val (.int .i64 (min m len:Nat)) (some (f,sl,.cells (splice xs o (cs.take (min m len*n)))))) else none
    |_=>none) else none
 |_=>none
def Qgq(P:Program)(g:Get)(t:TypeId)(d s:V):Option Yv:=
 match P.underlying t with
 |some (.slice e)=>(match sz P e with
  |some n=>(match Qf4 g n s with
   |some (cs,m)=>Qgv g n d cs m
   |none=>none)
  |none=>none)
 |_=>none
def Qi3(P:Program)(g:Get)(t:TypeId)(d:V):Option Yv:=
 match P.underlying t with
 |some (.slice e)=>(match d with
  | .nS=>some (.val (.tuple []) none)
  | .mS f sl o len _ e' =>(match sz P e,zeroCells P e with
    |some n,some z=>if e' =n/\z.length=n then(if len=0 then some (.val (.tuple []) none) else
     (match g f sl with
     |some (.cells xs)=>if o+len*n<=xs.length then some (.val (.tuple []) (some (f,sl,.cells (splice xs o (zerosN z len))))) else none
     |_=>none)) else none
    |_,_=>none)
  |_=>none)
 |_=>none
def X9(P:Program)(g:Get)(t:TypeId)(m k:V):Option Yv:=
 match P.underlying t with
 |some (.map kt _)=>(match P.underlying kt with
  |some kd=>if Yo kd k then
    (match m with
    | .nM=>some (.val (.tuple []) none)
    | .map f s=>(match g f s with
      |some (.map es bs clk)=>(match findKey k es 0 with
       |some (some (i,_))=>some (.val (.tuple []) (some (f,s,.map (es.eraseIdx i) (bs.eraseIdx i) clk)))
       |some none=>some (.val (.tuple []) (some (f,s,.map es bs clk)))
       |none=>none)
      |_=>none)
    |_=>none) else none
  |none=>none)
 |_=>none
def Qga(mx:Bool):V->List V->Option V
 |x,[]=>some x
 | .int k a,.int _ b::r=>Qga mx (.int k (if mx then(if b>a then b else a) else(if b<a then b else a))) r
 |_,_=>none
def convertV(P:Program)(g:Get)(src d:TypeId)(x:V):Option Yv:=
 match P.underlying src,P.underlying d,x with
 |some _,some (.int k),.int _ n=>some (.val (.int k (k.wrap n)) none)
 |some .string,some .string,.str s=>some (.val (.str s) none)
 |some .string,some (.slice e),.str s=>(match P.underlying e with
  |some (.int .u8)=>some (.val (.iS (Qp s) s.length false) none)
  |_=>none)
 |some (.slice e),some .string,x=>(match P.underlying e with
  |some (.int .u8)=>(match Z3 g 1 x with
   |some (cs,_)=>(bytesOf cs).map fun l=> .val (.str l) none
   |none=>none)
  |_=>none)
 |some (.slice _),some (.slice e),.mS f s 0 n (some m) 1=>if src=d/\n=m then(match P.underlying e,g f s with
  |some (.int .u8),some (.cells xs)=>if xs.length=n/\Zt xs=true then some (.val (.iS xs n true) (some (f,s,.dead))) else none
  |_,_=>none) else none
 |_,_,_=>none
def Qgu(P:Program)(mt:Nat->Bool)(dst:Option Nat)(s d:TypeId)(x:V):Option (List UInt8):=
 match dst,P.underlying s,P.underlying d,x with
 |some k,some .string,some (.slice e),.str l=>(match P.underlying e with
  |some (.int .u8)=>if mt (k+1000000) then some l else none
  |_=>none)
 |_,_,_,_=>none
def builtinV(P:Program)(mt:Nat->Bool)(fr:Nat)(g:Get)(dst:Option Nat)(b:Builtin)(ts:Array TypeId)(args:List V):Option Yv:=
 match b,args with
 | .append,[s,x]=>(match ts[0]?,ts[1]? with
   |some t,some t2=>Yi P mt fr g dst t t2 s x
   |_,_=>none)
 | .len,[x]=>(match ts[0]? with
   |some t=>(Qaw P g t x).map fun v=> .val v none
   |none=>none)
 | .cap,[x]=>(match ts[0]? with
   |some t=>(capV P t x).map fun v=> .val v none
   |none=>none)
 | .copy,[d,s]=>(match ts[0]? with
   |some t=>Qgq P g t d s
   |none=>none)
 | .delete,[m,k]=>(match ts[0]? with
   |some t=>X9 P g t m k
   |none=>none)
 | .clear,[d]=>(match ts[0]? with
   |some t=>Qi3 P g t d
   |none=>none)
 | .min,x::r=>(Qga false x r).map fun v=> .val v none
 | .max,x::r=>(Qga true x r).map fun v=> .val v none
 |_,_=>none
def Qb9(b:Nat):List (V×V)->List Nat->Option (V×V)
 |e::es,b' ::bs=>if b' =b then some e else Qb9 b es bs
 |_,_=>none
def rangeV(P:Program)(g:Get)(fr:Nat)(dst:Option Nat)(t:TypeId)(x:V):Option Yv:=
 match P.underlying t,x with
 |some .string,.str l=>new g fr dst (.siter l 0) (fun d=> .ptr fr d 0)
 |some (.map _ _),.nM=>new g fr dst (.iter none 0 [] 0) (fun d=> .ptr fr d 0)
 |some (.map _ _),.map f s=>(match g f s with
  |some (.map _ _ clk)=>new g fr dst (.iter (some (f,s)) clk [] clk) (fun d=> .ptr fr d 0)
  |_=>none)
 |_,_=>none
def nextS(g:Get)(x:V):Option Yv:=
 match x with
 | .ptr f s 0=>(match g f s with
   |some (.siter l pos)=>if pos<l.length then
     some (.val (.tuple [.bool true,.int .i64 pos,.int .i32 (Utf8.decode ⟨⟨l⟩⟩ pos).1]) (some (f,s,.siter l (pos+(Utf8.decode ⟨⟨l⟩⟩ pos).2))))
    else some (.val (.tuple [.bool false]) none)
   |_=>none)
 |_=>none
def Qgg(g:Get)(x:V):Option V:=
 match x with
 | .ptr f s 0=>(match g f s with
   |some (.iter (some m) _ seen stepped)=>(match g m.1 m.2,seen.getLast? with
    |some (.map es bs clk),some b=>if clk=stepped then(Qb9 b es bs).map fun e=> .tuple [e.1,e.2] else none
    |_,_=>none)
   |_=>none)
 |_=>none
def mapEntryV(P:Program)(g:Get)(t:TypeId)(m k:V):Option Yv:=
 match P.underlying t with
 |some (.map kt e)=>(match P.underlying kt,zer P e with
  |some kd,some z=>if Yo kd k then
    (match m with
    | .map f s=>(match g f s with
      |some (.map es bs clk)=>(match findKey k es 0 with
       |some (some (i,x))=>(match bs[i]? with
        |some b=>some (.val (.tuple [x,.int .i64 b]) (some (f,s,.map (es.set i (k,x)) bs clk)))
        |none=>none)
       |some none=>some (.val (.tuple [Jw z,.int .i64 clk]) (some (f,s,.map (es++[(k,Jw z)]) (bs++[clk]) (clk+1))))
       |none=>none)
      |_=>none)
    |_=>none) else none
  |_,_=>none)
 |_=>none
def Qff(b:Int)(x:V):List (V×V)->List Nat->Option (List (V×V))
 |e::es,b' ::bs=>if(b' :Int)=b then some ((e.1,x)::es) else(Qff b x es bs).map (e:: ·)
 |_,_=>none
def entryStoreV(g:Get)(m s x:V):Option Yv:=
 match m,s with
 | .map f sl,.int _ b=>(match g f sl with
   |some (.map es bs clk)=>(Qff b x es bs).map fun es=> .val .bad (some (f,sl,.map es bs clk))
   |_=>none)
 |_,_=>none
def Qnn(d:Nat):Nat:=d+2000000
def K0(P:Program)(mt:Nat->Bool)(fr:Nat)(g:Get)(r:Operand->V)(o:Oper):Option Yv:=
 match o.op with
 | .move x| .assign x=>some (.val (r x) none)
 | .pick c a b=>(match r c with
   | .bool t=>some (.val (if t then r a else r b) none)
   |_=>none)
 | .alloc t=>(zeroCells P t).bind fun z=>new g fr o.dst (.cells z) (fun d=> .ptr fr d 0)
 | .box _ x=>((r x).cells).bind fun z=>match o.dst with
   |some d=>if mt (Qnn d) then new g fr o.dst (.cells z) (fun d=> .ptr fr d 0) else if Zt z then some (.val (.iptr z 0) none) else none
   |none=>none
 | .build t ps=>(Qac P t (ps.toList.map fun p=>(p.1,r p.2))).map fun v=> .val v none
 | .buildSlice t n ps=>(match P.underlying t with
   |some (.slice e)=>(match sz P e,zeroCells P e with
    |some k,some z=>if n*k<=16777216/\z.length=k then
      (match Bn (fun i=>some (i*k,k)) (if n*k=0 then[] else zerosN z n) (ps.toList.map fun p=>(p.1,r p.2)) with
      |some cs=>
       (match o.dst with
       |some d=>if mt d then new g fr o.dst (.cells cs) (fun d=> .mS fr d 0 n (some n) k) else if Zt cs then some (.val (.iS cs n true) none) else none
       |none=>none)
      |none=>none) else none
    |_,_=>none)
   |_=>none)
 | .load t a=>(match r a with
   | .ptr f s o=>(match g f s with
     |some (.cells xs)=>(Zf P t xs o).map fun v=> .val v none
     |_=>none)
   | .iptr cs o=>(Zf P t cs o).map fun v=> .val v none
   | .rptr cs o=>(Zf P t cs o).map fun v=> .val v none
   | .mp f s o len=>(match g f s with
     |some (.mgrow xs k)=>if k=len then(Zf P t xs o).map fun v=> .val v none else none
     |_=>none)
   |_=>none)
 | .store t a x=>(match r a,(r x).cells,sz P t with
   | .ptr f s o,some cs,some n=>(match g f s with
     |some (.cells xs)=>if cs.length=n/\o+n<=xs.length then some (.val .bad (some (f,s,.cells (splice xs o cs)))) else none
     |_=>none)
   | .mp f s o len,some cs,some n=>(match g f s with
     |some (.mgrow xs k)=>if k=len/\cs.length=n/\o+n<=xs.length then some (.val .bad (some (f,s,.mgrow (splice xs o cs) k))) else none
     |_=>none)
   |_,_,_=>none)
 | .nilCheck x=>(match r x with
   | .ptr f s o=>some (.val (.ptr f s o) none)
   | .iptr cs o=>some (.val (.iptr cs o) none)
   | .rptr cs o=>some (.val (.rptr cs o) none)
   | .mp f s o len=>some (.val (.mp f s o len) none)
   | .func (.func f) a b=>some (.val (.func (.func f) a b) none)
   | .yield f s=>some (.val (.yield f s) none)
   | .face t v=>some (.val (.face t v) none)
   |_=>none)
 | .binOp op t x y _=>(X7 P op t x y (r x) (r y)).map fun v=> .val v none
 | .unOp op _ x=>(unV op (r x)).map fun v=> .val v none
 | .convert s d x=>(match Qgu P mt o.dst s d (r x) with
   |some l=>new g fr o.dst (.grow l.length) (fun k=> .gS fr k (Qp l) l.length 1)
   |none=>convertV P g s d (r x))
 | .sliceToArrayPointer t x=>(match P.underlying t with
   |some (.array n e)=>(match sz P e,r x with
    |some k,.iS cs len _=>if n<=len/\0<n/\cs.length=len*k/\0<k then some (.val (.iptr cs 0) none) else none
    |some k,.gS _ _ cs len e' =>if n<=len/\e' =k/\Zt cs then some (.val (.iptr cs 0) none) else none
    |some k,.mS f s o len _ e' =>if n<=len/\e' =k then some (.val (.ptr f s o) none) else none
    |_,_=>none)
   |_=>none)
 | .makeInterface t x=>(match P.underlying t with
   |some (.interface _)|none=>none
   |some _=>some (.val (.face t (r x)) none))
 | .makeFunc fn a c=>some (.val (.func fn (a.toList.map r) (c.toList.map r)) none)
 | .makeMap t h=>(match P.underlying t,h with
   |some (.map _ _),none=>new g fr o.dst (.map [] [] 0) (fun d=> .map fr d)
   |some (.map _ _),some x=>(match r x with
    | .int _ _=>new g fr o.dst (.map [] [] 0) (fun d=> .map fr d)
    |_=>none)
   |_,_=>none)
 | .makeSlice t l c=>(match P.underlying t with
   |some (.slice e)=>(match sz P e,byt P e,zeroCells P e,r l,r c with
    |some k,some by_,some z,.int .i64 l,.int .i64 c=>
     if 0<=l/\l<=c/\Qa1 c.toNat by_/\z.length=k then
      new g fr o.dst (.cells (zerosN z c.toNat)) (fun d=> .mS fr d 0 l.toNat (some c.toNat) k) else none
    |_,_,_,_,_=>none)
   |_=>none)
 | .slice t x lo hi mx=>(Qci P g t (r x) (lo.map r) (hi.map r) (mx.map r)).map fun v=> .val v none
 | .fieldAddr t x i=>(match P.underlying t with
   |some (.struct fs)=>(match fs[i]? with
    |some f=>(match sz P f.type with
     |some n=>if n=0 then none else(match r x with
      | .ptr a b o=>some (.val (.ptr a b (o+f.offset)) none)
      | .iptr cs o=>some (.val (.iptr cs (o+f.offset)) none)
      | .rptr cs o=>some (.val (.rptr cs (o+f.offset)) none)
      | .mp a b o len=>some (.val (.mp a b (o+f.offset) len) none)
      |_=>none)
     |none=>none)
    |none=>none)
   |_=>none)
 | .field t x i=>(match P.underlying t,r x with
   |some (.struct fs),.agg cs=>(match fs[i]? with
    |some f=>(Qec P f.type cs f.offset).map fun v=> .val v none
    |none=>none)
   |_,_=>none)
 | .indexAddr t x i=>(Zs P t (r x) (r i)).map fun v=> .val v none
 | .index t x i=>(Qg2 P t (r x) (r i)).map fun v=> .val v none
 | .lookup t m k ok=>(Bu P g t (r m) (r k) ok).map fun v=> .val v none
 | .mapUpdate t m k x| .insert t m k x=>updateV P g t (r m) (r k) (r x)
 | .extract t i=>(match r t with
   | .tuple vs=>(vs[i]?).map fun v=> .val v none
   |_=>none)
 | .typeAssert x _ t ok=>(match P.underlying t,r x,zer P t with
   |some (.interface _),_,_|none,_,_|_,_,none=>none
   |_,.nI,some z=>if ok then some (.val (.tuple [Jw z,.bool false]) none) else none
   |_,.face u v,some z=>if u=t then some (.val (if ok then .tuple [v,.bool true] else v) none) else if ok then some (.val (.tuple [Jw z,.bool false]) none) else none
   |_,_,_=>none)
 | .call c=>(match c.callee with
   | .builtin b=>builtinV P mt fr g o.dst b c.argTypes (c.args.toList.map r)
   | .value f=>(match r f with
     | .func (.func f) first captured=>some (.call f (first++c.args.toList.map r++captured))
     | .yield f s=>some (.round f s (c.args.toList.map r))
     |_=>none)
   | .invoke _ _=>none)
 | .panic x=>(match r x with
   | .face t v=>some (.panic (.face t v))
   |_=>none)
 | .range t x=>rangeV P g fr o.dst t (r x)
 | .next x b=>if b then nextS g (r x) else none
 | .entry x=>(Qgg g (r x)).map fun v=> .val v none
 | .mapEntry t m k=>mapEntryV P g t (r m) (r k)
 | .entryStore _ m s x=>entryStoreV g (r m) (r s) (r x)
 |_=>none
variable {P : Program} {E : Env}
theorem Qw{t:TypeId}{d:TypeDesc}(h:P.underlying t=some d)(w:World):(underlying t).run P w= .ok d w:=run_underlying h w
theorem K8{t:TypeId}{n:Nat}(h:sz P t=some n)(w:World):(sizeOf t).run P w= .ok n w:=by
 unfold sz at h;cases hq:P.info? t with
 |none=>rw[hq] at h;cases h
 |some i=>
  rw[hq] at h;simp only[Ze4,Zic] at h;simp[sizeOf,typeInfo,hq,h]
theorem Qb6{t:TypeId}{z:Value}(h:zer P t=some z)(w:World):(zeroValue t).run P w= .ok z w:=by
 unfold zer at h;cases hq:P.info? t with
 |none=>rw[hq] at h;cases h
 |some i=>
  rw[hq] at h;simp only[Zf4] at h;simp[zeroValue,typeInfo,hq,h]
theorem Qj6{t:TypeId}{n:Nat}(h:byt P t=some n)(w:World):∃i,(typeInfo t).run P w= .ok i w/\i.bytes=n:=by
 unfold byt at h;cases hq:P.info? t with
 |none=>rw[hq] at h;cases h
 |some i=>
  rw[hq] at h;simp only[Ze4,Zic] at h;exact⟨i,by simp[typeInfo,hq],h⟩
theorem Qq2{t:TypeId}{d:TypeDesc}(h:P.underlying t=some d)(w:World):(isAgg t).run P w= .ok (Qsb d) w:=by simp only[isAgg,Zie,Qw h,Zid];cases d<;>rfl
theorem Qds(E:Env)(v:Value):Rel E (Qbd v) v:=by unfold Qbd;split<;>simp[Rel]
theorem Qex(E:Env):∀(l:List Value),Qr E (l.map Qbd) l
 |[]=> .nil
 |v::l=> .cons (Qds E v) (Qex E l)
theorem Bp(E:Env)(v:Value):Rel E (Jw v) v:=by
 cases v with
 |agg cs=>simp only[Jw,Rel];exact⟨cs.toList,by simp,Qex E _⟩
 |iface t v=>simp only[Jw,Rel];exact⟨v,rfl,Qds E v⟩
 |tuple cs=>simp only[Jw,Rel];exact⟨cs.toList,by simp,Qex E _⟩
 |_=>first|exact Qds E _|simpa only[Jw] using Qds E _
theorem Qqq{v:Value}(h:v.oneCell' =true):v.cells= #[v]:=by cases v<;>first|rfl|(simp[Value.oneCell'] at h)
theorem Rel.cells{x:V}{v:Value}{cs:List V}(h:Rel E x v)(hc:x.cells=some cs):∃vs,v.cells=⟨vs⟩/\Qr E cs vs/\cs.all V.scalar=true:=by
 have one:x.scalar=true->x.cells=some [x]->∃vs,v.cells=⟨vs⟩/\Qr E cs vs/\cs.all V.scalar=true:=by intro hs hx;rw[hx] at hc;cases hc;exact⟨[v],Qqq (h.oneCell hs),.cons h .nil,by simp[hs]⟩
 cases x with
 |agg xs=>
  simp only[V.cells] at hc;split at hc
  . rename_i ha;cases hc;simp only[Rel] at h;obtain⟨vs,rfl,hl⟩:=h;exact⟨vs,rfl,hl,ha⟩
  . cases hc
 |bad=>cases hc
 |tuple=>cases hc
 |_=>exact one rfl rfl
theorem Qbm{E:Env}{xs:List V}:∀{vs:List Value},Qr E xs vs->xs.all V.scalar=true->∀v∈vs,v.oneCell' =true:=by
 induction xs with
 |nil=>intro vs h _ v hv;rw[Qr.nil_iff] at h;subst h;cases hv
 |cons x xs ih=>
  intro vs h ha v hv;obtain⟨u,r,rfl,hu,hr⟩:=Qr.cons_iff.1 h;simp only[Zht,Zfr] at ha;rcases Zfi.1 hv with rfl|hv
  . exact hu.oneCell ha.1
  . exact ih hr ha.2 v hv
theorem Qr.splice{xs cs:List V}{vs us:List Value}(h:Qr E xs vs)(g:Qr E cs us)(o:Nat):Qr E (splice xs o cs) (AM.splice vs o us):=by unfold AM.splice;rw[g.length];exact((h.take o).append g).append (h.drop _)
theorem Xf{α:Type}(xs cs:List α)(o:Nat)(h:o+cs.length<=xs.length):(splice xs o cs).length=xs.length:=by simp[splice];omega
theorem Qct{xs cs:List V}(o:Nat)(h:xs.all V.scalar=true)(g:cs.all V.scalar=true):(splice xs o cs).all V.scalar=true:=by
 simp only[splice,List.all_append,Zfr];refine⟨⟨?_,g⟩,?_⟩
 . rw[Zf1] at h⊢;exact fun x hx=>h x (List.mem_of_mem_take hx)
 . rw[Zf1] at h⊢;exact fun x hx=>h x (List.mem_of_mem_drop hx)
def Qgm(w:World)(b off:Nat)(vs:List Value):Prop:=∀i v,vs[i]?=some v->w.cell? ⟨b,off+i,none⟩=some v
theorem Row.lies{b off:Nat}{vs:List Value}(h:Row E b off vs):Qgm E.w b off vs:=fun i v hv=>(h i v hv).1
theorem Kk(b o n:Nat):(⟨b,o,none⟩:Addr).add n=⟨b,o+n,none⟩:=by unfold Addr.add;split<;>simp_all
theorem Qgm.take{w:World}{b off:Nat}{vs:List Value}(h:Qgm w b off vs)(o n:Nat):Qgm w b (off+o) ((vs.drop o).take n):=by
 intro i v hv;rw[Zfh] at hv;split at hv
 . rw[Zhv] at hv;have:=h (o+i) v hv;rwa[<-Zfq] at this
 . cases hv
theorem Qeg{w:World}{b off:Nat}{vs:List Value}(h:Qgm w b off vs):(loadCells ⟨b,off,none⟩ vs.length).run P w= .ok ⟨vs⟩ w:=
 run_loadCells_list w _ vs (fun j v hv=>by rw[Kk];exact h j v hv)
theorem Qb3{w:World}{t:TypeId}{xs:List V}{o:Nat}{x:V}{b off:Nat}{vs:List Value}(h:Zf P t xs o=some x)(hr:Qr E xs vs)(hl:Qgm w b off vs):
 ∃v,(loadVar t ⟨b,off+o,none⟩).run P w= .ok v w/\Rel E x v:=by
 unfold Zf at h;split at h
 . rename_i d n hd hn;simp only[loadVar,Zie,Qq2 hd,Zid];cases ha:Qsb d with
   |true=>
    simp only[ha,if_true] at h⊢;split at h
    . rename_i hle;cases h;have hlen:((vs.drop o).take n).length=n:=by
       have:=hr.length;simp;omega
      have:=Qeg (P:=P) (hl.take o n);rw[hlen] at this;refine⟨.agg ⟨(vs.drop o).take n⟩,?_,?_⟩
      . simp only[Zie,K8 hn,Zid,this,Zif]
      . simp only[Rel];exact⟨_,rfl,(hr.drop o).take n⟩
    . cases h
   |false=>
    simp only[ha,Ze7,if_false] at h⊢;obtain⟨v,hv,hrel⟩:=hr.get h;refine⟨v,?_,hrel⟩;rw[run_load,hl o v hv]
 . cases h
theorem Qbu{w:World}{t:TypeId}{xs:List V}{o:Nat}{x:V}{vs:List Value}(h:Qec P t xs o=some x)(hr:Qr E xs vs):
 ∃v,(part t ⟨vs⟩ o).run P w= .ok v w/\Rel E x v:=by
 unfold Qec at h;split at h
 . rename_i d n hd hn;simp only[part,Zie,Qq2 hd,Zid];cases ha:Qsb d with
   |true=>
    simp only[ha,if_true] at h⊢;cases h;refine⟨.agg ⟨(vs.drop o).take n⟩,?_,?_⟩
    . simp only[Zie,K8 hn,Zid,Zif];refine congrArg (fun a=>Result.ok (Value.agg a) w) ?_;apply Array.ext';simp[List.extract_eq_take_drop]
    . simp only[Rel];exact⟨_,rfl,(hr.drop o).take n⟩
   |false=>
    simp only[ha,Ze7,if_false] at h⊢;obtain⟨v,hv,hrel⟩:=hr.get h;refine⟨v,?_,hrel⟩;have:(⟨vs⟩:Array Value)[o]?=some v:=by simpa using hv
    simp[this]
 . cases h
theorem Qx8{w:World}{op:BinOp}{k:IntKind}{a b:Int}{x:V}(t:TypeId)(h:Qj4 op k a b=some x):
 ∃v,(binOp op t (.int k a) (.int k b)).run P w= .ok v w/\Rel E x v:=by
 cases op<;>simp only[Qj4] at h
 case add=>cases h;exact⟨_,by simp[binOp,Op.intArith];rfl,by simp[Rel]⟩
 case sub=>cases h;exact⟨_,by simp[binOp,Op.intArith];rfl,by simp[Rel]⟩
 case mul=>cases h;exact⟨_,by simp[binOp,Op.intArith];rfl,by simp[Rel]⟩
 case quo=>
  split at h
  . cases h
  . rename_i hb;cases h;exact⟨_,by simp[binOp,Op.intDiv,hb];rfl,by simp[Rel]⟩
 case rem=>
  split at h
  . cases h
  . rename_i hb;cases h;exact⟨_,by simp[binOp,Op.intDiv,hb];rfl,by simp[Rel]⟩
 case and=>cases h;exact⟨_,by simp only[binOp,ne_eq,not_true,if_false,Op.intBits,Zif];rfl,by simp[Rel]⟩
 case or=>cases h;exact⟨_,by simp only[binOp,ne_eq,not_true,if_false,Op.intBits,Zif];rfl,by simp[Rel]⟩
 case xor=>cases h;exact⟨_,by simp only[binOp,ne_eq,not_true,if_false,Op.intBits,Zif];rfl,by simp[Rel]⟩
 case andNot=>cases h;exact⟨_,by simp only[binOp,ne_eq,not_true,if_false,Op.intBits,Zif];rfl,by simp[Rel]⟩
 case eql=>cases h;exact⟨_,by simp[binOp,Op.intCmp];rfl,by simp[Rel]⟩
 case neq=>cases h;exact⟨_,by simp[binOp,Op.intCmp];rfl,by simp[Rel]⟩
 case lss=>cases h;exact⟨_,by simp[binOp,Op.intCmp];rfl,by simp[Rel]⟩
 case leq=>cases h;exact⟨_,by simp[binOp,Op.intCmp];rfl,by simp[Rel]⟩
 case gtr=>cases h;exact⟨_,by simp[binOp,Op.intCmp];rfl,by simp[Rel]⟩
 case geq=>cases h;exact⟨_,by simp[binOp,Op.intCmp];rfl,by simp[Rel]⟩
 case shl=>cases h
 case shr=>cases h
theorem Qk5{w:World}{op:BinOp}{k k' :IntKind}{a b:Int}{x:V}(h:Ql5 op k a b=some x):
 ∃v,(Op.shift op k a k' b).run P w= .ok v w/\Rel E x v:=by
 unfold Ql5 at h;split at h
 . cases h
 . rename_i hb;cases op<;>simp only[reduceCtorEq] at h
   case shl=>cases h;exact⟨_,by simp only[Op.shift,hb,if_false,Zif];rfl,by simp[Rel]⟩
   case shr=>cases h;exact⟨_,by simp only[Op.shift,hb,if_false,Zif];rfl,by simp[Rel]⟩
theorem Qxa{w:World}{op:BinOp}{a b:List UInt8}{x:V}(h:binS op a b=some x):
 ∃v,(Op.stringOp op ⟨⟨a⟩⟩ ⟨⟨b⟩⟩).run P w= .ok v w/\Rel E x v:=by
 have e1:(⟨⟨a⟩⟩:ByteArray).toList=a:=ByteArray.toList_mk a;have e2:(⟨⟨b⟩⟩:ByteArray).toList=b:=ByteArray.toList_mk b;cases op<;>simp only[binS,reduceCtorEq] at h
 case add=>
  split at h
  . rename_i hle;cases h;have h1:(⟨⟨a⟩⟩:ByteArray).size=a.length:=rfl;have h2:(⟨⟨b⟩⟩:ByteArray).size=b.length:=rfl;have hm:IntKind.i64.max=9223372036854775807:=by decide
    have h3:¬((((⟨⟨a⟩⟩:ByteArray).size+(⟨⟨b⟩⟩:ByteArray).size:Nat):Int)>IntKind.i64.max):=by rw[h1,h2,hm];omega
    refine⟨.string (⟨⟨a⟩⟩++⟨⟨b⟩⟩),by simp only[Op.stringOp,h3,if_false,Zif],?_⟩;simp only[Rel,Value.string.injEq];apply ByteArray.ext;simp
  . cases h
 case eql=>cases h;exact⟨_,by simp only[Op.stringOp,e1,e2,Zif];rfl,by simp[Rel]⟩
 case neq=>cases h;exact⟨_,by simp only[Op.stringOp,e1,e2,Zif];rfl,by simp[Rel]⟩
 case lss=>cases h;exact⟨_,by simp only[Op.stringOp,e1,e2,Zif];rfl,by simp[Rel]⟩
 case leq=>cases h;exact⟨_,by simp only[Op.stringOp,e1,e2,Zif];rfl,by simp[Rel]⟩
 case gtr=>cases h;exact⟨_,by simp only[Op.stringOp,e1,e2,Zif];rfl,by simp[Rel]⟩
 case geq=>cases h;exact⟨_,by simp only[Op.stringOp,e1,e2,Zif];rfl,by simp[Rel]⟩
theorem Qz6{w:World}{op:UnOp}{a:V}{x:V}{c:Value}(h:unV op a=some x)(hr:Rel E a c):
 ∃v,(Op.unary op c).run P w= .ok v w/\Rel E x v:=by
 unfold unV at h;split at h
 . cases h;simp only[Rel] at hr;subst hr;exact⟨_,by simp only[Op.unary,Op.intArith,Zif];rfl,by simp[Rel]⟩
 . cases h;simp only[Rel] at hr;subst hr;exact⟨_,by simp only[Op.unary,Op.intBits,Zif];rfl,by simp[Rel]⟩
 . cases h;simp only[Rel] at hr;subst hr;exact⟨_,by simp only[Op.unary,Zif];rfl,by simp[Rel]⟩
 . cases h
end Go.AM
namespace Go.AM
variable {P : Program} {E : Env}
theorem Qmz(off:Nat):∀(us vs:List Value) (k:Nat),off+k+us.length<=vs.length->
 (us.zipIdx k).foldl (fun(cs:Array Value) (x:Value×Nat)=>cs.setIfInBounds (off+x.2) x.1) ⟨vs⟩=⟨vs.take (off+k)++us++vs.drop (off+k+us.length)⟩
 |[],vs,k,_=>by simp
 |u::us,vs,k,h=>by
  simp only[List.zipIdx_cons,List.foldl_cons];have e:(⟨vs⟩:Array Value).setIfInBounds (off+k) u=⟨vs.set (off+k) u⟩:=by simp
  rw[e,Qmz off us (vs.set (off+k) u) (k+1) (by simp at h⊢;omega)];congr 1;have:=list_seg_step vs (off+k) u us (by simp at h;omega);simpa [Zfq,Nat.add_comm 1] using this
theorem Qjy(off:Nat)(us vs:List Value)(h:off+us.length<=vs.length):
 (⟨us⟩:Array Value).zipIdx.foldl (fun(cs:Array Value) (x:Value×Nat)=>cs.setIfInBounds (off+x.2) x.1) ⟨vs⟩=⟨splice vs off us⟩:=by
 rw[<-Array.foldl_toList];have:=Qmz off us vs 0 (by simpa using h);simpa [splice] using this
theorem Qc1(place:Nat->Option (Nat×Nat)):∀(parts:List (Nat×V)) (xs:List V) (vs:List Value) (cparts:List (Nat×Value)) (ys:List V),
 Qr E xs vs->xs.all V.scalar=true->parts.length=cparts.length->(∀(i:Nat) (p:Nat×V) (c:Nat×Value),parts[i]?=some p->cparts[i]?=some c->p.1=c.1/\Rel E p.2 c.2)->Bn place xs parts=some ys->
 ∃us,Instr.fill place ⟨vs⟩ cparts=some ⟨us⟩/\Qr E ys us/\ys.all V.scalar=true
 |[],xs,vs,cparts,ys,hr,ha,hl,_,h=>by
  cases cparts with
  |cons=>simp at hl
  |nil=>cases h;exact⟨vs,rfl,hr,ha⟩
 |(i,v)::parts,xs,vs,cparts,ys,hr,ha,hl,hp,h=>by
  cases cparts with
  |nil=>simp at hl
  |cons c cparts=>
   obtain⟨j,cv⟩:=c;obtain⟨h1,h2⟩:=hp 0 _ _ rfl rfl;simp only at h1 h2;subst h1;simp only[Bn] at h;split at h
   . rename_i off size cs hpl hcs;split at h
     . rename_i hle;obtain⟨us,hus,hrel,hsc⟩:=h2.cells hcs;have hlen:us.length=size:=by rw[<-hrel.length];exact hle.1
       have hxl:=hr.length;have hle2:off+us.length<=vs.length:=by rw[<-hrel.length,<-hxl];exact hle.2
       obtain⟨ws,hws,hr',ha'⟩:=Qc1 place parts (splice xs off cs) (splice vs off us) cparts ys (hr.splice hrel off) (Qct off ha hsc) (by simpa using hl)
        (fun i p c a b=>hp (i+1) p c (by simpa using a) (by simpa using b)) h
       refine⟨ws,?_,hr',ha'⟩;simp only[Instr.fill,hpl,hus];have hfold:=Qjy off us vs hle2;rw[if_neg]
       . rw[hfold];exact hws
       . simp[hlen];omega
     . cases h
   . cases h
theorem Qky(w:World):∀(fs:List Field) (ps:List (Nat×Nat)),Qp8 P fs=some ps->
 (fs.mapM (m:=Sem) fun f=>do pure (f.offset,<-sizeOf f.type)).run P w= .ok ps w
 |[],ps,h=>by cases h;rfl
 |f::fs,ps,h=>by
  simp only[Qp8] at h;split at h
  . rename_i n r h1 h2;cases h;simp only[List.mapM_cons,Zie,K8 h1,Zid,Zif,Qky w fs r h2]
  . cases h
theorem Kd{t:TypeId}{z:List V}(h:zeroCells P t=some z)(w:World):
 ∃zv vs,(zeroValue t).run P w= .ok zv w/\zv.cells=⟨vs⟩/\(∀E:Env,Qr E z vs)/\z.all V.scalar=true:=by
 unfold zeroCells at h;cases hz:zer P t with
 |none=>rw[hz] at h;cases h
 |some zv=>
  rw[hz] at h;simp only[Zf4] at h;have key:∀E:Env,∃vs,zv.cells=⟨vs⟩/\Qr E z vs/\z.all V.scalar=true:=fun E=>(Bp E zv).cells h;refine⟨zv,zv.cells.toList,Qb6 hz w,by simp,fun E=>?_,?_⟩
  . obtain⟨vs,h1,h2,_⟩:=key E;rw[h1];exact h2
  . obtain⟨vs,_,_,h3⟩:=key {w:=w,mu:=fun _ _=>none,reg:=fun _ _=>none,mod:=fun _ _=>False,tab:=fun _ _=>none};exact h3
theorem Qsh{t:TypeId}{parts:List (Nat×V)}{x:V}(w:World)(h:Qac P t parts=some x)(cparts:Array (Nat×Value))(hl:parts.length=cparts.size)
 (hp:∀(i:Nat) (p:Nat×V) (c:Nat×Value),parts[i]?=some p->cparts[i]?=some c->p.1=c.1/\Rel E p.2 c.2):
 ∃v,(Instr.build t cparts).run P w= .ok v w/\Rel E x v:=by
 unfold Qac at h;have hp' :∀(i:Nat) (p:Nat×V) (c:Nat×Value),parts[i]?=some p->cparts.toList[i]?=some c->p.1=c.1/\Rel E p.2 c.2:=
  fun i p c a b=>hp i p c a (by simpa using b)
 split at h
 . rename_i z fs hz hu;obtain⟨zv,vs,h1,h2,h3,h4⟩:=Kd hz w;split at h
   . rename_i ps hps;cases hf:Bn (fun i=>ps[i]?) z parts with
     |none=>rw[hf] at h;cases h
     |some ys=>
      rw[hf] at h;cases h;obtain⟨us,hus,hr,_⟩:=Qc1 (fun i=>ps[i]?) parts z vs cparts.toList ys (h3 E) h4 (by simpa using hl) hp' hf;refine⟨.agg ⟨us⟩,?_,by simp only[Rel];exact⟨us,rfl,hr⟩⟩;have hm:(fs.mapM (m:=Sem) fun f=>do pure (f.offset,<-sizeOf f.type)).run P w= .ok ⟨ps⟩ w:=by rw[Array.mapM_eq_mapM_toList];simp only[Sem.run_map,Qky w fs.toList ps hps,Zid]
      have hus' :Instr.fill (fun i=>(⟨ps⟩:Array (Nat×Nat))[i]?) ⟨vs⟩ cparts.toList=some ⟨us⟩:=by simpa using hus
      simp only[Instr.build,Zie,h1,Zid,Qw hu,hm,h2,hus',Zif]
   . cases h
 . rename_i z n e hz hu;obtain⟨zv,vs,h1,h2,h3,h4⟩:=Kd hz w;split at h
   . rename_i k hk;cases hf:Bn (fun i=>some (i*k,k)) z parts with
     |none=>rw[hf] at h;cases h
     |some ys=>
      rw[hf] at h;cases h;obtain⟨us,hus,hr,_⟩:=Qc1 (fun i=>some (i*k,k)) parts z vs cparts.toList ys (h3 E) h4 (by simpa using hl) hp' hf;refine⟨.agg ⟨us⟩,?_,by simp only[Rel];exact⟨us,rfl,hr⟩⟩;simp only[Instr.build,Zie,h1,Zid,Qw hu,K8 hk,h2,hus,Zif]
   . cases h
 . cases h
theorem Qr.zerosN{xs:List V}{vs:List Value}(h:Qr E xs vs):∀n,Qr E (zerosN xs n) (zerosN vs n)
 |0=> .nil
 |n+1=>h.append (Qr.zerosN h n)
theorem Kt{α:Type}(z:List α):∀n,(zerosN z n).length=n*z.length
 |0=>by simp[zerosN]
 |n+1=>by simp[zerosN,Kt z n,Zhw,Nat.add_comm]
theorem Qfw{z:List V}(h:z.all V.scalar=true):∀n,(zerosN z n).all V.scalar=true
 |0=>rfl
 |n+1=>by rw[zerosN,List.all_append,h,Qfw h n];rfl
theorem Qhu(zs:List Value):∀n,((Array.range (n*zs.length)).map fun i=>(⟨zs⟩:Array Value)[i%(⟨zs⟩:Array Value).size]!)=⟨zerosN zs n⟩:=by
 intro n;apply Array.ext';simp only[Array.toList_map,Array.toList_range]
 induction n with
 |zero=>simp[AM.zerosN]
 |succ n ih=>
  rw[show(n+1)*zs.length=zs.length+n*zs.length by rw[Zhw,Nat.one_mul,Nat.add_comm],List.range_add,Zgw,AM.zerosN];congr 1
  . apply List.ext_getElem?;intro i;simp only[Zhx];by_cases hi:i<zs.length
    . simp[hi,Nat.mod_eq_of_lt hi]
    . simp[hi]
  . rw[Zfp,<-ih];apply Zgs;intro i _;simp
theorem Qbn{len cap:Nat}{lo hi mx:Option Int}{l h m:Nat}(hc:Qfg len cap lo hi mx=some (l,h,m)):
 (lo.getD 0=l)/\(hi.getD len=h)/\(mx.getD cap=m)/\l<=h/\h<=m/\m<=cap/\(mx.isSome=true->hi.isSome=true):=by
 unfold Qfg at hc;split at hc
 . rename_i hh;simp only[Zic,Prod.mk.injEq] at hc;obtain⟨rfl,rfl,rfl⟩:=hc;obtain⟨a,b,c,d,e,f,g⟩:=hh;refine⟨?_,?_,?_,?_,?_,?_,g⟩<;>omega
 . cases hc
def RelO(E:Env):Option V->Option Value->Prop
 |none,none=>True
 |some x,some v=>Rel E x v
 |_,_=>False
theorem Qfv{x:Option V}{v:Option Value}{i:Option Int}(h:Qgf x=some i)(hr:RelO E x v):
 (i=none/\v=none)\/∃k n,i=some n/\v=some (.int k n):=by
 unfold Qgf at h;split at h
 . cases h;cases v with|none=>exact .inl ⟨rfl,rfl⟩|some=>exact hr.elim
 . cases h;cases v with
   |none=>exact hr.elim
   |some v=>simp only[RelO,Rel] at hr;subst hr;exact .inr ⟨_,_,rfl,rfl⟩
 . cases h
theorem Y6{k:IntKind}{n:Int}{y m:Nat}{code:BoundsCode}(w:World)(h:n=m)(hy:m<=y):
 (Instr.sliceBound (.int k n) y code).run P w= .ok m w:=by
 subst h;have:(0:Int)<=(m:Int)/\(m:Int)<=(y:Int):=by omega
 simp[Instr.sliceBound,asIntOf,this]
theorem Qdi{len cap:Nat}{lo hi mx:Option Int}{l h m:Nat}{vlo vhi vmx:Option Value}(w:World)(b:Bool)(hc:Qfg len cap lo hi mx=some (l,h,m))
 (h1:(lo=none/\vlo=none)\/∃k n,lo=some n/\vlo=some (.int k n))(h2:(hi=none/\vhi=none)\/∃k n,hi=some n/\vhi=some (.int k n))
 (h3:(mx=none/\vmx=none)\/∃k n,mx=some n/\vmx=some (.int k n)):
 (Instr.sliceBounds b len cap vlo vhi vmx).run P w= .ok (l,h,m) w:=by
 obtain⟨e1,e2,e3,g1,g2,g3,g4⟩:=Qbn hc;rcases h3 with⟨rfl,rfl⟩|⟨k3,n3,rfl,rfl⟩
 . simp only[Zf8,Int.natCast_inj] at e3;subst e3;rcases h2 with⟨rfl,rfl⟩|⟨k2,n2,rfl,rfl⟩
   . simp only[Zf8,Int.natCast_inj] at e2;subst e2;rcases h1 with⟨rfl,rfl⟩|⟨k1,n1,rfl,rfl⟩
     . simp only[Zf8] at e1;obtain rfl:l=0:=by omega
       simp[Instr.sliceBounds]
     . simp only[Zgi] at e1;simp[Instr.sliceBounds,Y6 w e1 g1]
   . simp only[Zgi] at e2;rcases h1 with⟨rfl,rfl⟩|⟨k1,n1,rfl,rfl⟩
     . simp only[Zf8] at e1;obtain rfl:l=0:=by omega
       simp[Instr.sliceBounds,Y6 w e2 g2]
     . simp only[Zgi] at e1;simp[Instr.sliceBounds,Y6 w e2 g2,Y6 w e1 g1]
 . simp only[Zgi] at e3;rcases h2 with⟨rfl,rfl⟩|⟨k2,n2,rfl,rfl⟩
   . simp at g4
   . simp only[Zgi] at e2;rcases h1 with⟨rfl,rfl⟩|⟨k1,n1,rfl,rfl⟩
     . simp only[Zf8] at e1;obtain rfl:l=0:=by omega
       simp[Instr.sliceBounds,Y6 w e3 g3,Y6 w e2 g2]
     . simp only[Zgi] at e1;simp[Instr.sliceBounds,Y6 w e3 g3,Y6 w e2 g2,Y6 w e1 g1]
end Go.AM
namespace Go.AM
variable {P : Program} {E : Env} {B : Nat} {F : Nat -> Nat -> Prop} {H : Qg}
theorem Sim.lies(S:Sim B F H E){f s:Nat}{xs:List V}(h:Qd H f s=some (.cells xs)):
 ∃b c T vs rest,E.mu f s=some b/\B<=b/\E.w.heap[b]?=some (.cells c T (0,0))/\c.toList=vs++rest/\Qr E xs vs/\(∀i,E.mod b i)/\xs.all V.scalar=true/\Qgm E.w b 0 vs:=by
 obtain⟨b,c,T,vs,rest,h1,h2,h3,h4,h5,h6,h7⟩:=S.obj f s _ h;refine⟨b,c,T,vs,rest,h1,h2,h3,h4,h5,h6,h7,?_⟩;intro i v hv;have:c[i]?=some v:=by
  rw[<-Array.getElem?_toList,h4,Zfy]
  . exact hv
  . exact(Zf0.1 hv).1
 simp only[Zff,World.cell?,h3];simpa using this
theorem Sim.liesMg(S:Sim B F H E){f s n:Nat}{xs:List V}(h:Qd H f s=some (.mgrow xs n)):
 ∃b lo hi c T vs rest,E.reg f s=some (n,b,lo,hi)/\B<=b/\E.w.heap[b]?=some (.cells c T (0,0))/\hi<=c.size/\c.toList=vs++rest/\Qr E xs vs/\(∀i,E.mod b i)/\xs.all V.scalar=true/\Qgm E.w b 0 vs:=by
 obtain⟨b,lo,hi,c,T,vs,rest,h1,h2,h3,h3',h4,h5,h6,h7⟩:=S.obj f s _ h;refine⟨b,lo,hi,c,T,vs,rest,h1,h2,h3,h3',h4,h5,h6,h7,?_⟩;intro i v hv;have:c[i]?=some v:=by
  rw[<-Array.getElem?_toList,h4,Zfy]
  . exact hv
  . exact(Zf0.1 hv).1
 simp only[Zff,World.cell?,h3];simpa using this
theorem Qgm.from{w:World}{b:Nat}{vs:List Value}(h:Qgm w b 0 vs)(o n:Nat):Qgm w b o ((vs.drop o).take n):=by have:=h.take o n;rwa[Zff] at this
theorem Qgm.heap{w w' :World}{b off:Nat}{vs:List Value}(h:Qgm w b off vs)(e:w'.heap=w.heap):Qgm w' b off vs:=by intro i v hv;have:=h i v hv;simp only[World.cell?,e] at this⊢;exact this
theorem Ka{w:World}{b off esz k n cap:Nat}{vs:List Value}(h:Qgm w b off vs)(hl:vs.length=n*esz)(hk:k<=n)(len:Nat):
 (Builtin.firstCells esz k (.slice (some ⟨b,off,none⟩) len cap)).run P w= .ok ⟨vs.take (k*esz)⟩ w:=by
 have h2:=h.take 0 (k*esz);simp only[Zhd,Zhm] at h2;have:=Qeg (P:=P) h2;have e:(vs.take (k*esz)).length=k*esz:=by have:k*esz<=n*esz:=Zgc _ hk;simp;omega
 rw[e] at this;exact this
theorem Be(S:Sim B F H E){esz n:Nat}{x:V}{cs:List V}{c:Value}(h:Z3 (Qd H) esz x=some (cs,n))(hr:Rel E x c):
 ∃a cap vs,c= .slice a n cap/\n<=cap/\Qr E cs vs/\vs.length=n*esz/\(∀(w:World) k,w.heap=E.w.heap->k<=n->(Builtin.firstCells esz k c).run P w= .ok ⟨vs.take (k*esz)⟩ w):=by
 unfold Z3 at h;split at h
 . cases h;simp only[Rel] at hr;subst hr;exact⟨none,0,[],rfl,Ze8 _,.nil,by simp,fun w k _ hk=>by simp[Builtin.firstCells]⟩
 . split at h
   . rename_i hl;cases h;simp only[Rel] at hr;obtain⟨a,cap,vs,rfl,h1,_,h3,h4,_⟩:=hr;have hvl:vs.length=n*esz:=by rw[<-h4.length];exact hl
     refine⟨some a,cap,vs,rfl,h1,h4,hvl,fun w k hw hk=>?_⟩;rcases h3 with rfl|⟨h3,h5⟩
     . have:k*esz=0:=by
        have h0:n*esz=0:=by simpa using hvl.symm
        have:k*esz<=n*esz:=Zgc _ hk;omega
       simp[Builtin.firstCells,this,loadCells,loadCellsFrom]
     . obtain⟨b,off,sp⟩:=a;simp only at h3;subst h3;exact Ka (h5.lies.heap hw) hvl hk n
   . cases h
 . split at h
   . rename_i he;cases h;subst he;simp only[Rel] at hr;obtain⟨b,off,cap,vs,rfl,h1,h3,h4,h5,_⟩:=hr;have hvl:=h4.length.symm.trans h5;exact⟨_,cap,vs,rfl,h1,h4,hvl,fun w k hw hk=>Ka (h3.lies.heap hw) hvl hk _⟩
   . cases h
 . rename_i f s o n' cap e;split at h
   . rename_i xs hg;split at h
     . rename_i hh;obtain⟨rfl,hle⟩:=hh;cases h;simp only[Rel] at hr;obtain⟨b,c',T,sz',hmu,rfl,h1,_,_,_⟩:=hr;obtain⟨b2,cc,T2,vs,rest,g1,_,_,_,g5,_,_,g8⟩:=S.lies hg;rw[hmu] at g1;cases g1;have hvl:((vs.drop o).take (n*e)).length=n*e:=by
        have:=g5.length;simp;omega
       exact⟨_,c',_,rfl,h1,(g5.drop o).take _,hvl,fun w k hw hk=>Ka ((g8.from o _).heap hw) hvl hk n⟩
     . cases h
   . cases h
 . rename_i f s n' e;split at h
   . rename_i xs k hg;split at h
     . rename_i hh;obtain⟨rfl,rfl,hlen⟩:=hh;cases h;simp only[Rel] at hr;obtain⟨b,cap,rfl,h1,_,hreg⟩:=hr;obtain⟨b2,lo,hi,cc,T2,vs,rest,g1,_,_,_,_,g5,_,_,g8⟩:=S.liesMg hg;obtain⟨rfl,_,_⟩:=(hreg _ _ _ _ g1).2 rfl;have hvl:=g5.length.symm.trans hlen;exact⟨_,cap,_,rfl,h1,g5,hvl,fun w k hw hk=>Ka (g8.heap hw) hvl hk _⟩
     . cases h
   . cases h
 . cases h
theorem Qjm{xs:List V}(h:Zt xs=true):∀n,Zt (xs.take n)=true:=by
 induction xs with
 |nil=>intro n;simp[Zt]
 |cons x xs ih=>
  intro n;simp only[Zt,Zfr] at h;cases n with
  |zero=>simp[Zt]
  |succ n=>simp[Zt,h.1,ih h.2 n]
theorem Qjv{xs:List V}(h:Zt xs=true):∀n,Zt (xs.drop n)=true:=by
 induction xs with
 |nil=>intro n;simp[Zt]
 |cons x xs ih=>
  intro n;have h' :=h;simp only[Zt,Zfr] at h;cases n with
  |zero=>simpa using h'
  |succ n=>simpa using ih h.2 n
theorem Qfo{xs ys:List V}(h:Zt xs=true)(g:Zt ys=true):Zt (xs++ys)=true:=by
 induction xs with
 |nil=>simpa using g
 |cons x xs ih=>
  simp only[Zt,Zfr] at h;simp[Zt,h.1,ih h.2]
theorem Row.take{b off:Nat}{vs:List Value}(h:Row E b off vs)(o n:Nat):Row E b (off+o) ((vs.drop o).take n):=by
 intro i v hv;rw[Zfh] at hv;split at hv
 . rw[Zhv] at hv;have:=h (o+i) v hv;rwa[<-Zfq] at this
 . cases hv
theorem Row.add{b off:Nat}{vs:List Value}(h:Row E b off vs)(o n:Nat):Qe9 E ((⟨b,off,none⟩:Addr).add o) ((vs.drop o).take n):=by rw[Kk];exact .inr ⟨rfl,h.take o n⟩
theorem Qe9.add{a:Addr}{vs:List Value}(h:Qe9 E a vs)(o n:Nat):Qe9 E (a.add o) ((vs.drop o).take n):=by
 rcases h with rfl|⟨h1,h2⟩
 . exact .inl (by simp)
 . obtain⟨b,off,sp⟩:=a;simp only at h1;subst h1;exact h2.add o n
theorem Qjh{cells:List V}{len cap esz l h m:Nat}{full:Bool}{a:Addr}{vs:List Value}{lo hi mx:Option Int}{x:V}(hc:Qnf cells len full esz lo hi mx=some x)
 (hk:Qfg len cap lo hi mx=some (l,h,m))(hf:full=true->cap=len)(hr:Qe9 E a vs)(hl:Qr E cells vs)(hp:Zt cells=true):
 Rel E x (.slice (some (if m=l then a else a.add (l*esz))) (h-l) (m-l)):=by
 unfold Qnf at hc;split at hc
 . rename_i hcl;split at hc
   . rename_i l' h' m' hk';cases hc;obtain⟨a1,a2,a3,a4,a5,a6,a7⟩:=Qbn hk;obtain⟨b1,b2,b3,b4,b5,b6,b7⟩:=Qbn hk';obtain rfl:l' =l:=by omega
     obtain rfl:h' =h:=by omega
     have hmcap:mx.isSome=true->m=m' :=by
      intro hs;cases mx with
      |none=>cases hs
      |some q=>simp only[Zgi] at a3 b3;omega
     have hmm:(full||mx.isSome)=true->m=m' :=by
      intro hh;cases mx with
      |none=>
       simp only[Zgy,Bool.or_false] at hh;simp only[Zf8,Int.natCast_inj] at a3 b3;have:=hf hh;omega
      |some q=>exact hmcap rfl
     simp only[Rel];refine⟨_,m-l',((vs.drop (l' *esz)).take ((h' -l')*esz)),rfl,by omega,?_,?_,(hl.drop _).take _,Qjm (Qjv hp _) _⟩
     . intro hh;simp only[Zfr,beq_iff_eq] at hh;have:=hmm hh.1;omega
     . by_cases e:m=l'
       . rw[if_pos e];have:(h' -l')*esz=0:=by
          have:h' -l' =0:=by omega
          rw[this];simp
         rw[this];exact .inl (by simp)
       . rw[if_neg e];exact hr.add _ _
   . cases hc
 . cases hc
theorem Qgi{len cap:Nat}{lo hi mx:Option Int}{l h m:Nat}(hk:Qfg len len lo hi mx=some (l,h,m))(hle:len<=cap):∃m',Qfg len cap lo hi mx=some (l,h,m')/\m<=m' /\(mx.isSome=true->m' =m)/\(mx=none->m' =cap):=by
 obtain⟨b1,b2,b3,b4,b5,b6,b7⟩:=Qbn hk;cases mx with
 |none=>
  simp only[Zf8,Int.natCast_inj] at b3;refine⟨cap,?_,by omega,(fun h=>by cases h),fun _=>rfl⟩;unfold Qfg;rw[if_pos]
  . simp only[Zf8,b1,b2,Zhj]
  . simp only[Zf8,b1,b2];exact⟨by omega,by omega,by omega,by omega,by omega,by omega,by simp⟩
 |some q=>
  refine⟨m,?_,Ze8 _,fun _=>rfl,(fun h=>by cases h)⟩;unfold Qfg;rw[if_pos]
  . rw[b1,b2];simp only[Zgi] at b3⊢;rw[b3];simp
  . rw[b1,b2];simp only[Zgi] at b3⊢;rw[b3];exact⟨by omega,by omega,by omega,by omega,by omega,by omega,b7⟩
theorem Qn6{f s o len c esz l h m b T n:Nat}{cap:Option Nat}{lo hi mx:Option Int}{x:V}(hc:Qsn f s o len cap esz lo hi mx=some x)
 (hk:Qfg len c lo hi mx=some (l,h,m))(hle:len<=c)(hcap:∀k,cap=some k->c=k)(hmu:E.mu f s=some b)(hsh:E.w.shape? b=some (T,n))(hn:o+c*esz<=n)(hn2:cap=none->o+c*esz=n):
 Rel E x (.slice (some (if m=l then⟨b,o,none⟩ else(⟨b,o,none⟩:Addr).add (l*esz))) (h-l) (m-l)):=by
 obtain⟨a1,a2,a3,a4,a5,a6,a7⟩:=Qbn hk;have main:∀k:Option Nat,(∀q,k=some q->m-l=q)->(k=none->cap=none/\m=c/\m≠l)->Rel E (.mS f s (if m=l then o else o+l*esz) (h-l) k esz) (.slice (some (if m=l then⟨b,o,none⟩ else(⟨b,o,none⟩:Addr).add (l*esz))) (h-l) (m-l)):=by
  intro k hkk hkn;simp only[Rel];refine⟨b,m-l,T,n,hmu,?_,by omega,fun q hq=>hkk q hq,hsh,?_,?_⟩
  . by_cases e:m=l
    . rw[if_pos e,if_pos e]
    . rw[if_neg e,if_neg e,Kk]
  . have h1:(m-l)*esz+l*esz=m*esz:=by rw[<-Zhw];congr 1;omega
    have h2:m*esz<=c*esz:=Zgc _ a6;by_cases e:m=l
    . rw[if_pos e];have:m-l=0:=by omega
      rw[this];omega
    . rw[if_neg e];omega
  . intro hk0;obtain⟨e1,e2,e3⟩:=hkn hk0;have:=hn2 e1;have h1:(m-l)*esz+l*esz=m*esz:=by rw[<-Zhw];congr 1;omega
    rw[if_neg e3];subst e2;omega
 unfold Qsn at hc;split at hc
 . rename_i c';have:=hcap c' rfl;subst this;rw[hk] at hc;cases hc;exact main _ (fun q hq=>by cases hq;rfl) (fun h=>by cases h)
 . split at hc
   . rename_i l' h' m' hk';obtain⟨m2,e1,e2,e3,e4⟩:=Qgi hk' hle;rw[hk] at e1;simp only[Zic,Prod.mk.injEq] at e1;obtain⟨rfl,rfl,rfl⟩:=e1;split at hc
     . rename_i hs;cases hc;rw[<-e3 hs];exact main _ (fun q hq=>by cases hq;rfl) (fun h=>by cases h)
     . split at hc
       . rename_i hs hlt;cases hc;have hmx:mx=none:=by cases mx with|none=>rfl|some=>exact absurd rfl hs
         have hm:=e4 hmx;have e:¬m=l:=by omega
         have:=main none (fun q hq=>by cases hq) (fun _=>⟨rfl,hm,e⟩);rw[if_neg e] at this;exact this
       . cases hc;have h0:h-l=0:=by
          obtain⟨_,_,_,_,_,_,_⟩:=Qbn hk';omega
         rw[h0];simp only[Rel];exact⟨_,_,[],rfl,Nat.zero_le _,(fun h=>by cases h),.inl rfl,by simp[Qr],rfl⟩
   . cases hc
theorem Qbk{t e:TypeId}{n:Nat}{a:Option Addr}{len cap l h m:Nat}{lo hi mx:Option Int}{vlo vhi vmx:Option Value}(w:World)(hu:P.underlying t=some (.slice e))(hn:sz P e=some n)
 (hc:Qfg len cap lo hi mx=some (l,h,m))(h1:(lo=none/\vlo=none)\/∃k n,lo=some n/\vlo=some (.int k n))(h2:(hi=none/\vhi=none)\/∃k n,hi=some n/\vhi=some (.int k n))
 (h3:(mx=none/\vmx=none)\/∃k n,mx=some n/\vmx=some (.int k n)):
 (Instr.sliceAt t (.slice a len cap) vlo vhi vmx).run P w= .ok (.slice (if m=l then a else a.map (·.add (l*n))) (h-l) (m-l)) w:=by
 simp only[Instr.sliceAt,Instr.slice,Zie,Qw hu,Zid,Qdi w true hc h1 h2 h3,K8 hn,Zif]
theorem Qr6(S:Sim B F H E){t:TypeId}{x:V}{lo hi mx:Option V}{y:V}{c:Value}{vlo vhi vmx:Option Value}(h:Qci P (Qd H) t x lo hi mx=some y)(hr:Rel E x c)
 (h1:RelO E lo vlo)(h2:RelO E hi vhi)(h3:RelO E mx vmx):
 ∃v,(Instr.sliceAt t c vlo vhi vmx).run P E.w= .ok v E.w/\Rel E y v:=by
 unfold Qci at h;split at h
 case h_2=>cases h
 rename_i ilo ihi imx g1 g2 g3;have k1:=Qfv g1 h1;have k2:=Qfv g2 h2;have k3:=Qfv g3 h3;split at h
 . rename_i hu;split at h
   case h_2=>cases h
   rename_i s;simp only[Rel] at hr;subst hr;split at h
   . cases h
   . rename_i hmx;have hmx' :imx=none:=by cases imx with|none=>rfl|some=>simp at hmx
     subst hmx';have hv:vmx=none:=by rcases k3 with⟨_,h⟩|⟨_,_,h,_⟩;exact h;cases h
     subst hv;split at h
     . rename_i l hh m hc;cases h;have hb:=Qdi (P:=P) E.w false hc k1 k2 (.inl ⟨rfl,rfl⟩);have hsz:(⟨⟨s⟩⟩:ByteArray).size=s.length:=rfl;refine⟨_,by simp only[Instr.sliceAt,Instr.slice,Zie,Qw hu,Zid,Zgy,Ze7,if_false,Zif,hsz,hb];rfl,?_⟩;simp only[Rel,Value.string.injEq];exact ByteArray.extract_mk s l hh
     . cases h
 . rename_i e hu;split at h
   case h_2=>cases h
   rename_i n hn;split at h
   .
    split at h
    . rename_i q hc;cases h;obtain⟨l,hh,m⟩:=q;simp only[Rel] at hr;subst hr;refine⟨_,Qbk E.w hu hn hc k1 k2 k3,?_⟩;obtain⟨_,_,_,a4,a5,a6,_⟩:=Qbn hc;have:m=l:=by omega
      have e1:hh-l=0:=by omega
      have e2:m-l=0:=by omega
      simp only[Rel,this,if_true,e1,Nat.sub_self]
    . cases h
   . rename_i cs len full;simp only[Rel] at hr;obtain⟨a,cap,vs,rfl,r1,r2,r3,r4,r5⟩:=hr;have hcut:=h;unfold Qnf at hcut;split at hcut
     case isFalse=>cases hcut
     split at hcut
     case h_2=>cases hcut
     rename_i l hh m hk;obtain⟨m',hk',_,_,_⟩:=Qgi hk r1;refine⟨_,Qbk E.w hu hn hk' k1 k2 k3,?_⟩;have:=Qjh h hk' r2 r3 r4 r5;by_cases e:m' =l
     . rw[if_pos e] at this⊢;exact this
     . rw[if_neg e] at this⊢;exact this
   . rename_i f s cs len e';split at h
     case isFalse=>cases h
     rename_i he;obtain⟨he,r5⟩:=he;subst he;simp only[Rel] at hr;obtain⟨b,off,cap,vs,rfl,r1,r3,r4,_⟩:=hr;have hcut:=h;unfold Qnf at hcut;split at hcut
     case isFalse=>cases hcut
     split at hcut
     case h_2=>cases hcut
     rename_i l hh m hk;obtain⟨m',hk',_,_,_⟩:=Qgi hk r1;refine⟨_,Qbk E.w hu hn hk' k1 k2 k3,?_⟩;have:=Qjh (a:=⟨b,off,none⟩) h hk' (fun hf=>by cases hf) (.inr ⟨rfl,r3⟩) r4 r5;by_cases e:m' =l
     . rw[if_pos e] at this⊢;exact this
     . rw[if_neg e] at this⊢;exact this
   . rename_i f s o len cap e';split at h
     case isFalse=>cases h
     rename_i he;subst he;simp only[Rel] at hr;obtain⟨b,c',T,n',hmu,rfl,r1,r2,r3,r4⟩:=hr;have:∃l hh m,Qfg len c' ilo ihi imx=some (l,hh,m):=by
      have hcut:=h;unfold Qsn at hcut;split at hcut
      . rename_i q;have:=r2 q rfl;subst this;split at hcut
        . rename_i l hh m hk;exact⟨l,hh,m,hk⟩
        . cases hcut
      . split at hcut
        . rename_i l hh m hk;obtain⟨m',hk',_⟩:=Qgi hk r1;exact⟨l,hh,m',hk'⟩
        . cases hcut
     obtain⟨l,hh,m,hk⟩:=this;refine⟨_,Qbk E.w hu hn hk k1 k2 k3,?_⟩;have:=Qn6 h hk r1 r2 hmu r3 r4.1 r4.2;by_cases e:m=l
     . rw[if_pos e] at this⊢;exact this
     . rw[if_neg e] at this⊢;exact this
   . cases h
 . rename_i k e hu;split at h
   case h_2=>cases h
   rename_i n hn;have runArr:∀(a:Addr) (l hh m:Nat),Qfg k k ilo ihi imx=some (l,hh,m)->(Instr.sliceAt t (.pointer (some a)) vlo vhi vmx).run P E.w= .ok (.slice (some (if m=l then a else a.add (l*n))) (hh-l) (m-l)) E.w:=by intro a l hh m hc;simp only[Instr.sliceAt,Instr.sureAddr,Zie,Qw hu,Zid,Zif,Qdi E.w false hc k1 k2 k3,K8 hn]
   split at h
   . rename_i f s o;split at h
     case h_2=>cases h
     rename_i xs hg;split at h
     case isFalse=>cases h
     rename_i hle;simp only[Rel] at hr;obtain⟨b,hmu,rfl⟩:=hr;have hcut:=h;unfold Qsn at hcut;simp only at hcut;split at hcut
     case h_2=>cases hcut
     rename_i l hh m hk;refine⟨_,runArr _ l hh m hk,?_⟩;obtain⟨b2,cc,T,vs,rest,q1,_,q3,q4,q5,_⟩:=S.lies hg;rw[hmu] at q1;cases q1;have hsize:xs.length<=cc.size:=by have h1:=congrArg List.length q4;have h2:=q5.length;simp at h1;omega
     exact Qn6 (T:=T) (n:=cc.size) h hk (Ze8 _) (fun q hq=>by cases hq;rfl) hmu (by simp[World.shape?,q3]) (by omega) (fun h=>by cases h)
   . rename_i cs o;split at h
     case isFalse=>cases h
     rename_i hle;simp only[Rel] at hr;obtain⟨b,off,vs,rfl,r1,r2,r3⟩:=hr;have hcut:=h;unfold Qnf at hcut;split at hcut
     case isFalse=>cases hcut
     split at hcut
     case h_2=>cases hcut
     rename_i l hh m hk;refine⟨_,runArr _ l hh m hk,?_⟩;exact Qjh (a:=⟨b,off+o,none⟩) h hk (fun _=>rfl) (.inr ⟨rfl,r1.take o (k*n)⟩) ((r2.drop o).take _) (Qjm (Qjv r3 _) _)
   . cases h
 . cases h
end Go.AM
end
