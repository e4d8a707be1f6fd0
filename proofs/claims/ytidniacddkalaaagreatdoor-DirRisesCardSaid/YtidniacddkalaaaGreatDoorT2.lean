/- This file holds in one the texts An3, An4; each says at its head what it proves. -/
import Derived.Test.YtidniacddkalaaaGreatDoorT1
import Derived.Laws.Entries
import Derived.Laws.Strings
import Derived.Laws.Strings2
set_option linter.unusedSimpArgs false
set_option linter.unusedVariables false
section
namespace Go.AM
def sz(P:Program)(t:TypeId):Option Nat:=(P.info? t).map (·.size)
def byt(P:Program)(t:TypeId):Option Nat:=(P.info? t).map (·.bytes)
def zer(P:Program)(t:TypeId):Option Value:=(P.info? t).bind (·.zero)
def Qk1:TypeDesc->Bool
 | .struct _| .array _ _=>true
 |_=>false
def Qdc:Value->V
 | .bool b=> .bool b
 | .int k n=> .int k n
 | .string s=> .str s.data.toList
 | .pointer none=> .nP
 | .slice none 0 0=> .nS
 | .map none=> .nM
 | .nilFunc=> .nF
 | .nilIface=> .nI
 |_=> .bad
def Z0:Value->V
 | .agg cs=> .agg (cs.toList.map Qdc)
 | .iface t v=> .face t (Qdc v)
 | .tuple cs=> .tuple (cs.toList.map Qdc)
 |v=>Qdc v
def V.cells:V->Option (List V)
 | .agg cs=>if cs.all V.scalar then some cs else none
 | .bad| .tuple _=>none
 |v=>some [v]
def zeroCells(P:Program)(t:TypeId):Option (List V):=(zer P t).bind fun z=>(Z0 z).cells
def splice{α:Type}(xs:List α)(o:Nat)(cs:List α):List α:=xs.take o++cs++xs.drop (o+cs.length)
def Qn(P:Program)(t:TypeId)(xs:List V)(o:Nat):Option V:=
 match P.underlying t,sz P t with
 |some d,some n=>if Qk1 d then(if o+n<=xs.length then some (.agg ((xs.drop o).take n)) else none) else xs[o]?
 |_,_=>none
def Bp(place:Nat->Option (Nat×Nat))(cells:List V):List (Nat×V)->Option (List V)
 |[]=>some cells
 |(i,v)::rest=>
  match place i,v.cells with
  |some (off,size),some cs=>if cs.length=size/\off+cs.length<=cells.length then Bp place (splice cells off cs) rest else none
  |_,_=>none
def Qoe(P:Program):List Field->Option (List (Nat×Nat))
 |[]=>some []
 |f::fs=>match sz P f.type,Qoe P fs with
  |some n,some r=>some ((f.offset,n)::r)
  |_,_=>none
def K4(P:Program)(t:TypeId)(parts:List (Nat×V)):Option V:=
 match zeroCells P t,P.underlying t with
 |some z,some (.struct fs)=>match Qoe P fs.toList with
  |some ps=>(Bp (fun i=>ps[i]?) z parts).map .agg
  |none=>none
 |some z,some (.array _ e)=>match sz P e with
  |some n=>(Bp (fun i=>some (i*n,n)) z parts).map .agg
  |none=>none
 |_,_=>none
def zerosN{α:Type}(z:List α):Nat->List α
 |0=>[]
 |n+1=>z++zerosN z n
def Qfa(op:BinOp)(k:IntKind)(a b:Int):Option V:=
 match op with
 | .add=>some (.int k (k.wrap (a+b)))
 | .sub=>some (.int k (k.wrap (a-b)))
 | .mul=>some (.int k (k.wrap (a*b)))
 | .quo=>if b=0 then none else some (.int k (k.wrap (a.tdiv b)))
 | .rem=>if b=0 then none else some (.int k (a.tmod b))
 | .and=>some (.int k (k.wrap (BitVec.ofInt k.bits a&&&BitVec.ofInt k.bits b).toNat))
 | .or=>some (.int k (k.wrap (BitVec.ofInt k.bits a|||BitVec.ofInt k.bits b).toNat))
 | .xor=>some (.int k (k.wrap (BitVec.ofInt k.bits a^^^BitVec.ofInt k.bits b).toNat))
 | .andNot=>some (.int k (k.wrap (BitVec.ofInt k.bits a&&& ~~~BitVec.ofInt k.bits b).toNat))
 | .eql=>some (.bool (a==b))
 | .neq=>some (.bool (a !=b))
 | .lss=>some (.bool (a<b))
 | .leq=>some (.bool (a<=b))
 | .gtr=>some (.bool (a>b))
 | .geq=>some (.bool (a>=b))
 | .shl| .shr=>none
def Qen(op:BinOp)(k:IntKind)(a b:Int):Option V:=
 if b<0 then none else
 match op with
 | .shl=>some (.int k (k.wrap (a*2^(min b.toNat k.bits))))
 | .shr=>some (.int k (a.fdiv (2^(min b.toNat k.bits))))
 |_=>none
def binS(op:BinOp)(a b:List UInt8):Option V:=
 match op with
 | .add=>if a.length+b.length<=140737488355328 then some (.str (a++b)) else none
 | .eql=>some (.bool (a==b))
 | .neq=>some (.bool (!(a==b)))
 | .lss=>some (.bool (Op.bytesLess a b))
 | .leq=>some (.bool (Op.bytesLess a b||a==b))
 | .gtr=>some (.bool (!(Op.bytesLess a b||a==b)))
 | .geq=>some (.bool (!(Op.bytesLess a b)))
 |_=>none
def Qar(P:Program)(t:TypeId)(xs:List V)(o:Nat):Option V:=
 match P.underlying t,sz P t with
 |some d,some n=>if Qk1 d then some (.agg ((xs.drop o).take n)) else xs[o]?
 |_,_=>none
def Qc6(P:Program)(eq:TypeId->V->V->Option Bool):List Field->List V->List V->Option Bool
 |[],_,_=>some true
 |f::fs,xs,ys=>
  if f.name= "_" then Qc6 P eq fs xs ys else
  match Qar P f.type xs f.offset,Qar P f.type ys f.offset with
  |some x,some y=>match eq f.type x y with
   |some true=>Qc6 P eq fs xs ys
   |some false=>some false
   |none=>none
  |_,_=>none
def Qf6(P:Program)(eq:TypeId->V->V->Option Bool)(e:TypeId)(m:Nat)(xs ys:List V):Nat->Nat->Option Bool
 |_,0=>some true
 |i,n+1=>
  match Qar P e xs (i*m),Qar P e ys (i*m) with
  |some x,some y=>match eq e x y with
   |some true=>Qf6 P eq e m xs ys (i+1) n
   |some false=>some false
   |none=>none
  |_,_=>none
def V.isNil:V->Option Bool
 | .nP| .nS| .nM| .nF| .nI=>some true
 | .ptr _ _ _| .iptr _ _| .rptr _ _| .iS _ _ _| .gS _ _ _ _ _| .mS _ _ _ _ _ _| .map _ _| .func _ _ _| .face _ _=>some false
 |_=>none
def Q3y(x y:V):Option Bool:=
 match x.isNil,y.isNil with
 |some true,some b=>some b
 |some false,some true=>some false
 |_,_=>none
def Quj:V->V->Option Bool
 | .bool a,.bool b=>some (a==b)
 |_,_=>none
def Qsi:V->V->Option Bool
 | .int k a,.int k' b=>if k=k' then some (a==b) else none
 |_,_=>none
def Q3v:V->V->Option Bool
 | .str a,.str b=>some (a==b)
 |_,_=>none
def eqV(P:Program):Nat->TypeId->V->V->Option Bool
 |0,_,_,_=>none
 |d+1,t,x,y=>
  match P.underlying t with
  |some .bool=>Quj x y
  |some (.int _)=>Qsi x y
  |some .string=>Q3v x y
  |some (.struct fs)=>(match x,y with
   | .agg xs,.agg ys=>if P.stoodInHeld t then none else Qc6 P (eqV P d) fs.toList xs ys
   |_,_=>none)
  |some (.array n e)=>(match x,y,sz P e with
   | .agg xs,.agg ys,some m=>Qf6 P (eqV P d) e m xs ys 0 n
   |_,_,_=>none)
  |_=>none
def Jm:TypeDesc->V->Bool
 | .pointer _,.nP| .pointer _,.ptr _ _ _| .pointer _,.iptr _ _| .pointer _,.rptr _ _=>true
 | .slice _,.nS| .slice _,.iS _ _ _| .slice _,.gS _ _ _ _ _| .slice _,.mS _ _ _ _ _ _=>true
 | .map _ _,.nM| .map _ _,.map _ _=>true
 | .func _ _ _,.nF| .func _ _ _,.func _ _ _=>true
 | .interface _,.nI| .interface _,.face _ _=>true
 |_,_=>false
def Qd2:Operand->Bool
 | .const _=>true
 |_=>false
def Qkk(P:Program)(t:TypeId)(x y:Operand)(a b:V):Option Bool:=
 match P.underlying t with
 |some (.struct _)|some (.array _ _)=>if P.eqGuardType P.depth t then none else eqV P 8 t a b
 |some .bool|some (.int _)|some .string=>eqV P 8 t a b
 |some d=>
  if Jm d a&&Jm d b then
   (match a,b with
   | .nI,.nI=>if Qd2 x||Qd2 y then some true else none
   |_,_=>Q3y a b)
  else none
 |none=>none
def Zp(P:Program)(op:BinOp)(t:TypeId)(x y:Operand)(a b:V):Option V:=
 match op,a,b with
 | .shl,.int k m,.int _ n=>Qen .shl k m n
 | .shr,.int k m,.int _ n=>Qen .shr k m n
 |_,.int k m,.int k' n=>if k=k' then Qfa op k m n else none
 |_,.str m,.str n=>binS op m n
 | .eql,_,_=>(Qkk P t x y a b).map .bool
 | .neq,_,_=>(Qkk P t x y a b).map fun r=> .bool (!r)
 |_,_,_=>none
def unV(op:UnOp)(a:V):Option V:=
 match op,a with
 | .neg,.int k n=>some (.int k (k.wrap (0-n)))
 | .xor,.int k n=>some (.int k (k.wrap (BitVec.ofInt k.bits (if k.signed then-1 else k.max)^^^BitVec.ofInt k.bits n).toNat))
 | .not,.bool b=>some (.bool !b)
 |_,_=>none
def bytesOf:List V->Option (List UInt8)
 |[]=>some []
 | .int .u8 n::r=>(bytesOf r).map (UInt8.ofNat n.toNat:: ·)
 |_=>none
def Qb(l:List UInt8):List V:=l.map fun b=> .int .u8 b.toNat
abbrev Get:=Nat->Nat->Option O
def Ql(g:Get)(esz:Nat):V->Option (List V×Nat)
 | .nS=>some ([],0)
 | .iS cs n _=>if cs.length=n*esz then some (cs,n) else none
 | .gS _ _ cs n e=>if e=esz then some (cs,n) else none
 | .mS f s o n _ e=>(match g f s with
   |some (.cells xs)=>if e=esz/\o+n*esz<=xs.length then some ((xs.drop o).take (n*esz),n) else none
   |_=>none)
 |_=>none
inductive Zk where
 |val(v:V)(w:Option (Nat×Nat×O))
 |call(f:FuncId)(args:List V)
 |round(f s:Nat)(args:List V)
 |panic(v:V)
def new(g:Get)(fr:Nat)(dst:Option Nat)(o:O)(v:Nat->V):Option Zk:=
 match dst with
 |some d=>(match g fr d with
  |none=>some (.val (v d) (some (fr,d,o)))
  |some _=>none)
 |none=>none
def asInt:V->Option Int
 | .int _ n=>some n
 |_=>none
def Yj:Option V->Option (Option Int)
 |none=>some none
 |some (.int _ n)=>some (some n)
 |some _=>none
def Xs(len:Nat)(cap:Nat)(lo hi mx:Option Int):Option (Nat×Nat×Nat):=
 if 0<=mx.getD cap/\mx.getD cap<=cap/\0<=hi.getD len/\hi.getD len<=mx.getD cap/\0<=lo.getD 0/\lo.getD 0<=hi.getD len/\(mx.isSome->hi.isSome) then
  some ((lo.getD 0).toNat,(hi.getD len).toNat,(mx.getD cap).toNat) else none
def Qj9(cells:List V)(len:Nat)(full:Bool)(esz:Nat)(lo hi mx:Option Int):Option V:=
 if cells.length=len*esz then
  match Xs len len lo hi mx with
  |some (l,h,m)=>some (.iS ((cells.drop (l*esz)).take ((h-l)*esz)) (h-l) ((full||mx.isSome)&&m==h))
  |none=>none
 else none
def Qps(f s o len:Nat)(cap:Option Nat)(esz:Nat)(lo hi mx:Option Int):Option V:=
 match cap with
 |some c=>(match Xs len c lo hi mx with
  |some (l,h,m)=>some (.mS f s (if m=l then o else o+l*esz) (h-l) (some (m-l)) esz)
  |none=>none)
 |none=>(match Xs len len lo hi mx with
  |some (l,h,m)=>
   if mx.isSome then some (.mS f s (if m=l then o else o+l*esz) (h-l) (some (m-l)) esz)
   else if l<len then some (.mS f s (o+l*esz) (h-l) none esz) else some (.iS [] 0 false)
  |none=>none)
def Zh(P:Program)(g:Get)(t:TypeId)(x:V)(lo hi mx:Option V):Option V:=
 match Yj lo,Yj hi,Yj mx with
 |some lo,some hi,some mx=>
  (match P.underlying t with
  |some .string=>(match x with
   | .str s=>if mx.isSome then none else(match Xs s.length s.length lo hi none with
     |some (l,h,_)=>some (.str ((s.drop l).take (h-l)))
     |none=>none)
   |_=>none)
  |some (.slice e)=>(match sz P e with
   |some n=>(match x with
    | .nS=>(match Xs 0 0 lo hi mx with
      |some _=>some .nS
      |none=>none)
    | .iS cs len full=>Qj9 cs len full n lo hi mx
    | .gS _ _ cs len e' =>if e' =n/\Qx cs then Qj9 cs len false n lo hi mx else none
    | .mS f s o len cap e' =>if e' =n then Qps f s o len cap n lo hi mx else none
    |_=>none)
   |none=>none)
  |some (.array k e)=>(match sz P e with
   |some n=>(match x with
    | .ptr f s o=>(match g f s with
      |some (.cells xs)=>if o+k*n<=xs.length then Qps f s o k (some k) n lo hi mx else none
      |_=>none)
    | .iptr cs o=>if o+k*n<=cs.length then Qj9 ((cs.drop o).take (k*n)) k true n lo hi mx else none
    |_=>none)
   |none=>none)
  |_=>none)
 |_,_,_=>none
def Qm(P:Program)(t:TypeId)(x i:V):Option V:=
 match i with
 | .int _ i=>
   (match P.underlying t with
   |some (.array k e)=>(match sz P e with
    |some n=>if 0<=i/\i<k then(match x with
     | .ptr f s o=>some (.ptr f s (o+i.toNat*n))
     | .iptr cs o=>some (.iptr cs (o+i.toNat*n))
     | .rptr cs o=>some (.rptr cs (o+i.toNat*n))
     |_=>none) else none
    |none=>none)
   |some (.slice e)=>(match sz P e with
    |some n=>(match x with
     | .iS cs len _=>if 0<=i/\i<len/\cs.length=len*n/\0<n then some (.iptr cs (i.toNat*n)) else none
     | .gS _ _ cs len e' =>if 0<=i/\i<len/\e' =n then some (if Qx cs then .iptr cs (i.toNat*n) else .rptr cs (i.toNat*n)) else none
     | .mS f s o len _ e' =>if 0<=i/\i<len/\e' =n then some (.ptr f s (o+i.toNat*n)) else none
     |_=>none)
    |none=>none)
   |_=>none)
 |_=>none
def B1(P:Program)(t:TypeId)(x i:V):Option V:=
 match i with
 | .int _ i=>
   (match P.underlying t,x with
   |some (.array k e),.agg cs=>(match sz P e with
    |some n=>if 0<=i/\i<k then Qar P e cs (i.toNat*n) else none
    |none=>none)
   |some .string,.str s=>if 0<=i then(s[i.toNat]?).map fun b=> .int .u8 b.toNat else none
   |_,_=>none)
 |_=>none
def Zbp:V->V->Option Bool
 | .int k a,.int k' b=>if k=k' then some (a==b) else none
 | .str a,.str b=>some (a==b)
 | .bool a,.bool b=>some (a==b)
 |_,_=>none
def findKey(k:V):List (V×V)->Nat->Option (Option (Nat×V))
 |[],_=>some none
 |(k',x)::r,i=>match Zbp k k' with
  |some true=>some (some (i,x))
  |some false=>findKey k r (i+1)
  |none=>none
def Ki:TypeDesc->V->Bool
 | .int _,.int _ _| .string,.str _| .bool,.bool _=>true
 |_,_=>false
def Qct(P:Program)(g:Get)(t:TypeId)(m k:V)(ok:Bool):Option V:=
 match P.underlying t with
 |some (.map kt e)=>(match P.underlying kt,zer P e with
  |some kd,some z=>if Ki kd k then
    (match m with
    | .nM=>some (if ok then .tuple [Z0 z,.bool false] else Z0 z)
    | .map f s=>(match g f s with
      |some (.map es _ _)=>(match findKey k es 0 with
       |some (some (_,x))=>some (if ok then .tuple [x,.bool true] else x)
       |some none=>some (if ok then .tuple [Z0 z,.bool false] else Z0 z)
       |none=>none)
      |_=>none)
    |_=>none) else none
  |_,_=>none)
 |_=>none
def updateV(P:Program)(g:Get)(t:TypeId)(m k x:V):Option Zk:=
 match P.underlying t with
 |some (.map kt _)=>(match P.underlying kt with
  |some kd=>if Ki kd k then
    (match m with
    | .map f s=>(match g f s with
      |some (.map es bs clk)=>(match findKey k es 0 with
       |some (some (i,_))=>some (.val .bad (some (f,s,.map (es.set i (k,x)) bs clk)))
       |some none=>some (.val .bad (some (f,s,.map (es++[(k,x)]) (bs++[clk]) (clk+1))))
       |none=>none)
      |_=>none)
    |_=>none) else none
  |none=>none)
 |_=>none
def grown(mt:Nat->Bool)(g:Get)(fr:Nat)(dst:Option Nat)(cs _chk:List V)(n esz:Nat):Option Zk:=
 match dst with
 |some d=>
  if mt d then(if cs.all V.scalar then new g fr dst (.cells cs) (fun d=> .mS fr d 0 n none esz) else none)
  else new g fr dst (.grow n) (fun d=> .gS fr d cs n esz)
 |none=>none
def Jl(len bytes:Nat):Bool:=len*bytes<=35184372088832&&len<=35184372088832
def Z3(P:Program)(g:Get)(t2:TypeId)(n by_:Nat)(z:List V)(x:V):Option (List V×Nat):=
 match P.underlying t2 with
 |some (.int _)=>(match x with
  | .int .i64 k=>if 0<=k/\Jl k.toNat by_ then some (zerosN z k.toNat,k.toNat) else none
  |_=>none)
 |some .string=>(match x with
  | .str l=>if n=1 then some (Qb l,l.length) else none
  |_=>none)
 |some (.slice _)=>Ql g n x
 |_=>none
def Qn3:V->Bool
 | .nS| .iS _ _ _| .gS _ _ _ _ _| .mS _ _ _ _ _ _=>true
 |_=>false
def appendTo(mt:Nat->Bool)(fr:Nat)(g:Get)(dst:Option Nat)(n by_:Nat)(s:V)(new:List V)(m:Nat):Option Zk:=
 match s with
 | .nS=>if Jl m by_ then grown mt g fr dst new new m n else none
 | .iS cs len true=>if cs.length=len*n/\Jl (len+m) by_ then grown mt g fr dst (cs++new) new (len+m) n else none
 | .gS f sl cs len e' =>if e' =n/\Jl (len+m) by_/\new.all V.scalar then
    (match g f sl with
    |some (.grow k)=>if k=len then some (.val (.gS f sl (cs++new) (len+m) n) (some (f,sl,.grow (len+m)))) else none
    |_=>none) else none
 | .mS f sl o len cap e' =>if e' =n/\Jl (len+m) by_ then
    (match g f sl with
    |some (.cells xs)=>
     (match cap with
     |some c=>
      if len+m<=c then(if o+(len+m)*n<=xs.length/\new.all V.scalar then some (.val (.mS f sl o (len+m) cap n) (some (f,sl,.cells (splice xs (o+len*n) new)))) else none)
      else if o+len*n<=xs.length then grown mt g fr dst ((xs.drop o).take (len*n)++new) ((xs.drop o).take (len*n)++new) (len+m) n else none
     |none=>if o+(len+m)*n<=xs.length/\new.all V.scalar/\0<n then some (.val (.mS f sl o (len+m) cap n) (some (f,sl,.cells (splice xs (o+len*n) new)))) else none)
    |_=>none) else none
 |_=>none
def Qq(P:Program)(mt:Nat->Bool)(fr:Nat)(g:Get)(dst:Option Nat)(t:TypeId)(t2:TypeId)(s x:V):Option Zk:=
 match P.underlying t with
 |some (.slice e)=>(match sz P e,byt P e,zeroCells P e with
  |some n,some by_,some z=>if z.length=n then
   (match Z3 P g t2 n by_ z x with
   |none=>none
   |some (_,0)=>if Qn3 s then some (.val s none) else none
   |some (new,m+1)=>appendTo mt fr g dst n by_ s new (m+1)) else none
  |_,_,_=>none)
 |_=>none
def Y4(P:Program)(g:Get)(t:TypeId)(x:V):Option V:=
 match P.underlying t,x with
 |some .string,.str s=>some (.int .i64 s.length)
 |some (.array n _),_=>some (.int .i64 n)
 |some (.pointer a),_=>(match P.underlying a with
  |some (.array n _)=>some (.int .i64 n)
  |_=>none)
 |some (.slice _),.nS=>some (.int .i64 0)
 |some (.slice _),.iS _ n _=>some (.int .i64 n)
 |some (.slice _),.gS _ _ _ n _=>some (.int .i64 n)
 |some (.slice _),.mS _ _ _ n _ _=>some (.int .i64 n)
 |some (.map _ _),.nM=>some (.int .i64 0)
 |some (.map _ _),.map f s=>(match g f s with
  |some (.map es _ _)=>some (.int .i64 es.length)
  |_=>none)
 |_,_=>none
def capV(P:Program)(t:TypeId)(x:V):Option V:=
 match P.underlying t,x with
 |some (.slice _),.nS=>some (.int .i64 0)
 |some (.slice _),.iS _ n true=>some (.int .i64 n)
 |some (.slice _),.mS _ _ _ _ (some c) _=>some (.int .i64 c)
 |_,_=>none
def Bv(g:Get)(n:Nat):V->Option (List V×Nat)
 | .str l=>if n=1 then some (Qb l,l.length) else none
 |s=>Ql g n s
def Qbi(g:Get)(n:Nat)(d:V)(cs:List V)(m:Nat):Option Zk:=
 match d with
 | .nS=>some (.val (.int .i64 0) none)
 | .mS f sl o len _ e' =>if e' =n then
    (match g f sl with
    |some (.cells xs)=>if o+len*n<=xs.length/\(cs.take (min m len*n)).all V.scalar then
      some (.val (.int .i64 (min m len:Nat)) (some (f,sl,.cells (splice xs o (cs.take (min m len*n)))))) else none
    |_=>none) else none
 |_=>none
def Qbz(P:Program)(g:Get)(t:TypeId)(d s:V):Option Zk:=
 match P.underlying t with
 |some (.slice e)=>(match sz P e with
  |some n=>(match Bv g n s with
   |some (cs,m)=>Qbi g n d cs m
   |none=>none)
  |none=>none)
 |_=>none
def Qbt(P:Program)(g:Get)(t:TypeId)(m k:V):Option Zk:=
 match P.underlying t with
 |some (.map kt _)=>(match P.underlying kt with
  |some kd=>if Ki kd k then
    (match m with
    | .nM=>some (.val (.tuple []) none)
    | .map f s=>(match g f s with
      |some (.map es bs clk)=>(match findKey k es 0 with
       |some (some (i,_))=>some (.val (.tuple []) (some (f,s,.map (es.eraseIdx i) (bs.eraseIdx i) clk)))
       |some none=>some (.val (.tuple []) (some (f,s,.map es bs clk)))
       |none=>none)
      |_=>none)
    |_=>none) else none
  |none=>none)
 |_=>none
def Qiu(mx:Bool):V->List V->Option V
 |x,[]=>some x
 | .int k a,.int _ b::r=>Qiu mx (.int k (if mx then(if b>a then b else a) else(if b<a then b else a))) r
 |_,_=>none
def convertV(P:Program)(g:Get)(src d:TypeId)(x:V):Option Zk:=
 match P.underlying src,P.underlying d,x with
 |some _,some (.int k),.int _ n=>some (.val (.int k (k.wrap n)) none)
 |some .string,some .string,.str s=>some (.val (.str s) none)
 |some .string,some (.slice e),.str s=>(match P.underlying e with
  |some (.int .u8)=>some (.val (.iS (Qb s) s.length false) none)
  |_=>none)
 |some (.slice e),some .string,x=>(match P.underlying e with
  |some (.int .u8)=>(match Ql g 1 x with
   |some (cs,_)=>(bytesOf cs).map fun l=> .val (.str l) none
   |none=>none)
  |_=>none)
 |some (.slice _),some (.slice e),.mS f s 0 n (some m) 1=>if src=d/\n=m then(match P.underlying e,g f s with
  |some (.int .u8),some (.cells xs)=>if xs.length=n/\Qx xs=true then some (.val (.iS xs n true) (some (f,s,.dead))) else none
  |_,_=>none) else none
 |_,_,_=>none
def Qhh(P:Program)(mt:Nat->Bool)(dst:Option Nat)(s d:TypeId)(x:V):Option (List UInt8):=
 match dst,P.underlying s,P.underlying d,x with
 |some k,some .string,some (.slice e),.str l=>(match P.underlying e with
  |some (.int .u8)=>if mt (k+1000000) then some l else none
  |_=>none)
 |_,_,_,_=>none
def builtinV(P:Program)(mt:Nat->Bool)(fr:Nat)(g:Get)(dst:Option Nat)(b:Builtin)(ts:Array TypeId)(args:List V):Option Zk:=
 match b,args with
 | .append,[s,x]=>(match ts[0]?,ts[1]? with
   |some t,some t2=>Qq P mt fr g dst t t2 s x
   |_,_=>none)
 | .len,[x]=>(match ts[0]? with
   |some t=>(Y4 P g t x).map fun v=> .val v none
   |none=>none)
 | .cap,[x]=>(match ts[0]? with
   |some t=>(capV P t x).map fun v=> .val v none
   |none=>none)
 | .copy,[d,s]=>(match ts[0]? with
   |some t=>Qbz P g t d s
   |none=>none)
 | .delete,[m,k]=>(match ts[0]? with
   |some t=>Qbt P g t m k
   |none=>none)
 | .min,x::r=>(Qiu false x r).map fun v=> .val v none
 | .max,x::r=>(Qiu true x r).map fun v=> .val v none
 |_,_=>none
def Qck(b:Nat):List (V×V)->List Nat->Option (V×V)
 |e::es,b' ::bs=>if b' =b then some e else Qck b es bs
 |_,_=>none
def rangeV(P:Program)(g:Get)(fr:Nat)(dst:Option Nat)(t:TypeId)(x:V):Option Zk:=
 match P.underlying t,x with
 |some .string,.str l=>new g fr dst (.siter l 0) (fun d=> .ptr fr d 0)
 |some (.map _ _),.nM=>new g fr dst (.iter none 0 [] 0) (fun d=> .ptr fr d 0)
 |some (.map _ _),.map f s=>(match g f s with
  |some (.map _ _ clk)=>new g fr dst (.iter (some (f,s)) clk [] clk) (fun d=> .ptr fr d 0)
  |_=>none)
 |_,_=>none
def nextS(g:Get)(x:V):Option Zk:=
 match x with
 | .ptr f s 0=>(match g f s with
   |some (.siter l pos)=>if pos<l.length then
     some (.val (.tuple [.bool true,.int .i64 pos,.int .i32 (Utf8.decode ⟨⟨l⟩⟩ pos).1]) (some (f,s,.siter l (pos+(Utf8.decode ⟨⟨l⟩⟩ pos).2))))
    else some (.val (.tuple [.bool false]) none)
   |_=>none)
 |_=>none
def Qbn(g:Get)(x:V):Option V:=
 match x with
 | .ptr f s 0=>(match g f s with
   |some (.iter (some m) _ seen stepped)=>(match g m.1 m.2,seen.getLast? with
    |some (.map es bs clk),some b=>if clk=stepped then(Qck b es bs).map fun e=> .tuple [e.1,e.2] else none
    |_,_=>none)
   |_=>none)
 |_=>none
def mapEntryV(P:Program)(g:Get)(t:TypeId)(m k:V):Option Zk:=
 match P.underlying t with
 |some (.map kt e)=>(match P.underlying kt,zer P e with
  |some kd,some z=>if Ki kd k then
    (match m with
    | .map f s=>(match g f s with
      |some (.map es bs clk)=>(match findKey k es 0 with
       |some (some (i,x))=>(match bs[i]? with
        |some b=>some (.val (.tuple [x,.int .i64 b]) (some (f,s,.map (es.set i (k,x)) bs clk)))
        |none=>none)
       |some none=>some (.val (.tuple [Z0 z,.int .i64 clk]) (some (f,s,.map (es++[(k,Z0 z)]) (bs++[clk]) (clk+1))))
       |none=>none)
      |_=>none)
    |_=>none) else none
  |_,_=>none)
 |_=>none
def Qr5(b:Int)(x:V):List (V×V)->List Nat->Option (List (V×V))
 |e::es,b' ::bs=>if(b' :Int)=b then some ((e.1,x)::es) else(Qr5 b x es bs).map (e:: ·)
 |_,_=>none
def entryStoreV(g:Get)(m s x:V):Option Zk:=
 match m,s with
 | .map f sl,.int _ b=>(match g f sl with
   |some (.map es bs clk)=>(Qr5 b x es bs).map fun es=> .val .bad (some (f,sl,.map es bs clk))
   |_=>none)
 |_,_=>none
def Qn7(d:Nat):Nat:=d+2000000
def Zr(P:Program)(mt:Nat->Bool)(fr:Nat)(g:Get)(r:Operand->V)(o:Oper):Option Zk:=
 match o.op with
 | .move x| .assign x=>some (.val (r x) none)
 | .pick c a b=>(match r c with
   | .bool t=>some (.val (if t then r a else r b) none)
   |_=>none)
 | .alloc t=>(zeroCells P t).bind fun z=>new g fr o.dst (.cells z) (fun d=> .ptr fr d 0)
 | .box _ x=>((r x).cells).bind fun z=>match o.dst with
   |some d=>if mt (Qn7 d) then new g fr o.dst (.cells z) (fun d=> .ptr fr d 0) else if Qx z then some (.val (.iptr z 0) none) else none
   |none=>none
 | .build t ps=>(K4 P t (ps.toList.map fun p=>(p.1,r p.2))).map fun v=> .val v none
 | .buildSlice t n ps=>(match P.underlying t with
   |some (.slice e)=>(match sz P e,zeroCells P e with
    |some k,some z=>if n*k<=16777216/\z.length=k then
      (match Bp (fun i=>some (i*k,k)) (if n*k=0 then[] else zerosN z n) (ps.toList.map fun p=>(p.1,r p.2)) with
      |some cs=>
       (match o.dst with
       |some d=>if mt d then new g fr o.dst (.cells cs) (fun d=> .mS fr d 0 n (some n) k) else if Qx cs then some (.val (.iS cs n true) none) else none
       |none=>none)
      |none=>none) else none
    |_,_=>none)
   |_=>none)
 | .load t a=>(match r a with
   | .ptr f s o=>(match g f s with
     |some (.cells xs)=>(Qn P t xs o).map fun v=> .val v none
     |_=>none)
   | .iptr cs o=>(Qn P t cs o).map fun v=> .val v none
   | .rptr cs o=>(Qn P t cs o).map fun v=> .val v none
   |_=>none)
 | .store t a x=>(match r a,(r x).cells,sz P t with
   | .ptr f s o,some cs,some n=>(match g f s with
     |some (.cells xs)=>if cs.length=n/\o+n<=xs.length then some (.val .bad (some (f,s,.cells (splice xs o cs)))) else none
     |_=>none)
   |_,_,_=>none)
 | .nilCheck x=>(match r x with
   | .ptr f s o=>some (.val (.ptr f s o) none)
   | .iptr cs o=>some (.val (.iptr cs o) none)
   | .rptr cs o=>some (.val (.rptr cs o) none)
   | .func (.func f) a b=>some (.val (.func (.func f) a b) none)
   | .yield f s=>some (.val (.yield f s) none)
   | .face t v=>some (.val (.face t v) none)
   |_=>none)
 | .binOp op t x y _=>(Zp P op t x y (r x) (r y)).map fun v=> .val v none
 | .unOp op _ x=>(unV op (r x)).map fun v=> .val v none
 | .convert s d x=>(match Qhh P mt o.dst s d (r x) with
   |some l=>new g fr o.dst (.grow l.length) (fun k=> .gS fr k (Qb l) l.length 1)
   |none=>convertV P g s d (r x))
 | .sliceToArrayPointer t x=>(match P.underlying t with
   |some (.array n e)=>(match sz P e,r x with
    |some k,.iS cs len _=>if n<=len/\0<n/\cs.length=len*k/\0<k then some (.val (.iptr cs 0) none) else none
    |some k,.gS _ _ cs len e' =>if n<=len/\e' =k/\Qx cs then some (.val (.iptr cs 0) none) else none
    |some k,.mS f s o len _ e' =>if n<=len/\e' =k then some (.val (.ptr f s o) none) else none
    |_,_=>none)
   |_=>none)
 | .makeInterface t x=>(match P.underlying t with
   |some (.interface _)|none=>none
   |some _=>some (.val (.face t (r x)) none))
 | .makeFunc fn a c=>some (.val (.func fn (a.toList.map r) (c.toList.map r)) none)
 | .makeMap t h=>(match P.underlying t,h with
   |some (.map _ _),none=>new g fr o.dst (.map [] [] 0) (fun d=> .map fr d)
   |some (.map _ _),some x=>(match r x with
    | .int _ _=>new g fr o.dst (.map [] [] 0) (fun d=> .map fr d)
    |_=>none)
   |_,_=>none)
 | .makeSlice t l c=>(match P.underlying t with
   |some (.slice e)=>(match sz P e,byt P e,zeroCells P e,r l,r c with
    |some k,some by_,some z,.int .i64 l,.int .i64 c=>
     if 0<=l/\l<=c/\Jl c.toNat by_/\z.length=k then
      new g fr o.dst (.cells (zerosN z c.toNat)) (fun d=> .mS fr d 0 l.toNat (some c.toNat) k) else none
    |_,_,_,_,_=>none)
   |_=>none)
 | .slice t x lo hi mx=>(Zh P g t (r x) (lo.map r) (hi.map r) (mx.map r)).map fun v=> .val v none
 | .fieldAddr t x i=>(match P.underlying t with
   |some (.struct fs)=>(match fs[i]? with
    |some f=>(match sz P f.type with
     |some n=>if n=0 then none else(match r x with
      | .ptr a b o=>some (.val (.ptr a b (o+f.offset)) none)
      | .iptr cs o=>some (.val (.iptr cs (o+f.offset)) none)
      | .rptr cs o=>some (.val (.rptr cs (o+f.offset)) none)
      |_=>none)
     |none=>none)
    |none=>none)
   |_=>none)
 | .field t x i=>(match P.underlying t,r x with
   |some (.struct fs),.agg cs=>(match fs[i]? with
    |some f=>(Qar P f.type cs f.offset).map fun v=> .val v none
    |none=>none)
   |_,_=>none)
 | .indexAddr t x i=>(Qm P t (r x) (r i)).map fun v=> .val v none
 | .index t x i=>(B1 P t (r x) (r i)).map fun v=> .val v none
 | .lookup t m k ok=>(Qct P g t (r m) (r k) ok).map fun v=> .val v none
 | .mapUpdate t m k x| .insert t m k x=>updateV P g t (r m) (r k) (r x)
 | .extract t i=>(match r t with
   | .tuple vs=>(vs[i]?).map fun v=> .val v none
   |_=>none)
 | .typeAssert x _ t ok=>(match P.underlying t,r x,zer P t with
   |some (.interface _),_,_|none,_,_|_,_,none=>none
   |_,.nI,some z=>if ok then some (.val (.tuple [Z0 z,.bool false]) none) else none
   |_,.face u v,some z=>if u=t then some (.val (if ok then .tuple [v,.bool true] else v) none) else if ok then some (.val (.tuple [Z0 z,.bool false]) none) else none
   |_,_,_=>none)
 | .call c=>(match c.callee with
   | .builtin b=>builtinV P mt fr g o.dst b c.argTypes (c.args.toList.map r)
   | .value f=>(match r f with
     | .func (.func f) first captured=>some (.call f (first++c.args.toList.map r++captured))
     | .yield f s=>some (.round f s (c.args.toList.map r))
     |_=>none)
   | .invoke _ _=>none)
 | .panic x=>(match r x with
   | .face t v=>some (.panic (.face t v))
   |_=>none)
 | .range t x=>rangeV P g fr o.dst t (r x)
 | .next x b=>if b then nextS g (r x) else none
 | .entry x=>(Qbn g (r x)).map fun v=> .val v none
 | .mapEntry t m k=>mapEntryV P g t (r m) (r k)
 | .entryStore _ m s x=>entryStoreV g (r m) (r s) (r x)
 |_=>none
variable {P : Program} {E : Env}
theorem Qh{t:TypeId}{d:TypeDesc}(h:P.underlying t=some d)(w:World):(underlying t).run P w= .ok d w:=run_underlying h w
theorem Jw{t:TypeId}{n:Nat}(h:sz P t=some n)(w:World):(sizeOf t).run P w= .ok n w:=by
 unfold sz at h;cases hq:P.info? t with
 |none=>rw[hq] at h;cases h
 |some i=>
  rw[hq] at h;simp only[Zrb,Zui] at h;simp[sizeOf,typeInfo,hq,h]
theorem Qah{t:TypeId}{z:Value}(h:zer P t=some z)(w:World):(zeroValue t).run P w= .ok z w:=by
 unfold zer at h;cases hq:P.info? t with
 |none=>rw[hq] at h;cases h
 |some i=>
  rw[hq] at h;simp only[Zrr] at h;simp[zeroValue,typeInfo,hq,h]
theorem Qk5{t:TypeId}{n:Nat}(h:byt P t=some n)(w:World):∃i,(typeInfo t).run P w= .ok i w/\i.bytes=n:=by
 unfold byt at h;cases hq:P.info? t with
 |none=>rw[hq] at h;cases h
 |some i=>
  rw[hq] at h;simp only[Zrb,Zui] at h;exact⟨i,by simp[typeInfo,hq],h⟩
theorem Qsp{t:TypeId}{d:TypeDesc}(h:P.underlying t=some d)(w:World):(isAgg t).run P w= .ok (Qk1 d) w:=by simp only[isAgg,Zuk,Qh h,Zuj];cases d<;>rfl
theorem Qcn(E:Env)(v:Value):Rel E (Qdc v) v:=by unfold Qdc;split<;>simp[Rel]
theorem Qeu(E:Env):∀(l:List Value),Qe E (l.map Qdc) l
 |[]=> .nil
 |v::l=> .cons (Qcn E v) (Qeu E l)
theorem Kg(E:Env)(v:Value):Rel E (Z0 v) v:=by
 cases v with
 |agg cs=>simp only[Z0,Rel];exact⟨cs.toList,by simp,Qeu E _⟩
 |iface t v=>simp only[Z0,Rel];exact⟨v,rfl,Qcn E v⟩
 |tuple cs=>simp only[Z0,Rel];exact⟨cs.toList,by simp,Qeu E _⟩
 |_=>first|exact Qcn E _|simpa only[Z0] using Qcn E _
theorem Qra{v:Value}(h:v.oneCell' =true):v.cells= #[v]:=by cases v<;>first|rfl|(simp[Value.oneCell'] at h)
theorem Rel.cells{x:V}{v:Value}{cs:List V}(h:Rel E x v)(hc:x.cells=some cs):∃vs,v.cells=⟨vs⟩/\Qe E cs vs/\cs.all V.scalar=true:=by
 have one:x.scalar=true->x.cells=some [x]->∃vs,v.cells=⟨vs⟩/\Qe E cs vs/\cs.all V.scalar=true:=by intro hs hx;rw[hx] at hc;cases hc;exact⟨[v],Qra (h.oneCell hs),.cons h .nil,by simp[hs]⟩
 cases x with
 |agg xs=>
  simp only[V.cells] at hc;split at hc
  . rename_i ha;cases hc;simp only[Rel] at h;obtain⟨vs,rfl,hl⟩:=h;exact⟨vs,rfl,hl,ha⟩
  . cases hc
 |bad=>cases hc
 |tuple=>cases hc
 |_=>exact one rfl rfl
theorem Xm{E:Env}{xs:List V}:∀{vs:List Value},Qe E xs vs->xs.all V.scalar=true->∀v∈vs,v.oneCell' =true:=by
 induction xs with
 |nil=>intro vs h _ v hv;rw[Qe.nil_iff] at h;subst h;cases hv
 |cons x xs ih=>
  intro vs h ha v hv;obtain⟨u,r,rfl,hu,hr⟩:=Qe.cons_iff.1 h;simp only[List.all_cons,Zr1] at ha;rcases Zrx.1 hv with rfl|hv
  . exact hu.oneCell ha.1
  . exact ih hr ha.2 v hv
theorem Qe.splice{xs cs:List V}{vs us:List Value}(h:Qe E xs vs)(g:Qe E cs us)(o:Nat):Qe E (splice xs o cs) (AM.splice vs o us):=by unfold AM.splice;rw[g.length];exact((h.take o).append g).append (h.drop _)
theorem Y1{α:Type}(xs cs:List α)(o:Nat)(h:o+cs.length<=xs.length):(splice xs o cs).length=xs.length:=by simp[splice];omega
theorem Qdd{xs cs:List V}(o:Nat)(h:xs.all V.scalar=true)(g:cs.all V.scalar=true):(splice xs o cs).all V.scalar=true:=by
 simp only[splice,Zte,Zr1];refine⟨⟨?_,g⟩,?_⟩
 . rw[Zr2] at h⊢;exact fun x hx=>h x (Zsf hx)
 . rw[Zr2] at h⊢;exact fun x hx=>h x (Ztf hx)
def Qeq(w:World)(b off:Nat)(vs:List Value):Prop:=∀i v,vs[i]?=some v->w.cell? ⟨b,off+i,none⟩=some v
theorem Row.lies{b off:Nat}{vs:List Value}(h:Row E b off vs):Qeq E.w b off vs:=fun i v hv=>(h i v hv).1
theorem Yw(b o n:Nat):(⟨b,o,none⟩:Addr).add n=⟨b,o+n,none⟩:=by unfold Addr.add;split<;>simp_all
theorem Qeq.take{w:World}{b off:Nat}{vs:List Value}(h:Qeq w b off vs)(o n:Nat):Qeq w b (off+o) ((vs.drop o).take n):=by
 intro i v hv;rw[Zrn] at hv;split at hv
 . rw[Zta] at hv;have:=h (o+i) v hv;rwa[<-Zsg] at this
 . cases hv
theorem Qdl{w:World}{b off:Nat}{vs:List Value}(h:Qeq w b off vs):(loadCells ⟨b,off,none⟩ vs.length).run P w= .ok ⟨vs⟩ w:=
 run_loadCells_list w _ vs (fun j v hv=>by rw[Yw];exact h j v hv)
theorem Qav{w:World}{t:TypeId}{xs:List V}{o:Nat}{x:V}{b off:Nat}{vs:List Value}(h:Qn P t xs o=some x)(hr:Qe E xs vs)(hl:Qeq w b off vs):
 ∃v,(loadVar t ⟨b,off+o,none⟩).run P w= .ok v w/\Rel E x v:=by
 unfold Qn at h;split at h
 . rename_i d n hd hn;simp only[loadVar,Zuk,Qsp hd,Zuj];cases ha:Qk1 d with
   |true=>
    simp only[ha,if_true] at h⊢;split at h
    . rename_i hle;cases h;have hlen:((vs.drop o).take n).length=n:=by
       have:=hr.length;simp;omega
      have:=Qdl (P:=P) (hl.take o n);rw[hlen] at this;refine⟨.agg ⟨(vs.drop o).take n⟩,?_,?_⟩
      . simp only[Zuk,Jw hn,Zuj,this,Zul]
      . simp only[Rel];exact⟨_,rfl,(hr.drop o).take n⟩
    . cases h
   |false=>
    simp only[ha,Zre,if_false] at h⊢;obtain⟨v,hv,hrel⟩:=hr.get h;refine⟨v,?_,hrel⟩;rw[run_load,hl o v hv]
 . cases h
theorem Qao{w:World}{t:TypeId}{xs:List V}{o:Nat}{x:V}{vs:List Value}(h:Qar P t xs o=some x)(hr:Qe E xs vs):
 ∃v,(part t ⟨vs⟩ o).run P w= .ok v w/\Rel E x v:=by
 unfold Qar at h;split at h
 . rename_i d n hd hn;simp only[part,Zuk,Qsp hd,Zuj];cases ha:Qk1 d with
   |true=>
    simp only[ha,if_true] at h⊢;cases h;refine⟨.agg ⟨(vs.drop o).take n⟩,?_,?_⟩
    . simp only[Zuk,Jw hn,Zuj,Zul];refine congrArg (fun a=>Result.ok (Value.agg a) w) ?_;apply Array.ext';simp[List.extract_eq_take_drop]
    . simp only[Rel];exact⟨_,rfl,(hr.drop o).take n⟩
   |false=>
    simp only[ha,Zre,if_false] at h⊢;obtain⟨v,hv,hrel⟩:=hr.get h;refine⟨v,?_,hrel⟩;have:(⟨vs⟩:Array Value)[o]?=some v:=by simpa using hv
    simp[this]
 . cases h
theorem Q2b{w:World}{op:BinOp}{k:IntKind}{a b:Int}{x:V}(t:TypeId)(h:Qfa op k a b=some x):
 ∃v,(binOp op t (.int k a) (.int k b)).run P w= .ok v w/\Rel E x v:=by
 cases op<;>simp only[Qfa] at h
 case add=>cases h;exact⟨_,by simp[binOp,Op.intArith];rfl,by simp[Rel]⟩
 case sub=>cases h;exact⟨_,by simp[binOp,Op.intArith];rfl,by simp[Rel]⟩
 case mul=>cases h;exact⟨_,by simp[binOp,Op.intArith];rfl,by simp[Rel]⟩
 case quo=>
  split at h
  . cases h
  . rename_i hb;cases h;exact⟨_,by simp[binOp,Op.intDiv,hb];rfl,by simp[Rel]⟩
 case rem=>
  split at h
  . cases h
  . rename_i hb;cases h;exact⟨_,by simp[binOp,Op.intDiv,hb];rfl,by simp[Rel]⟩
 case and=>cases h;exact⟨_,by simp only[binOp,ne_eq,not_true,if_false,Op.intBits,Zul];rfl,by simp[Rel]⟩
 case or=>cases h;exact⟨_,by simp only[binOp,ne_eq,not_true,if_false,Op.intBits,Zul];rfl,by simp[Rel]⟩
 case xor=>cases h;exact⟨_,by simp only[binOp,ne_eq,not_true,if_false,Op.intBits,Zul];rfl,by simp[Rel]⟩
 case andNot=>cases h;exact⟨_,by simp only[binOp,ne_eq,not_true,if_false,Op.intBits,Zul];rfl,by simp[Rel]⟩
 case eql=>cases h;exact⟨_,by simp[binOp,Op.intCmp];rfl,by simp[Rel]⟩
 case neq=>cases h;exact⟨_,by simp[binOp,Op.intCmp];rfl,by simp[Rel]⟩
 case lss=>cases h;exact⟨_,by simp[binOp,Op.intCmp];rfl,by simp[Rel]⟩
 case leq=>cases h;exact⟨_,by simp[binOp,Op.intCmp];rfl,by simp[Rel]⟩
 case gtr=>cases h;exact⟨_,by simp[binOp,Op.intCmp];rfl,by simp[Rel]⟩
 case geq=>cases h;exact⟨_,by simp[binOp,Op.intCmp];rfl,by simp[Rel]⟩
 case shl=>cases h
 case shr=>cases h
theorem Qll{w:World}{op:BinOp}{k k' :IntKind}{a b:Int}{x:V}(h:Qen op k a b=some x):
 ∃v,(Op.shift op k a k' b).run P w= .ok v w/\Rel E x v:=by
 unfold Qen at h;split at h
 . cases h
 . rename_i hb;cases op<;>simp only[reduceCtorEq] at h
   case shl=>cases h;exact⟨_,by simp only[Op.shift,hb,if_false,Zul];rfl,by simp[Rel]⟩
   case shr=>cases h;exact⟨_,by simp only[Op.shift,hb,if_false,Zul];rfl,by simp[Rel]⟩
theorem Q04{w:World}{op:BinOp}{a b:List UInt8}{x:V}(h:binS op a b=some x):
 ∃v,(Op.stringOp op ⟨⟨a⟩⟩ ⟨⟨b⟩⟩).run P w= .ok v w/\Rel E x v:=by
 have e1:(⟨⟨a⟩⟩:ByteArray).toList=a:=ByteArray.toList_mk a;have e2:(⟨⟨b⟩⟩:ByteArray).toList=b:=ByteArray.toList_mk b;cases op<;>simp only[binS,reduceCtorEq] at h
 case add=>
  split at h
  . rename_i hle;cases h;have h1:(⟨⟨a⟩⟩:ByteArray).size=a.length:=rfl;have h2:(⟨⟨b⟩⟩:ByteArray).size=b.length:=rfl;have hm:IntKind.i64.max=9223372036854775807:=by decide
    have h3:¬((((⟨⟨a⟩⟩:ByteArray).size+(⟨⟨b⟩⟩:ByteArray).size:Nat):Int)>IntKind.i64.max):=by rw[h1,h2,hm];omega
    refine⟨.string (⟨⟨a⟩⟩++⟨⟨b⟩⟩),by simp only[Op.stringOp,h3,if_false,Zul],?_⟩;simp only[Rel,Value.string.injEq];apply ByteArray.ext;simp
  . cases h
 case eql=>cases h;exact⟨_,by simp only[Op.stringOp,e1,e2,Zul];rfl,by simp[Rel]⟩
 case neq=>cases h;exact⟨_,by simp only[Op.stringOp,e1,e2,Zul];rfl,by simp[Rel]⟩
 case lss=>cases h;exact⟨_,by simp only[Op.stringOp,e1,e2,Zul];rfl,by simp[Rel]⟩
 case leq=>cases h;exact⟨_,by simp only[Op.stringOp,e1,e2,Zul];rfl,by simp[Rel]⟩
 case gtr=>cases h;exact⟨_,by simp only[Op.stringOp,e1,e2,Zul];rfl,by simp[Rel]⟩
 case geq=>cases h;exact⟨_,by simp only[Op.stringOp,e1,e2,Zul];rfl,by simp[Rel]⟩
theorem Q5l{w:World}{op:UnOp}{a:V}{x:V}{c:Value}(h:unV op a=some x)(hr:Rel E a c):
 ∃v,(Op.unary op c).run P w= .ok v w/\Rel E x v:=by
 unfold unV at h;split at h
 . cases h;simp only[Rel] at hr;subst hr;exact⟨_,by simp only[Op.unary,Op.intArith,Zul];rfl,by simp[Rel]⟩
 . cases h;simp only[Rel] at hr;subst hr;exact⟨_,by simp only[Op.unary,Op.intBits,Zul];rfl,by simp[Rel]⟩
 . cases h;simp only[Rel] at hr;subst hr;exact⟨_,by simp only[Op.unary,Zul];rfl,by simp[Rel]⟩
 . cases h
end Go.AM
end
