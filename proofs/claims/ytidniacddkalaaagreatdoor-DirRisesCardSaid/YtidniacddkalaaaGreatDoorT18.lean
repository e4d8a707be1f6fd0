/- This file holds in one the texts Bx14, Bx51; each says at its head what it proves. -/
import Derived.Test.YtidniacddkalaaaGreatDoorT7
import Derived.Test.YtidniacddkalaaaGreatDoorT8
set_option linter.unusedSimpArgs false
set_option linter.unusedVariables false
section
namespace Go.AM.BM
abbrev Prim:=Nat->Option Nat->Get->List V->Option (V×Option (Nat×Nat×O))
abbrev Qcj:=Nat->Get->List V->Option (V×List (Nat×Nat×O))
structure Pol where
 prim:FuncId->Option Prim
 loop:FuncId->Nat->Option (List V->Heap->Option (List V×Heap)):=fun _ _=>none
 /-- What they answer becomes cells that no longer change. -/
 fix:FuncId->Bool:=fun _=>false
 /-- Which of their arguments becomes cells that no longer change. -/
 fixA:FuncId->Option Nat:=fun _=>none
 /-- Functions answered at once, with any number of writes. -/
 prims:FuncId->Option Qcj:=fun _=>none
def eqbG:Option O->Option O->Bool
 |none,none=>true
 |some a,some b=>a.eqb b
 |_,_=>false
theorem Qx6:∀(a b:Option O),eqbG a b=true↔a=b:=by intro a b;cases a<;>cases b<;>simp[eqbG,O.eqb_iff]
def Qgr:Frame->Nat
 |[]=>0
 |(k,_)::r=>max (k+1) (Qgr r)
def Q4:Heap->Nat
 |[]=>0
 |f::_=>Qgr f
def wrL:Heap->List (Nat×Nat×O)->Heap
 |H,[]=>H
 |H,(f,s,o)::r=>wrL (hset H f s o) r
def atN(o:Oper)(nm:Nat):Oper:={o with dst:=some nm}
def Qh5(P:Program)(g:Get)(nm:Nat)(t t2:TypeId)(s x:V):Option (V×List (Nat×Nat×O)):=
 match P.underlying t,s with
 |some (.slice e),.mS f sl 0 len none e' =>(match sz P e,byt P e,zeroCells P e with
  |some n,some by_,some z=>if z.length=n/\e' =n/\0<n then
   (match g f sl,g 0 nm,Z3 P g t2 n by_ z x with
   |some (.cells xs),none,some (new,m+1)=>if xs.length=len*n/\Jl (len+(m+1)) by_/\new.all V.scalar then
     some (.mS 0 nm 0 (len+(m+1)) none n,[(f,sl,.dead),(0,nm,.cells (xs++new))]) else none
   |_,_,_=>none) else none
  |_,_,_=>none)
 |_,_=>none
def Qg3(P:Program)(g:Get)(t:TypeId)(s:V):Option (V×List (Nat×Nat×O)):=
 match P.underlying t with
 |some (.slice e)=>(match sz P e,zeroCells P e,s with
  |some _,some _,.nS=>some (.tuple [],[])
  |some n,some z,.mS f sl o len _ e' =>if len=0 then some (.tuple [],[]) else(match g f sl with
   |some (.cells xs)=>if e' =n/\z.length=n/\o+len*n<=xs.length/\0<n then some (.tuple [],[(f,sl,.cells (splice xs o (zerosN z len)))]) else none
   |_=>none)
  |_,_,_=>none)
 |_=>none
def Qrc(P:Program)(g:Get)(t:TypeId)(x l h:V):Option (V×List (Nat×Nat×O)):=
 match P.underlying t,x,l,h with
 |some (.slice e),.mS f s o len none e',.int _ l,.int _ h=>(match sz P e,g f s with
  |some n,some (.cells xs)=>if e' =n/\(len:Int)<h/\0<=l/\l<h/\o+h.toNat*n<=xs.length/\0<n then some (.mS f s (o+l.toNat*n) (h-l).toNat none n,[]) else none
  |_,_=>none)
 |_,_,_,_=>none
def J7(P:Program)(g:Get)(r:Operand->V)(nm:Nat)(o:Op):Option (V×List (Nat×Nat×O)):=
 match o with
 | .slice t x (some l) (some h) none=>Qrc P g t (r x) (r l) (r h)
 | .call c=>(match c.callee,c.args.toList,c.argTypes.toList with
   | .builtin .append,[s,x],t::t2::_=>Qh5 P g nm t t2 (r s) (r x)
   | .builtin .clear,[s],[t]=>Qg3 P g t (r s)
   |_,_,_=>none)
 |_=>none
section
variable (P : Program) (pol : Pol) (C : Call)
def Qiw(g:Get)(v:V):Option (V×Option (Nat×Nat×O)):=match v with
 | .mS f s o len cap esz=>(match g f s with
   |some (.cells xs)=>if o+len*esz<=xs.length/\Qx xs=true then some (.iS ((xs.drop o).take (len*esz)) len (cap==some len),some (f,s,.dead)) else none
   |_=>none)
 |v=>some (v,none)
def Qyw(g:Get)(v:V):Option (V×Option (Nat×Nat×O)):=match v with
 | .tuple (x::r)=>(Qiw g x).map fun y=>(.tuple (y.1::r),y.2)
 |v=>Qiw g v
def Qz6(b:Bool)(x:Option (Rt×Heap)):Option (Rt×Heap):=match b with
 |false=>x
 |true=>(match x with
  |some (.ret v,H)=>(match Qyw (Qd H) v with
   |some (v',w)=>some (.ret v',wr H w)
   |none=>none)
  |x=>x)
def Qko(g:Get)(i:Option Nat)(args:List V):Option (List V×Option (Nat×Nat×O)):=match i with
 |none=>some (args,none)
 |some i=>(match args[i]? with
  |some x=>(match Qiw g x with
   |some (y,w)=>some (args.set i y,w)
   |none=>none)
  |none=>none)
def callOp(nm:Nat)(f:FuncId)(args:List V)(H:Heap):Option (Rt×Heap):=
 match pol.prims f with
 |some g=>(g nm (Qd H) args).map fun x=>(.ret x.1,wrL H x.2)
 |none=>(match pol.prim f with
  |some g=>(g 0 (some nm) (Qd H) args).map fun x=>(.ret x.1,wr H x.2)
  |none=>(match Qko (Qd H) (pol.fixA f) args with
   |some (as,w)=>Qz6 (pol.fix f) (C (some f) as (wr H w))
   |none=>none))
def Q7(nm:Nat)(t:List V)(H:Heap)(o:Oper):Option (Ex×List V×Heap):=
 match Zr P (fun _=>true) 0 (Qd H) (rho t) (atN o nm) with
 |none=>(match J7 P (Qd H) (rho t) nm o.op with
  |some (v,ws)=>some (.normal,Qu t o.dst v,wrL H ws)
  |none=>none)
 |some (.val v w)=>some (.normal,Qu t o.dst v,wr H w)
 |some (.panic v)=>some (.panic v,t,H)
 |some (.call f args)=>(match callOp pol C (Q4 H) f args H with
  |some (.ret v,H')=>some (.normal,Qu t o.dst v,H')
  |some (.pan v,H')=>some (.panic v,t,H')
  |none=>none)
 |some (.round f s args)=>(match C none (.yield f s::args) H with
  |some (.ret v,H')=>some (.normal,Qu t o.dst v,H')
  |_=>none)
def Zi(ops:Array Oper):List Oper->List V->Heap->Option (Ex×List V×Heap)
 |[],t,H=>some (.normal,t,H)
 |o::r,t,H=>match Zy ops t o with
  |none=>none
  |some false=>Zi ops r (Qu t o.dst nov) H
  |some true=>(match Q7 P pol C (Q4 H) t H o with
   |some (.normal,t,H)=>Zi ops r t H
   |x=>x)
def Zw(body:Kw):Nat->Kw
 |0,_,_=>none
 |n+1,t,H=>match body t H with
  |some (.normal,t,H)=>Zw body n t H
  |r=>r
end
inductive FP where
 |quiet
 |ids(r w:List (Nat×Nat))(fresh:Bool)
 |call(k:Nat->Nat->Bool)
 |all
def FP.indep:FP->FP->Bool
 | .quiet,_|_,.quiet=>true
 | .ids r w _,.ids r' w' _=>!Qd5 w r' &&!Qd5 w w' &&!Qd5 w' r
 | .call k,.ids r w fresh=>(w.isEmpty||fresh)&&r.all fun x=>k x.1 x.2
 | .ids r w _,.call k=>w.isEmpty&&r.all fun x=>k x.1 x.2
 |_,_=>false
def Qgg(ws:List (Nat×Nat×O)):List (Nat×Nat):=ws.map fun x=>(x.1,x.2.1)
def Qac(nm:Nat)(H:Heap):List (Nat×Nat×O)->Bool
 |[(f,s,_)]=>Nat.beq f 0&&Nat.beq s nm&&(Qd H 0 nm).isNone
 |_=>false
def Qi5(lim:Nat)(H H1:Heap):Nat->Nat->Bool:=fun f s=>Nat.ble lim (Q4 H)&&eqbG (Qd H f s) (Qd H1 f s)
section
variable (P : Program) (pol : Pol) (C : Call)
def Jk(lim nm:Nat)(t:List V)(H H1:Heap)(o:Oper):FP:=
 if Q9 o.op then .quiet else if Y9 o.op then .all else
 match Zr P (fun _=>true) 0 (Qd H) (rho t) (atN o nm) with
 |some (.val _ w)=> .ids (Kp 0 (rho t) (atN o nm)) (Qgg w.toList) (Qac nm H w.toList)
 |none=>(match J7 P (Qd H) (rho t) nm o.op with
  |some (_,ws)=> .ids (Kp 0 (rho t) (atN o nm)) (Qgg ws) (Qac nm H ws)
  |none=> .all)
 |some (.call _ _)=> .call (Qi5 lim H H1)
 |_=> .all
def Q3(ops:Array Oper)(lim:Nat):Nat->List Oper->List V->Heap->Option (List V×Heap×List FP)
 |_,[],t,H=>some (t,H,[])
 |nm,o::r,t,H=>match Zy ops t o with
  |none=>none
  |some false=>(match Q3 ops lim (nm+1) r (Qu t o.dst nov) H with
   |some (t',H',T)=>some (t',H',.quiet::T)
   |none=>none)
  |some true=>(match Q7 P pol C nm t H o with
   |some (.normal,t1,H1)=>(match Q3 ops lim (nm+1) r t1 H1 with
    |some (t',H',T)=>some (t',H',Jk P lim nm t H H1 o::T)
    |none=>none)
   |_=>none)
end
def okT(bef:Array Nat):List (FP×Nat)->Bool
 |[]=>true
 |(a,i)::r=>r.all (fun(b,j)=>(bef.getD j 0).testBit i||a.indep b)&&okT bef r
def FP.loud:FP->Bool
 | .quiet=>false
 |_=>true
def loud(T:List FP):List (FP×Nat):=T.zipIdx.filter fun x=>x.1.loud
def Kx(s:Nat)(t:List V)(H:Heap):Out:=
 match Qd H 0 s with
 |some (.loop st pend _ _ _)=>if st=1 then none else
   (match pend with
   |none=>some (.normal,t,hset H 0 s .dead)
   |some none=>some (.ret,t,hset H 0 s .dead)
   |some (some i)=>some (.exit i,t,hset H 0 s .dead))
 |_=>none
section
variable (P : Program) (pol : Pol) (C : Call) (L : Kw -> Kw) (fn : Nat)
mutual
def Q5:Code->Kw
 | .skip=>fun t H=>some (.normal,t,H)
 | .region _ ops draw=>fun t H=>if draw then(match Qd H 0 (Q4 H+ops.size) with
    |some _=>none
    |none=>(match Q3 P pol C ops (Q4 H+ops.size) (Q4 H) ops.toList t (hset H 0 (Q4 H+ops.size) .dead) with
     |some (t',H',T)=>if okT (Region.before ops) (loud T) then some (.normal,t',H') else none
     |none=>none)) else Zi P pol C ops ops.toList t H
 | .seq a b=>fun t H=>(match Q5 a t H with
   |some (.normal,t,H)=>Q5 b t H
   |r=>r)
 | .cond c x y=>fun t H=>(match rho t c with
   | .bool b=>if b then Q5 x t H else Q5 y t H
   |_=>none)
 | .block id b=>fun t H=>(match Q5 b t H with
   |some (.exit i,t,H)=>if i=id then some (.normal,t,H) else some (.exit i,t,H)
   |r=>r)
 | .loop b=>fun t H=>(match pol.loop fn (Zn b) with
   |some g=>(g t H).map fun x=>(.normal,x.1,x.2)
   |none=>L (fun t H=>match Zx b with
    |none=>Q5 b t H
    |some x=>(match Y5 (Qd H) (rho t x) with
     |some [c]=>Z5 b c.1 c.2 t H
     |_=>none)) t H)
 | .exit id=>fun t H=>some (.exit id,t,H)
 | .ret=>fun t H=>some (.ret,t,H)
 | .rangeFunc g _ a b=>fun t H=>(match rho t g with
   | .func (.func f) first cap=>(match Qd H 0 (Q4 H) with
     |none=>(match C (some f) (first++[.yield 0 (Q4 H)]++cap) (hset H 0 (Q4 H) (.loop 0 none fn (Zc a b) t)) with
      |some (.ret _,H2)=>Kx (Q4 H) t H2
      |_=>none)
     |some _=>none)
   |_=>none)
 |_=>fun _ _=>none
def Z5:Code->V->Option (Nat×Nat×O)->Kw
 | .region _ ops _=>fun v w t H=>(match ops.toList with
   |o::r=>Zi P pol C ops r (Qu t o.dst v) (wr H w)
   |[]=>none)
 | .seq a b=>fun v w t H=>(match Z5 a v w t H with
   |some (.normal,t,H)=>Q5 b t H
   |r=>r)
 |_=>fun _ _ _ _=>none
end
def Bq(fo so:Nat)(e:Ex)(H:Heap):Option (Rt×Heap):=
 match Qd H fo so with
 |some (.loop _ _ fL rid t0)=>(match e with
  | .normal=>some (.ret (.bool true),hset H fo so (.loop 0 none fL rid t0))
  | .ret=>some (.ret (.bool false),hset H fo so (.loop 2 (some none) fL rid t0))
  | .exit i=>some (.ret (.bool false),hset H fo so (.loop 2 (some (some i)) fL rid t0))
  | .panic _=>none)
 |_=>none
def Qa0(fo so:Nat)(args:List V)(H:Heap):Option (Rt×Heap):=
 match Qd H fo so with
 |some (.loop 0 _ fL rid t0)=>(match Qo P fL rid with
  |some (ps,a,b)=>if args.length=ps.size then
    (match Q5 P pol C L fL a (Bs t0 (ps.toList.zip args)) H with
    |some (.normal,t1,H1)=>(match Qd H1 fo so with
     |some (.loop 0 pend fL' rid' t0')=>(match Q5 P pol C L fL b t1 (hset H1 fo so (.loop 1 pend fL' rid' t0')) with
      |some (e,_,H2)=>Bq fo so e H2
      |none=>none)
     |_=>none)
    |_=>none) else none
  |none=>none)
 |_=>none
def Qid:Code->Option (Array Oper×List Oper×Option Nat×Operand)
 | .region _ ops false=>(match ops.toList.reverse with
   |o::r=>(match o.guard,o.op with
    |none,.defer c=>(match c.callee,c.args.toList with
     | .value x,[]=>some (ops,r.reverse,o.dst,x)
     |_,_=>none)
    |_,_=>none)
   |[]=>none)
 |_=>none
def Qj2:Code->Bool
 | .seq a b=>(Qid a).isSome||Qj2 b
 |_=>false
def noD:Out->Option (Ex×List V×Heap×List V)
 |some (e,t,H)=>some (e,t,H,[])
 |none=>none
def Qdw(fn:Nat):Code->List V->Heap->Option (Ex×List V×Heap×List V)
 | .seq a b,t,H=>(match Qid a with
   |some (ops,l,d,x)=>(match Zi P pol C ops l t H with
    |some (.normal,t1,H1)=>(match rho t1 x with
     | .func f p q=>(match Qdw fn b (Qu t1 d nov) H1 with
       |some (ex,t2,H2,ds)=>some (ex,t2,H2,ds++[.func f p q])
       |none=>none)
     |_=>none)
    |_=>none)
   |none=>if(Q1 a).isEmpty then(match Q5 P pol C L fn a t H with
     |some (.normal,t1,H1)=>Qdw fn b t1 H1
     |some (e,t1,H1)=>some (e,t1,H1,[])
     |none=>none)
    else noD (Q5 P pol C L fn (.seq a b) t H))
 |c,t,H=>noD (Q5 P pol C L fn c t H)
def Ql0(g:FuncId):Bool:=match P.funcs[g]? with
 |some F=>(match F.body with
  |some c=>(Q1 c).isEmpty&&!Qj2 c
  |none=>false)
 |none=>false
def Qee:List V->Heap->Option Heap
 |[],H=>some H
 | .func (.func g) first cap::ds,H=>if Ql0 P g then(match C (some g) (first++cap) H with
   |some (.ret _,H')=>Qee ds H'
   |_=>none) else none
 |_,_=>none
def Qzr(f:FuncId)(F:Func)(c:Code)(args:List V)(H:Heap):Option (Rt×Heap):=
 match Qdw P pol C L f c (args++List.replicate (F.ntmps-args.length) .bad) H with
 |some (.normal,t,H',ds)|some (.ret,t,H',ds)=>(match Qee P C ds H' with
  |some H2=>(match Xn P F t H2 with
   |some v=>some (.ret v,H2)
   |none=>none)
  |none=>none)
 |_=>none
def Qbc(f:FuncId)(args:List V)(H:Heap):Option (Rt×Heap):=
 match P.funcs[f]? with
 |some F=>(match F.body with
  |some c=>if Qj2 c then Qzr P pol C L f F c args H else(match Q5 P pol C L f c (args++List.replicate (F.ntmps-args.length) .bad) H with
   |some (.normal,t,H')|some (.ret,t,H')=>(match Xn P F t H' with
    |some v=>some (.ret v,H')
    |none=>none)
   |some (.panic v,_,H')=>some (.pan v,H')
   |_=>none)
  |none=>none)
 |none=>none
def Qd6(f:Option FuncId)(args:List V)(H:Heap):Option (Rt×Heap):=
 match f with
 |some f=>Qbc P pol C L f args H
 |none=>(match args with
  | .yield fo so::rest=>Qa0 P pol C L fo so rest H
  |_=>none)
end
def Ye(P:Program)(pol:Pol):Nat->Call
 |0=>fun _ _ _=>none
 |n+1=>Qd6 P pol (Ye P pol n) (fun b=>Zw b n)
end Go.AM.BM
end
section
namespace Go.AM.BM
def GLe(g g' :Get):Prop:=∀f s x,g f s=some x->g' f s=some x
section
variable {P : Program} {mt : Nat -> Bool} {fr : Nat} {g g' : Get}
theorem Qag(hg:GLe g g'){esz:Nat}{x:V}{r:List V×Nat}(h:Ql g esz x=some r):Ql g' esz x=some r:=by
 unfold Ql at h⊢;cases x<;>try exact h
 rename_i f s o0 len cap e0;cases hq:g f s with
 |none=>exfalso;simp only[hq] at h;(repeat' split at h)<;>cases h
 |some o=>simp only[hg _ _ _ hq];simp only[hq] at h;exact h
theorem Qy7{dst:Option Nat}{o:O}{v:Nat->V}(hd:∀d,dst=some d->g' fr d=g fr d):new g' fr dst o v=new g fr dst o v:=Y2 fun d e=>hd d e
theorem Qzp(hg:GLe g g'){t:TypeId}{x:V}{lo hi mx:Option V}{r:V}(h:Zh P g t x lo hi mx=some r):Zh P g' t x lo hi mx=some r:=by
 unfold Zh at h⊢;cases x<;>try exact h
 rename_i f s o0;cases hq:g f s with
 |none=>exfalso;simp only[hq] at h;(repeat' split at h)<;>first|(cases h;done)|(simp at h;done)
 |some o=>simp only[hg _ _ _ hq];simp only[hq] at h;exact h
theorem Qvp(hg:GLe g g'){t:TypeId}{m k:V}{ok:Bool}{r:V}(h:Qct P g t m k ok=some r):Qct P g' t m k ok=some r:=by
 unfold Qct at h⊢;cases m<;>try exact h
 rename_i f s;cases hq:g f s with
 |none=>exfalso;simp only[hq] at h;(repeat' split at h)<;>cases h
 |some o=>simp only[hg _ _ _ hq];simp only[hq] at h;exact h
theorem Qky(hg:GLe g g'){t:TypeId}{m k x:V}{r:Zk}(h:updateV P g t m k x=some r):updateV P g' t m k x=some r:=by
 unfold updateV at h⊢;cases m<;>try exact h
 rename_i f s;cases hq:g f s with
 |none=>exfalso;simp only[hq] at h;(repeat' split at h)<;>cases h
 |some o=>simp only[hg _ _ _ hq];simp only[hq] at h;exact h
theorem Qg0(hg:GLe g g'){t2:TypeId}{n b:Nat}{z:List V}{x:V}{r:List V×Nat}(h:Z3 P g t2 n b z x=some r):Z3 P g' t2 n b z x=some r:=by
 unfold Z3 at h⊢;split at h<;>try exact h
 exact Qag hg h
theorem Q2y{dst:Option Nat}{cs chk:List V}{n esz:Nat}(hd:∀d,dst=some d->g' fr d=g fr d):grown mt g' fr dst cs chk n esz=grown mt g fr dst cs chk n esz:=Qd8 fun d e=>hd d e
theorem Qrb(hg:GLe g g'){dst:Option Nat}(hd:∀d,dst=some d->g' fr d=g fr d){n b m:Nat}{s:V}{nw:List V}{st:Zk}(h:appendTo mt fr g dst n b s nw m=some st):appendTo mt fr g' dst n b s nw m=some st:=by
 unfold appendTo at h⊢;have e:∀cs chk n esz,grown mt g' fr dst cs chk n esz=grown mt g fr dst cs chk n esz:=fun cs chk n esz=>Q2y hd;simp only[e];cases s<;>try exact h
 case iS cs len full=>cases full<;>exact h
 case gS f s cs len e0=>
  cases hq:g f s with
  |none=>exfalso;simp only[hq] at h;(repeat' split at h)<;>cases h
  |some o=>simp only[hg _ _ _ hq];simp only[hq] at h;exact h
 rename_i f s o0 len cap e0;cases hq:g f s with
 |none=>exfalso;simp only[hq] at h;(repeat' split at h)<;>cases h
 |some o=>simp only[hg _ _ _ hq];simp only[hq] at h;exact h
theorem Qu6(hg:GLe g g'){dst:Option Nat}(hd:∀d,dst=some d->g' fr d=g fr d){t t2:TypeId}{s x:V}{st:Zk}(h:Qq P mt fr g dst t t2 s x=some st):Qq P mt fr g' dst t t2 s x=some st:=by
 unfold Qq at h⊢;split at h<;>try (cases h;done)
 split at h<;>try (cases h;done)
 split at h<;>try (cases h;done)
 rename_i h5;rw[if_pos h5];split at h
 . cases h
 . rename_i he;rw[Qg0 hg he];exact h
 . rename_i he;rw[Qg0 hg he];exact Qrb hg hd h
theorem Q7s(hg:GLe g g'){t:TypeId}{x:V}{r:V}(h:Y4 P g t x=some r):Y4 P g' t x=some r:=by
 unfold Y4 at h⊢;cases hu:P.underlying t with
 |none=>rw[hu] at h;cases h
 |some d=>
  rw[hu] at h;cases d<;>cases x<;>first|exact h|(cases h;done)|skip
  rename_i f s;cases hq:g f s with
  |none=>exfalso;simp only[hq] at h;cases h
  |some o=>simp only[hg _ _ _ hq];simp only[hq] at h;exact h
theorem Qt9(hg:GLe g g'){n:Nat}{x:V}{r:List V×Nat}(h:Bv g n x=some r):Bv g' n x=some r:=by
 unfold Bv at h⊢;split at h<;>try exact h
 exact Qag hg h
theorem Qy9(hg:GLe g g'){n m:Nat}{d:V}{cs:List V}{r:Zk}(h:Qbi g n d cs m=some r):Qbi g' n d cs m=some r:=by
 unfold Qbi at h⊢;cases d<;>try exact h
 rename_i f s o0 len cap e0;cases hq:g f s with
 |none=>exfalso;simp only[hq] at h;(repeat' split at h)<;>cases h
 |some o=>simp only[hg _ _ _ hq];simp only[hq] at h;exact h
theorem Q15(hg:GLe g g'){t:TypeId}{d s:V}{r:Zk}(h:Qbz P g t d s=some r):Qbz P g' t d s=some r:=by
 unfold Qbz at h⊢;split at h<;>try (cases h;done)
 split at h<;>try (cases h;done)
 split at h<;>try (cases h;done)
 rename_i he;rw[Qt9 hg he];exact Qy9 hg h
theorem Qwc(hg:GLe g g'){t:TypeId}{m k:V}{r:Zk}(h:Qbt P g t m k=some r):Qbt P g' t m k=some r:=by
 unfold Qbt at h⊢;cases m<;>try exact h
 rename_i f s;cases hq:g f s with
 |none=>exfalso;simp only[hq] at h;(repeat' split at h)<;>cases h
 |some o=>simp only[hg _ _ _ hq];simp only[hq] at h;exact h
theorem Qq2(hg:GLe g g'){s d:TypeId}{x:V}{r:Zk}(h:convertV P g s d x=some r):convertV P g' s d x=some r:=by
 unfold convertV at h⊢;split at h<;>try exact h
 . split at h<;>try (cases h;done)
   split at h<;>try (cases h;done)
   rename_i he;rw[Qag hg he];exact h
 . split at h<;>try (cases h;done)
   rename_i h1;rw[if_pos h1];split at h<;>try (cases h;done)
   rename_i h2 h3;simp only[h2,hg _ _ _ h3];exact h
theorem Qrg(hg:GLe g g'){dst:Option Nat}(hd:∀d,dst=some d->g' fr d=g fr d){b:Builtin}{ts:Array TypeId}{args:List V}{r:Zk}(h:builtinV P mt fr g dst b ts args=some r):builtinV P mt fr g' dst b ts args=some r:=by
 unfold builtinV at h⊢;split at h<;>try exact h
 . split at h<;>try (cases h;done)
   exact Qu6 hg hd h
 . split at h<;>try (cases h;done)
   obtain⟨v,h2,h3⟩:=Ztb.1 h;rw[Q7s hg h2,<-h3];rfl
 . split at h<;>try (cases h;done)
   exact Q15 hg h
 . split at h<;>try (cases h;done)
   exact Qwc hg h
theorem Qz8(hg:GLe g g'){dst:Option Nat}(hd:∀d,dst=some d->g' fr d=g fr d){t:TypeId}{x:V}{r:Zk}(h:rangeV P g fr dst t x=some r):rangeV P g' fr dst t x=some r:=by
 unfold rangeV at h⊢;have nw:∀(ob:O) (v:Nat->V),new g' fr dst ob v=new g fr dst ob v:=fun ob v=>Qy7 hd;simp only[nw];cases hu:P.underlying t with
 |none=>rw[hu] at h;cases h
 |some d=>
  rw[hu] at h;cases d<;>cases x<;>first|exact h|(cases h;done)|skip
  rename_i f s;cases hq:g f s with
  |none=>exfalso;simp only[hq] at h;cases h
  |some o=>simp only[hg _ _ _ hq];simp only[hq] at h;exact h
theorem Qwn(hg:GLe g g'){x:V}{r:V}(h:Qbn g x=some r):Qbn g' x=some r:=by
 unfold Qbn at h⊢;split at h<;>try (cases h;done)
 split at h<;>try (cases h;done)
 rename_i h1;rw[hg _ _ _ h1];simp only;split at h<;>try (cases h;done)
 rename_i h2 h3;simp only[hg _ _ _ h2,h3];exact h
theorem Qqd(hg:GLe g g'){t:TypeId}{m k:V}{r:Zk}(h:mapEntryV P g t m k=some r):mapEntryV P g' t m k=some r:=by
 unfold mapEntryV at h⊢;cases m<;>try exact h
 rename_i f s;cases hq:g f s with
 |none=>exfalso;simp only[hq] at h;(repeat' split at h)<;>cases h
 |some o=>simp only[hg _ _ _ hq];simp only[hq] at h;exact h
theorem Qly(hg:GLe g g'){m s x:V}{r:Zk}(h:entryStoreV g m s x=some r):entryStoreV g' m s x=some r:=by
 unfold entryStoreV at h⊢;split at h<;>try (cases h;done)
 split at h<;>try (cases h;done)
 rename_i h1;rw[hg _ _ _ h1];exact h
theorem Qpj{α β:Type}{a b:Option α}{f:α->β}{r:β}(hab:∀x,a=some x->b=some x)(h:a.map f=some r):b.map f=some r:=by obtain⟨v,h2,h3⟩:=Ztb.1 h;rw[hab _ h2,<-h3];rfl
theorem Q2a(hg:GLe g g'){x:V}{r:Zk}(h:nextS g x=some r):nextS g' x=some r:=by
 unfold nextS at h⊢;split at h
 case h_2=>cases h
 split at h
 case h_2=>cases h
 rename_i hi;rw[hg _ _ _ hi];exact h
theorem Qap(hg:GLe g g'){ρ:Operand->V}{o:Oper}(hd:∀d,o.dst=some d->g' fr d=g fr d){st:Zk}(h:Zr P mt fr g ρ o=some st):Zr P mt fr g' ρ o=some st:=by
 have nw:∀(ob:O) (v:Nat->V),new g' fr o.dst ob v=new g fr o.dst ob v:=fun ob v=>Qy7 hd;unfold Zr at h⊢;cases ho:o.op<;>rw[ho] at h<;>simp only[nw] at h⊢<;>try exact h
 case load=>
  split at h<;>try exact h
  split at h<;>try (cases h;done)
  rename_i he;rw[hg _ _ _ he];exact h
 case store=>
  split at h<;>try (cases h;done)
  split at h<;>try (cases h;done)
  rename_i he;rw[hg _ _ _ he];exact h
 case convert=>
  split at h
  . exact h
  . exact Qq2 hg h
 case slice=>exact Qpj (fun x hx=>Qzp hg hx) h
 case lookup=>exact Qpj (fun x hx=>Qvp hg hx) h
 case mapUpdate=>exact Qky hg h
 case insert=>exact Qky hg h
 case call c=>
  cases hc:c.callee<;>rw[hc] at h<;>simp only at h⊢<;>try exact h
  exact Qrg hg hd h
 case range=>exact Qz8 hg hd h
 case entry=>exact Qpj (fun x hx=>Qwn hg hx) h
 case next=>
  split at h
  . rename_i hb;simp only[hb,if_true];exact Q2a hg h
  . cases h
 case mapEntry=>exact Qqd hg h
 case entryStore=>exact Qly hg h
def Tgt(g:Get)(fr:Nat)(dst:Option Nat)(st:Zk):Prop:=∀v f s o,st= .val v (some (f,s,o))->(∃x,g f s=some x)\/(f=fr/\dst=some s)
theorem Tgt.none{dst:Option Nat}{v:V}:Tgt g fr dst (.val v none):=fun _ _ _ _ h=>by cases h
theorem Tgt.of{dst:Option Nat}{v:V}{f s:Nat}{o x:O}(h:g f s=some x):Tgt g fr dst (.val v (some (f,s,o))):=fun _ _ _ _ e=>by cases e;exact .inl ⟨x,h⟩
theorem Qib{dst:Option Nat}{o:O}{v:Nat->V}{st:Zk}(h:new g fr dst o v=some st):Tgt g fr dst st:=by
 unfold new at h
 (repeat' split at h)<;>cases h
 exact fun _ _ _ _ e=>by cases e;exact .inr ⟨rfl,rfl⟩
theorem Q5m{dst:Option Nat}{cs chk:List V}{n esz:Nat}{st:Zk}(h:grown mt g fr dst cs chk n esz=some st):Tgt g fr dst st:=by
 unfold grown at h
 (repeat' split at h)<;>first|(cases h;done)|exact Qib h
theorem Qmu{dst:Option Nat}{t:TypeId}{m k x:V}{st:Zk}(h:updateV P g t m k x=some st):Tgt g fr dst st:=by
 unfold updateV at h
 (repeat' split at h)<;>cases h<;>exact Tgt.of (by assumption)
theorem Qvn{dst:Option Nat}{n b m:Nat}{s:V}{nw:List V}{st:Zk}(h:appendTo mt fr g dst n b s nw m=some st):Tgt g fr dst st:=by
 unfold appendTo at h
 (repeat' split at h)<;>first|(cases h;done)|exact Q5m h|(cases h;exact Tgt.of (by assumption))
theorem Qxs{dst:Option Nat}{t t2:TypeId}{s x:V}{st:Zk}(h:Qq P mt fr g dst t t2 s x=some st):Tgt g fr dst st:=by
 unfold Qq at h
 (repeat' split at h)<;>first|(cases h;done)|exact Qvn h|(cases h;exact Tgt.none)
theorem Q6g{dst:Option Nat}{t:TypeId}{d s:V}{st:Zk}(h:Qbz P g t d s=some st):Tgt g fr dst st:=by
 unfold Qbz Qbi at h
 (repeat' split at h)<;>first|(cases h;done)|(cases h;exact Tgt.none)|(cases h;exact Tgt.of (by assumption))
theorem Qyh{dst:Option Nat}{t:TypeId}{m k:V}{st:Zk}(h:Qbt P g t m k=some st):Tgt g fr dst st:=by
 unfold Qbt at h
 (repeat' split at h)<;>first|(cases h;done)|(cases h;exact Tgt.none)|(cases h;exact Tgt.of (by assumption))
theorem Q6i{dst:Option Nat}{x:V}{st:Zk}(h:nextS g x=some st):Tgt g fr dst st:=by
 unfold nextS at h
 (repeat' split at h)<;>first|(cases h;done)|(cases h;exact Tgt.of (by assumption))|(cases h;exact Tgt.none)
theorem Qvy{dst:Option Nat}{s d:TypeId}{x:V}{st:Zk}(h:convertV P g s d x=some st):Tgt g fr dst st:=by
 unfold convertV at h
 (repeat' split at h)<;>first|(cases h;done)|(cases h;exact Tgt.none)|(cases h;exact Tgt.of (by assumption))|(obtain⟨_,_,rfl⟩:=Ztb.1 h;exact Tgt.none)
theorem Qzv{dst:Option Nat}{x:Option V}{st:Zk}(h:(x.map fun v=>Zk.val v none)=some st):Tgt g fr dst st:=by obtain⟨_,_,rfl⟩:=Ztb.1 h;exact Tgt.none
theorem Qwf{dst:Option Nat}{b:Builtin}{ts:Array TypeId}{args:List V}{st:Zk}(h:builtinV P mt fr g dst b ts args=some st):Tgt g fr dst st:=by
 unfold builtinV at h
 (repeat' split at h)<;>first|(cases h;done)|exact Qxs h|exact Q6g h|exact Qyh h|exact Qzv h
theorem Q2k{dst:Option Nat}{t:TypeId}{x:V}{st:Zk}(h:rangeV P g fr dst t x=some st):Tgt g fr dst st:=by
 unfold rangeV at h
 (repeat' split at h)<;>first|(cases h;done)|exact Qib h
theorem Qrf{dst:Option Nat}{t:TypeId}{m k:V}{st:Zk}(h:mapEntryV P g t m k=some st):Tgt g fr dst st:=by
 unfold mapEntryV at h
 (repeat' split at h)<;>first|(cases h;done)|(cases h;exact Tgt.of (by assumption))
theorem Qnu{dst:Option Nat}{m s x:V}{st:Zk}(h:entryStoreV g m s x=some st):Tgt g fr dst st:=by
 unfold entryStoreV at h;split at h<;>try (cases h;done)
 split at h<;>try (cases h;done)
 obtain⟨_,_,rfl⟩:=Ztb.1 h;exact Tgt.of (by assumption)
theorem Q9s{ρ:Operand->V}{o:Oper}{st:Zk}(h:Zr P mt fr g ρ o=some st):Tgt g fr o.dst st:=by
 unfold Zr at h;cases ho:o.op<;>rw[ho] at h<;>simp only at h
 case alloc=>obtain⟨_,_,h⟩:=Option.bind_eq_some_iff.1 h;exact Qib h
 case box=>
  obtain⟨_,_,h⟩:=Option.bind_eq_some_iff.1 h;split at h
  case h_2=>cases h
  split at h
  . exact Qib h
  . split at h
    . cases h;exact Tgt.none
    . cases h
 case convert=>
  split at h
  . exact Qib h
  . exact Qvy h
 case mapUpdate=>exact Qmu h
 case insert=>exact Qmu h
 case range=>exact Q2k h
 case next=>
  split at h
  . exact Q6i h
  . cases h
 case mapEntry=>exact Qrf h
 case entryStore=>exact Qnu h
 case call c=>
  split at h
  . exact Qwf h
  . split at h<;>cases h<;>exact fun _ _ _ _ e=>by cases e
  . cases h
 all_goals ((repeat' split at h)<;>first|(cases h;done)|exact Qzv h|exact Qib h|(cases h;exact Tgt.none)|(cases h;exact Tgt.of (by assumption))|(cases h;exact fun _ _ _ _ e=>by cases e))
theorem Q0g(hg:GLe g g'){nm:Nat}(hd:g' 0 nm=g 0 nm){t t2:TypeId}{s x:V}{r:V×List (Nat×Nat×O)}(h:Qh5 P g nm t t2 s x=some r):Qh5 P g' nm t t2 s x=some r:=by
 unfold Qh5 at h⊢;split at h<;>try (cases h;done)
 split at h<;>try (cases h;done)
 split at h<;>try (cases h;done)
 rename_i h1;rw[if_pos h1];split at h<;>try (cases h;done)
 rename_i h2 h3 h4;rw[hg _ _ _ h2,hd,h3,Qg0 hg h4];exact h
theorem Qxq(hg:GLe g g'){t:TypeId}{s:V}{r:V×List (Nat×Nat×O)}(h:Qg3 P g t s=some r):Qg3 P g' t s=some r:=by
 unfold Qg3 at h⊢;split at h<;>try (cases h;done)
 split at h<;>try (cases h;done)
 . exact h
 . split at h
   . rename_i e;rw[if_pos e];exact h
   rename_i e;rw[if_neg e];split at h<;>try (cases h;done)
   rename_i he;rw[hg _ _ _ he];exact h
theorem Q5c(hg:GLe g g'){t:TypeId}{x l h:V}{r:V×List (Nat×Nat×O)}(e:Qrc P g t x l h=some r):Qrc P g' t x l h=some r:=by
 unfold Qrc at e⊢;split at e<;>try (cases e;done)
 split at e<;>try (cases e;done)
 rename_i h1 h2;rw[h1,hg _ _ _ h2];exact e
theorem Q46{t:TypeId}{x l h v:V}{ws:List (Nat×Nat×O)}(e:Qrc P g t x l h=some (v,ws)):ws=[]:=by
 unfold Qrc at e
 (repeat' split at e)<;>cases e
 rfl
theorem Qni(hg:GLe g g'){nm:Nat}(hd:g' 0 nm=g 0 nm){ρ:Operand->V}{o:Op}{r:V×List (Nat×Nat×O)}(h:J7 P g ρ nm o=some r):J7 P g' ρ nm o=some r:=by
 unfold J7 at h⊢;split at h<;>try (cases h;done)
 . exact Q5c hg h
 split at h<;>try (cases h;done)
 . exact Q0g hg hd h
 . exact Qxq hg h
theorem Q2q{nm:Nat}{ρ:Operand->V}{o:Op}{v:V}{ws:List (Nat×Nat×O)}(h:J7 P g ρ nm o=some (v,ws)):∀x∈ws,(∃y,g x.1 x.2.1=some y)\/(x.1=0/\x.2.1=nm):=by
 unfold J7 at h;split at h<;>try (cases h;done)
 . rw[Q46 h];intro x hx;cases hx
 split at h<;>try (cases h;done)
 . unfold Qh5 at h
   (repeat' split at h)<;>cases h
   rename_i h2 h3 h4 _;intro x hx;simp only[Zrx,List.not_mem_nil,or_false] at hx;rcases hx with rfl|rfl
   . exact .inl ⟨_,h2⟩
   . exact .inr ⟨rfl,rfl⟩
 . unfold Qg3 at h
   (repeat' split at h)<;>cases h
   . intro x hx;cases hx
   . intro x hx;cases hx
   . rename_i he _;intro x hx;rw[Zr0] at hx;subst hx;exact .inl ⟨_,he⟩
end
end Go.AM.BM
end
