/- This file holds in one the texts Bx14, Bx51, Bx52; each says at its head what it proves. -/
import Derived.Test.YtjllfbejpjonnaaGreatDoorT6
import Derived.Test.YtjllfbejpjonnaaGreatDoorT7
set_option linter.unusedSimpArgs false
set_option linter.unusedVariables false
section
namespace Go.AM.BM
abbrev Prim:=Nat->Option Nat->Get->List V->Option (V×Option (Nat×Nat×O))
abbrev Qc4:=Nat->Get->List V->Option (V×List (Nat×Nat×O))
structure Pol where
 prim:FuncId->Option Prim
 loop:FuncId->Nat->Option (List V->Heap->Option (List V×Heap)):=fun _ _=>none
 /-- What they answer becomes cells that no longer change. -/
 fix:FuncId->Bool:=fun _=>false
 /-- Which of their arguments becomes cells that no longer change. -/
 fixA:FuncId->Option Nat:=fun _=>none
 /-- Functions answered at once, with any number of writes. -/
 prims:FuncId->Option Qc4:=fun _=>none
def eqbG:Option O->Option O->Bool
 |none,none=>true
 |some a,some b=>a.eqb b
 |_,_=>false
theorem Qzg:∀(a b:Option O),eqbG a b=true↔a=b:=by intro a b;cases a<;>cases b<;>simp[eqbG,O.eqb_iff]
def Qht:Frame->Nat
 |[]=>0
 |(k,_)::r=>max (k+1) (Qht r)
def Zc:Heap->Nat
 |[]=>0
 |f::_=>Qht f
def wrL:Heap->List (Nat×Nat×O)->Heap
 |H,[]=>H
 |H,(f,s,o)::r=>wrL (hset H f s o) r
def atN(o:Oper)(nm:Nat):Oper:={o with dst:=some nm}
def Qhw(P:Program)(g:Get)(nm:Nat)(t t2:TypeId)(s x:V):Option (V×List (Nat×Nat×O)):=
 match P.underlying t,s with
 |some (.slice e),.mS f sl 0 len none e' =>(match sz P e,byt P e,zeroCells P e with
  |some n,some by_,some z=>if z.length=n/\e' =n/\0<n then
   (match g f sl,g 0 nm,Ji P g t2 n by_ z x with
   |some (.cells xs),none,some (new,m+1)=>if xs.length=len*n/\J4 (len+(m+1)) by_/\new.all V.scalar then
     some (.mS 0 nm 0 (len+(m+1)) none n,[(f,sl,.dead),(0,nm,.cells (xs++new))]) else none
   |_,_,_=>none) else none
  |_,_,_=>none)
 |_,_=>none
def Qrs(P:Program)(g:Get)(t:TypeId)(x l h:V):Option (V×List (Nat×Nat×O)):=
 match P.underlying t,x,l,h with
 |some (.slice e),.mS f s o len none e',.int _ l,.int _ h=>(match sz P e,g f s with
  |some n,some (.cells xs)=>if e' =n/\(len:Int)<h/\0<=l/\l<h/\o+h.toNat*n<=xs.length/\0<n then some (.mS f s (o+l.toNat*n) (h-l).toNat none n,[]) else none
  |_,_=>none)
 |_,_,_,_=>none
def J6(P:Program)(g:Get)(r:Operand->V)(nm:Nat)(o:Op):Option (V×List (Nat×Nat×O)):=
 match o with
 | .slice t x (some l) (some h) none=>Qrs P g t (r x) (r l) (r h)
 | .call c=>(match c.callee,c.args.toList,c.argTypes.toList with
   | .builtin .append,[s,x],t::t2::_=>Qhw P g nm t t2 (r s) (r x)
   |_,_,_=>none)
 |_=>none
section
variable (P : Program) (pol : Pol) (C : Call)
def Qiq(g:Get)(v:V):Option (V×Option (Nat×Nat×O)):=match v with
 | .mS f s o len cap esz=>(match g f s with
   |some (.cells xs)=>if o+len*esz<=xs.length/\Qu xs=true then some (.iS ((xs.drop o).take (len*esz)) len (cap==some len),some (f,s,.dead)) else none
   |_=>none)
 |v=>some (v,none)
def Qzo(g:Get)(v:V):Option (V×Option (Nat×Nat×O)):=match v with
 | .tuple (x::r)=>(Qiq g x).map fun y=>(.tuple (y.1::r),y.2)
 |v=>Qiq g v
def Qy1(b:Bool)(x:Option (Rt×Heap)):Option (Rt×Heap):=match b with
 |false=>x
 |true=>(match x with
  |some (.ret v,H)=>(match Qzo (Qd H) v with
   |some (v',w)=>some (.ret v',wr H w)
   |none=>none)
  |x=>x)
def Qk2(g:Get)(i:Option Nat)(args:List V):Option (List V×Option (Nat×Nat×O)):=match i with
 |none=>some (args,none)
 |some i=>(match args[i]? with
  |some x=>(match Qiq g x with
   |some (y,w)=>some (args.set i y,w)
   |none=>none)
  |none=>none)
def callOp(nm:Nat)(f:FuncId)(args:List V)(H:Heap):Option (Rt×Heap):=
 match pol.prims f with
 |some g=>(g nm (Qd H) args).map fun x=>(.ret x.1,wrL H x.2)
 |none=>(match pol.prim f with
  |some g=>(g 0 (some nm) (Qd H) args).map fun x=>(.ret x.1,wr H x.2)
  |none=>(match Qk2 (Qd H) (pol.fixA f) args with
   |some (as,w)=>Qy1 (pol.fix f) (C (some f) as (wr H w))
   |none=>none))
def Zi(nm:Nat)(t:List V)(H:Heap)(o:Oper):Option (Ex×List V×Heap):=
 match Zv P (fun _=>true) 0 (Qd H) (rho t) (atN o nm) with
 |none=>(match J6 P (Qd H) (rho t) nm o.op with
  |some (v,ws)=>some (.normal,Q1 t o.dst v,wrL H ws)
  |none=>none)
 |some (.val v w)=>some (.normal,Q1 t o.dst v,wr H w)
 |some (.panic v)=>some (.panic v,t,H)
 |some (.call f args)=>(match callOp pol C (Zc H) f args H with
  |some (.ret v,H')=>some (.normal,Q1 t o.dst v,H')
  |some (.pan v,H')=>some (.panic v,t,H')
  |none=>none)
 |some (.round f s args)=>(match C none (.yield f s::args) H with
  |some (.ret v,H')=>some (.normal,Q1 t o.dst v,H')
  |_=>none)
def Zp(ops:Array Oper):List Oper->List V->Heap->Option (Ex×List V×Heap)
 |[],t,H=>some (.normal,t,H)
 |o::r,t,H=>match Z1 ops t o with
  |none=>none
  |some false=>Zp ops r (Q1 t o.dst nov) H
  |some true=>(match Zi P pol C (Zc H) t H o with
   |some (.normal,t,H)=>Zp ops r t H
   |x=>x)
def Zz(body:Kz):Nat->Kz
 |0,_,_=>none
 |n+1,t,H=>match body t H with
  |some (.normal,t,H)=>Zz body n t H
  |r=>r
end
inductive FP where
 |quiet
 |ids(r w:List (Nat×Nat))(fresh:Bool)
 |call(k:Nat->Nat->Bool)
 |all
def FP.indep:FP->FP->Bool
 | .quiet,_|_,.quiet=>true
 | .ids r w _,.ids r' w' _=>!Qd8 w r' &&!Qd8 w w' &&!Qd8 w' r
 | .call k,.ids r w fresh=>(w.isEmpty||fresh)&&r.all fun x=>k x.1 x.2
 | .ids r w _,.call k=>w.isEmpty&&r.all fun x=>k x.1 x.2
 |_,_=>false
def Qfl(ws:List (Nat×Nat×O)):List (Nat×Nat):=ws.map fun x=>(x.1,x.2.1)
def Qab(nm:Nat)(H:Heap):List (Nat×Nat×O)->Bool
 |[(f,s,_)]=>Nat.beq f 0&&Nat.beq s nm&&(Qd H 0 nm).isNone
 |_=>false
def Qi1(lim:Nat)(H H1:Heap):Nat->Nat->Bool:=fun f s=>Nat.ble lim (Zc H)&&eqbG (Qd H f s) (Qd H1 f s)
section
variable (P : Program) (pol : Pol) (C : Call)
def Jp(lim nm:Nat)(t:List V)(H H1:Heap)(o:Oper):FP:=
 if Zk o.op then .quiet else if Kf o.op then .all else
 match Zv P (fun _=>true) 0 (Qd H) (rho t) (atN o nm) with
 |some (.val _ w)=> .ids (Ka 0 (rho t) (atN o nm)) (Qfl w.toList) (Qab nm H w.toList)
 |none=>(match J6 P (Qd H) (rho t) nm o.op with
  |some (_,ws)=> .ids (Ka 0 (rho t) (atN o nm)) (Qfl ws) (Qab nm H ws)
  |none=> .all)
 |some (.call _ _)=> .call (Qi1 lim H H1)
 |_=> .all
def Zb(ops:Array Oper)(lim:Nat):Nat->List Oper->List V->Heap->Option (List V×Heap×List FP)
 |_,[],t,H=>some (t,H,[])
 |nm,o::r,t,H=>match Z1 ops t o with
  |none=>none
  |some false=>(match Zb ops lim (nm+1) r (Q1 t o.dst nov) H with
   |some (t',H',T)=>some (t',H',.quiet::T)
   |none=>none)
  |some true=>(match Zi P pol C nm t H o with
   |some (.normal,t1,H1)=>(match Zb ops lim (nm+1) r t1 H1 with
    |some (t',H',T)=>some (t',H',Jp P lim nm t H H1 o::T)
    |none=>none)
   |_=>none)
end
def okT(bef:Array Nat):List (FP×Nat)->Bool
 |[]=>true
 |(a,i)::r=>r.all (fun(b,j)=>(bef.getD j 0).testBit i||a.indep b)&&okT bef r
def FP.loud:FP->Bool
 | .quiet=>false
 |_=>true
def loud(T:List FP):List (FP×Nat):=T.zipIdx.filter fun x=>x.1.loud
def K0(s:Nat)(t:List V)(H:Heap):Out:=
 match Qd H 0 s with
 |some (.loop st pend _ _ _)=>if st=1 then none else
   (match pend with
   |none=>some (.normal,t,hset H 0 s .dead)
   |some none=>some (.ret,t,hset H 0 s .dead)
   |some (some i)=>some (.exit i,t,hset H 0 s .dead))
 |_=>none
section
variable (P : Program) (pol : Pol) (C : Call) (L : Kz -> Kz) (fn : Nat)
mutual
def Ze:Code->Kz
 | .skip=>fun t H=>some (.normal,t,H)
 | .region _ ops draw=>fun t H=>if draw then(match Qd H 0 (Zc H+ops.size) with
    |some _=>none
    |none=>(match Zb P pol C ops (Zc H+ops.size) (Zc H) ops.toList t (hset H 0 (Zc H+ops.size) .dead) with
     |some (t',H',T)=>if okT (Region.before ops) (loud T) then some (.normal,t',H') else none
     |none=>none)) else Zp P pol C ops ops.toList t H
 | .seq a b=>fun t H=>(match Ze a t H with
   |some (.normal,t,H)=>Ze b t H
   |r=>r)
 | .cond c x y=>fun t H=>(match rho t c with
   | .bool b=>if b then Ze x t H else Ze y t H
   |_=>none)
 | .block id b=>fun t H=>(match Ze b t H with
   |some (.exit i,t,H)=>if i=id then some (.normal,t,H) else some (.exit i,t,H)
   |r=>r)
 | .loop b=>fun t H=>(match pol.loop fn (Zt b) with
   |some g=>(g t H).map fun x=>(.normal,x.1,x.2)
   |none=>L (fun t H=>match Z0 b with
    |none=>Ze b t H
    |some x=>(match Y8 (Qd H) (rho t x) with
     |some [c]=>Je b c.1 c.2 t H
     |_=>none)) t H)
 | .exit id=>fun t H=>some (.exit id,t,H)
 | .ret=>fun t H=>some (.ret,t,H)
 | .rangeFunc g _ a b=>fun t H=>(match rho t g with
   | .func (.func f) first cap=>(match Qd H 0 (Zc H) with
     |none=>(match C (some f) (first++[.yield 0 (Zc H)]++cap) (hset H 0 (Zc H) (.loop 0 none fn (Zl a b) t)) with
      |some (.ret _,H2)=>K0 (Zc H) t H2
      |_=>none)
     |some _=>none)
   |_=>none)
 |_=>fun _ _=>none
def Je:Code->V->Option (Nat×Nat×O)->Kz
 | .region _ ops _=>fun v w t H=>(match ops.toList with
   |o::r=>Zp P pol C ops r (Q1 t o.dst v) (wr H w)
   |[]=>none)
 | .seq a b=>fun v w t H=>(match Je a v w t H with
   |some (.normal,t,H)=>Ze b t H
   |r=>r)
 |_=>fun _ _ _ _=>none
end
def Bn(fo so:Nat)(e:Ex)(H:Heap):Option (Rt×Heap):=
 match Qd H fo so with
 |some (.loop _ _ fL rid t0)=>(match e with
  | .normal=>some (.ret (.bool true),hset H fo so (.loop 0 none fL rid t0))
  | .ret=>some (.ret (.bool false),hset H fo so (.loop 2 (some none) fL rid t0))
  | .exit i=>some (.ret (.bool false),hset H fo so (.loop 2 (some (some i)) fL rid t0))
  | .panic _=>none)
 |_=>none
def Qay(fo so:Nat)(args:List V)(H:Heap):Option (Rt×Heap):=
 match Qd H fo so with
 |some (.loop 0 _ fL rid t0)=>(match Qt P fL rid with
  |some (ps,a,b)=>if args.length=ps.size then
    (match Ze P pol C L fL a (Bt t0 (ps.toList.zip args)) H with
    |some (.normal,t1,H1)=>(match Qd H1 fo so with
     |some (.loop 0 pend fL' rid' t0')=>(match Ze P pol C L fL b t1 (hset H1 fo so (.loop 1 pend fL' rid' t0')) with
      |some (e,_,H2)=>Bn fo so e H2
      |none=>none)
     |_=>none)
    |_=>none) else none
  |none=>none)
 |_=>none
def Qib:Code->Option (Array Oper×List Oper×Option Nat×Operand)
 | .region _ ops false=>(match ops.toList.reverse with
   |o::r=>(match o.guard,o.op with
    |none,.defer c=>(match c.callee,c.args.toList with
     | .value x,[]=>some (ops,r.reverse,o.dst,x)
     |_,_=>none)
    |_,_=>none)
   |[]=>none)
 |_=>none
def Qki:Code->Bool
 | .seq a b=>(Qib a).isSome||Qki b
 |_=>false
def noD:Out->Option (Ex×List V×Heap×List V)
 |some (e,t,H)=>some (e,t,H,[])
 |none=>none
def Qd2(fn:Nat):Code->List V->Heap->Option (Ex×List V×Heap×List V)
 | .seq a b,t,H=>(match Qib a with
   |some (ops,l,d,x)=>(match Zp P pol C ops l t H with
    |some (.normal,t1,H1)=>(match rho t1 x with
     | .func f p q=>(match Qd2 fn b (Q1 t1 d nov) H1 with
       |some (ex,t2,H2,ds)=>some (ex,t2,H2,ds++[.func f p q])
       |none=>none)
     |_=>none)
    |_=>none)
   |none=>if(Q9 a).isEmpty then(match Ze P pol C L fn a t H with
     |some (.normal,t1,H1)=>Qd2 fn b t1 H1
     |some (e,t1,H1)=>some (e,t1,H1,[])
     |none=>none)
    else noD (Ze P pol C L fn (.seq a b) t H))
 |c,t,H=>noD (Ze P pol C L fn c t H)
def Qlx(g:FuncId):Bool:=match P.funcs[g]? with
 |some F=>(match F.body with
  |some c=>(Q9 c).isEmpty&&!Qki c
  |none=>false)
 |none=>false
def Qd7:List V->Heap->Option Heap
 |[],H=>some H
 | .func (.func g) first cap::ds,H=>if Qlx P g then(match C (some g) (first++cap) H with
   |some (.ret _,H')=>Qd7 ds H'
   |_=>none) else none
 |_,_=>none
def Qzu(f:FuncId)(F:Func)(c:Code)(args:List V)(H:Heap):Option (Rt×Heap):=
 match Qd2 P pol C L f c (args++List.replicate (F.ntmps-args.length) .bad) H with
 |some (.normal,t,H',ds)|some (.ret,t,H',ds)=>(match Qd7 P C ds H' with
  |some H2=>(match Qcb P F t H2 with
   |some v=>some (.ret v,H2)
   |none=>none)
  |none=>none)
 |_=>none
def Qbk(f:FuncId)(args:List V)(H:Heap):Option (Rt×Heap):=
 match P.funcs[f]? with
 |some F=>(match F.body with
  |some c=>if Qki c then Qzu P pol C L f F c args H else(match Ze P pol C L f c (args++List.replicate (F.ntmps-args.length) .bad) H with
   |some (.normal,t,H')|some (.ret,t,H')=>(match Qcb P F t H' with
    |some v=>some (.ret v,H')
    |none=>none)
   |some (.panic v,_,H')=>some (.pan v,H')
   |_=>none)
  |none=>none)
 |none=>none
def Qdt(f:Option FuncId)(args:List V)(H:Heap):Option (Rt×Heap):=
 match f with
 |some f=>Qbk P pol C L f args H
 |none=>(match args with
  | .yield fo so::rest=>Qay P pol C L fo so rest H
  |_=>none)
end
def Yh(P:Program)(pol:Pol):Nat->Call
 |0=>fun _ _ _=>none
 |n+1=>Qdt P pol (Yh P pol n) (fun b=>Zz b n)
end Go.AM.BM
end
section
namespace Go.AM.BM
def GLe(g g' :Get):Prop:=∀f s x,g f s=some x->g' f s=some x
section
variable {P : Program} {mt : Nat -> Bool} {fr : Nat} {g g' : Get}
theorem Qaa(hg:GLe g g'){esz:Nat}{x:V}{r:List V×Nat}(h:Qk g esz x=some r):Qk g' esz x=some r:=by
 unfold Qk at h⊢;cases x<;>try exact h
 rename_i f s o0 len cap e0;cases hq:g f s with
 |none=>exfalso;simp only[hq] at h;(repeat' split at h)<;>cases h
 |some o=>simp only[hg _ _ _ hq];simp only[hq] at h;exact h
theorem Qyn{dst:Option Nat}{o:O}{v:Nat->V}(hd:∀d,dst=some d->g' fr d=g fr d):new g' fr dst o v=new g fr dst o v:=Y0 fun d e=>hd d e
theorem Qzm(hg:GLe g g'){t:TypeId}{x:V}{lo hi mx:Option V}{r:V}(h:Zn P g t x lo hi mx=some r):Zn P g' t x lo hi mx=some r:=by
 unfold Zn at h⊢;cases x<;>try exact h
 rename_i f s o0;cases hq:g f s with
 |none=>exfalso;simp only[hq] at h;(repeat' split at h)<;>first|(cases h;done)|(simp at h;done)
 |some o=>simp only[hg _ _ _ hq];simp only[hq] at h;exact h
theorem Qv0(hg:GLe g g'){t:TypeId}{m k:V}{ok:Bool}{r:V}(h:Qcr P g t m k ok=some r):Qcr P g' t m k ok=some r:=by
 unfold Qcr at h⊢;cases m<;>try exact h
 rename_i f s;cases hq:g f s with
 |none=>exfalso;simp only[hq] at h;(repeat' split at h)<;>cases h
 |some o=>simp only[hg _ _ _ hq];simp only[hq] at h;exact h
theorem Qky(hg:GLe g g'){t:TypeId}{m k x:V}{r:Zo}(h:updateV P g t m k x=some r):updateV P g' t m k x=some r:=by
 unfold updateV at h⊢;cases m<;>try exact h
 rename_i f s;cases hq:g f s with
 |none=>exfalso;simp only[hq] at h;(repeat' split at h)<;>cases h
 |some o=>simp only[hg _ _ _ hq];simp only[hq] at h;exact h
theorem Qhf(hg:GLe g g'){t2:TypeId}{n b:Nat}{z:List V}{x:V}{r:List V×Nat}(h:Ji P g t2 n b z x=some r):Ji P g' t2 n b z x=some r:=by
 unfold Ji at h⊢;split at h<;>try exact h
 exact Qaa hg h
theorem Q0v{dst:Option Nat}{cs chk:List V}{n esz:Nat}(hd:∀d,dst=some d->g' fr d=g fr d):grown mt g' fr dst cs chk n esz=grown mt g fr dst cs chk n esz:=Qd4 fun d e=>hd d e
theorem Qrx(hg:GLe g g'){dst:Option Nat}(hd:∀d,dst=some d->g' fr d=g fr d){n b m:Nat}{s:V}{nw:List V}{st:Zo}(h:appendTo mt fr g dst n b s nw m=some st):appendTo mt fr g' dst n b s nw m=some st:=by
 unfold appendTo at h⊢;have e:∀cs chk n esz,grown mt g' fr dst cs chk n esz=grown mt g fr dst cs chk n esz:=fun cs chk n esz=>Q0v hd;simp only[e];cases s<;>try exact h
 case iS cs len full=>cases full<;>exact h
 case gS f s cs len e0=>
  cases hq:g f s with
  |none=>exfalso;simp only[hq] at h;(repeat' split at h)<;>cases h
  |some o=>simp only[hg _ _ _ hq];simp only[hq] at h;exact h
 rename_i f s o0 len cap e0;cases hq:g f s with
 |none=>exfalso;simp only[hq] at h;(repeat' split at h)<;>cases h
 |some o=>simp only[hg _ _ _ hq];simp only[hq] at h;exact h
theorem Qwf(hg:GLe g g'){dst:Option Nat}(hd:∀d,dst=some d->g' fr d=g fr d){t t2:TypeId}{s x:V}{st:Zo}(h:Qr P mt fr g dst t t2 s x=some st):Qr P mt fr g' dst t t2 s x=some st:=by
 unfold Qr at h⊢;split at h<;>try (cases h;done)
 split at h<;>try (cases h;done)
 split at h<;>try (cases h;done)
 rename_i h5;rw[if_pos h5];split at h
 . cases h
 . rename_i he;rw[Qhf hg he];exact h
 . rename_i he;rw[Qhf hg he];exact Qrx hg hd h
theorem Q47(hg:GLe g g'){t:TypeId}{x:V}{r:V}(h:Ku P g t x=some r):Ku P g' t x=some r:=by
 unfold Ku at h⊢;cases hu:P.underlying t with
 |none=>rw[hu] at h;cases h
 |some d=>
  rw[hu] at h;cases d<;>cases x<;>first|exact h|(cases h;done)|skip
  rename_i f s;cases hq:g f s with
  |none=>exfalso;simp only[hq] at h;cases h
  |some o=>simp only[hg _ _ _ hq];simp only[hq] at h;exact h
theorem Qux(hg:GLe g g'){n:Nat}{x:V}{r:List V×Nat}(h:Bh g n x=some r):Bh g' n x=some r:=by
 unfold Bh at h⊢;split at h<;>try exact h
 exact Qaa hg h
theorem Qw2(hg:GLe g g'){n m:Nat}{d:V}{cs:List V}{r:Zo}(h:Qa6 g n d cs m=some r):Qa6 g' n d cs m=some r:=by
 unfold Qa6 at h⊢;cases d<;>try exact h
 rename_i f s o0 len cap e0;cases hq:g f s with
 |none=>exfalso;simp only[hq] at h;(repeat' split at h)<;>cases h
 |some o=>simp only[hg _ _ _ hq];simp only[hq] at h;exact h
theorem Q11(hg:GLe g g'){t:TypeId}{d s:V}{r:Zo}(h:Qa9 P g t d s=some r):Qa9 P g' t d s=some r:=by
 unfold Qa9 at h⊢;split at h<;>try (cases h;done)
 split at h<;>try (cases h;done)
 split at h<;>try (cases h;done)
 rename_i he;rw[Qux hg he];exact Qw2 hg h
theorem Qvc(hg:GLe g g'){t:TypeId}{m k:V}{r:Zo}(h:Qbw P g t m k=some r):Qbw P g' t m k=some r:=by
 unfold Qbw at h⊢;cases m<;>try exact h
 rename_i f s;cases hq:g f s with
 |none=>exfalso;simp only[hq] at h;(repeat' split at h)<;>cases h
 |some o=>simp only[hg _ _ _ hq];simp only[hq] at h;exact h
theorem Q6u(hg:GLe g g'){t:TypeId}{d:V}{r:Zo}(h:AM.clearV P g t d=some r):AM.clearV P g' t d=some r:=by
 unfold AM.clearV at h⊢;cases d<;>try exact h
 rename_i f s o len c e;by_cases h0:len=0
 . simp only[h0,if_true] at h⊢;exact h
 simp only[h0,if_false] at h⊢;cases hq:g f s with
 |none=>exfalso;simp only[hq] at h;(repeat' split at h)<;>cases h
 |some o=>simp only[hg _ _ _ hq];simp only[hq] at h;exact h
theorem Qr7(hg:GLe g g'){s d:TypeId}{x:V}{r:Zo}(h:convertV P g s d x=some r):convertV P g' s d x=some r:=by
 unfold convertV at h⊢;split at h<;>try exact h
 . split at h<;>try (cases h;done)
   split at h<;>try (cases h;done)
   rename_i he;rw[Qaa hg he];exact h
 . split at h<;>try (cases h;done)
   rename_i h1;rw[if_pos h1];split at h<;>try (cases h;done)
   rename_i h2 h3;simp only[h2,hg _ _ _ h3];exact h
theorem Qrt(hg:GLe g g'){dst:Option Nat}(hd:∀d,dst=some d->g' fr d=g fr d){b:Builtin}{ts:Array TypeId}{args:List V}{r:Zo}(h:builtinV P mt fr g dst b ts args=some r):builtinV P mt fr g' dst b ts args=some r:=by
 unfold builtinV at h⊢;split at h<;>try exact h
 . split at h<;>try (cases h;done)
   exact Qwf hg hd h
 . split at h<;>try (cases h;done)
   obtain⟨v,h2,h3⟩:=Zpg.1 h;rw[Q47 hg h2,<-h3];rfl
 . split at h<;>try (cases h;done)
   exact Q11 hg h
 . split at h<;>try (cases h;done)
   exact Qvc hg h
 . split at h<;>try (cases h;done)
   exact Q6u hg h
theorem Qxd(hg:GLe g g'){dst:Option Nat}(hd:∀d,dst=some d->g' fr d=g fr d){t:TypeId}{x:V}{r:Zo}(h:rangeV P g fr dst t x=some r):rangeV P g' fr dst t x=some r:=by
 unfold rangeV at h⊢;have nw:∀(ob:O) (v:Nat->V),new g' fr dst ob v=new g fr dst ob v:=fun ob v=>Qyn hd;simp only[nw];cases hu:P.underlying t with
 |none=>rw[hu] at h;cases h
 |some d=>
  rw[hu] at h;cases d<;>cases x<;>first|exact h|(cases h;done)|skip
  rename_i f s;cases hq:g f s with
  |none=>exfalso;simp only[hq] at h;cases h
  |some o=>simp only[hg _ _ _ hq];simp only[hq] at h;exact h
theorem Qx5(hg:GLe g g'){x:V}{r:V}(h:Qbu g x=some r):Qbu g' x=some r:=by
 unfold Qbu at h⊢;split at h<;>try (cases h;done)
 split at h<;>try (cases h;done)
 rename_i h1;rw[hg _ _ _ h1];simp only;split at h<;>try (cases h;done)
 rename_i h2 h3;simp only[hg _ _ _ h2,h3];exact h
theorem Qoo(hg:GLe g g'){t:TypeId}{m k:V}{r:Zo}(h:mapEntryV P g t m k=some r):mapEntryV P g' t m k=some r:=by
 unfold mapEntryV at h⊢;cases m<;>try exact h
 rename_i f s;cases hq:g f s with
 |none=>exfalso;simp only[hq] at h;(repeat' split at h)<;>cases h
 |some o=>simp only[hg _ _ _ hq];simp only[hq] at h;exact h
theorem Qmg(hg:GLe g g'){m s x:V}{r:Zo}(h:entryStoreV g m s x=some r):entryStoreV g' m s x=some r:=by
 unfold entryStoreV at h⊢;split at h<;>try (cases h;done)
 split at h<;>try (cases h;done)
 rename_i h1;rw[hg _ _ _ h1];exact h
theorem Qqm{α β:Type}{a b:Option α}{f:α->β}{r:β}(hab:∀x,a=some x->b=some x)(h:a.map f=some r):b.map f=some r:=by obtain⟨v,h2,h3⟩:=Zpg.1 h;rw[hab _ h2,<-h3];rfl
theorem Q1s(hg:GLe g g'){x:V}{r:Zo}(h:nextS g x=some r):nextS g' x=some r:=by
 unfold nextS at h⊢;split at h
 case h_2=>cases h
 split at h
 case h_2=>cases h
 rename_i hi;rw[hg _ _ _ hi];exact h
theorem Qam(hg:GLe g g'){ρ:Operand->V}{o:Oper}(hd:∀d,o.dst=some d->g' fr d=g fr d){st:Zo}(h:Zv P mt fr g ρ o=some st):Zv P mt fr g' ρ o=some st:=by
 have nw:∀(ob:O) (v:Nat->V),new g' fr o.dst ob v=new g fr o.dst ob v:=fun ob v=>Qyn hd;unfold Zv at h⊢;cases ho:o.op<;>rw[ho] at h<;>simp only[nw] at h⊢<;>try exact h
 case load=>
  split at h<;>try exact h
  split at h<;>try (cases h;done)
  rename_i he;rw[hg _ _ _ he];exact h
 case store=>
  split at h<;>try (cases h;done)
  split at h<;>try (cases h;done)
  rename_i he;rw[hg _ _ _ he];exact h
 case convert=>
  split at h
  . exact h
  . exact Qr7 hg h
 case slice=>exact Qqm (fun x hx=>Qzm hg hx) h
 case lookup=>exact Qqm (fun x hx=>Qv0 hg hx) h
 case mapUpdate=>exact Qky hg h
 case insert=>exact Qky hg h
 case call c=>
  cases hc:c.callee<;>rw[hc] at h<;>simp only at h⊢<;>try exact h
  exact Qrt hg hd h
 case range=>exact Qxd hg hd h
 case entry=>exact Qqm (fun x hx=>Qx5 hg hx) h
 case next=>
  split at h
  . rename_i hb;simp only[hb,if_true];exact Q1s hg h
  . cases h
 case mapEntry=>exact Qoo hg h
 case entryStore=>exact Qmg hg h
def Tgt(g:Get)(fr:Nat)(dst:Option Nat)(st:Zo):Prop:=∀v f s o,st= .val v (some (f,s,o))->(∃x,g f s=some x)\/(f=fr/\dst=some s)
theorem Tgt.none{dst:Option Nat}{v:V}:Tgt g fr dst (.val v none):=fun _ _ _ _ h=>by cases h
theorem Tgt.of{dst:Option Nat}{v:V}{f s:Nat}{o x:O}(h:g f s=some x):Tgt g fr dst (.val v (some (f,s,o))):=fun _ _ _ _ e=>by cases e;exact .inl ⟨x,h⟩
theorem Qic{dst:Option Nat}{o:O}{v:Nat->V}{st:Zo}(h:new g fr dst o v=some st):Tgt g fr dst st:=by
 unfold new at h
 (repeat' split at h)<;>cases h
 exact fun _ _ _ _ e=>by cases e;exact .inr ⟨rfl,rfl⟩
theorem Q5s{dst:Option Nat}{cs chk:List V}{n esz:Nat}{st:Zo}(h:grown mt g fr dst cs chk n esz=some st):Tgt g fr dst st:=by
 unfold grown at h
 (repeat' split at h)<;>first|(cases h;done)|exact Qic h
theorem Qnf{dst:Option Nat}{t:TypeId}{m k x:V}{st:Zo}(h:updateV P g t m k x=some st):Tgt g fr dst st:=by
 unfold updateV at h
 (repeat' split at h)<;>cases h<;>exact Tgt.of (by assumption)
theorem Qus{dst:Option Nat}{n b m:Nat}{s:V}{nw:List V}{st:Zo}(h:appendTo mt fr g dst n b s nw m=some st):Tgt g fr dst st:=by
 unfold appendTo at h
 (repeat' split at h)<;>first|(cases h;done)|exact Q5s h|(cases h;exact Tgt.of (by assumption))
theorem Qxk{dst:Option Nat}{t t2:TypeId}{s x:V}{st:Zo}(h:Qr P mt fr g dst t t2 s x=some st):Tgt g fr dst st:=by
 unfold Qr at h
 (repeat' split at h)<;>first|(cases h;done)|exact Qus h|(cases h;exact Tgt.none)
theorem Q5f{dst:Option Nat}{t:TypeId}{d s:V}{st:Zo}(h:Qa9 P g t d s=some st):Tgt g fr dst st:=by
 unfold Qa9 Qa6 at h
 (repeat' split at h)<;>first|(cases h;done)|(cases h;exact Tgt.none)|(cases h;exact Tgt.of (by assumption))
theorem Qyx{dst:Option Nat}{t:TypeId}{m k:V}{st:Zo}(h:Qbw P g t m k=some st):Tgt g fr dst st:=by
 unfold Qbw at h
 (repeat' split at h)<;>first|(cases h;done)|(cases h;exact Tgt.none)|(cases h;exact Tgt.of (by assumption))
theorem Za6{dst:Option Nat}{t:TypeId}{d:V}{st:Zo}(h:AM.clearV P g t d=some st):Tgt g fr dst st:=by
 unfold AM.clearV at h
 (repeat' split at h)<;>first|(cases h;done)|(cases h;exact Tgt.none)|(cases h;exact Tgt.of (by assumption))
theorem Q4z{dst:Option Nat}{x:V}{st:Zo}(h:nextS g x=some st):Tgt g fr dst st:=by
 unfold nextS at h
 (repeat' split at h)<;>first|(cases h;done)|(cases h;exact Tgt.of (by assumption))|(cases h;exact Tgt.none)
theorem Qvh{dst:Option Nat}{s d:TypeId}{x:V}{st:Zo}(h:convertV P g s d x=some st):Tgt g fr dst st:=by
 unfold convertV at h
 (repeat' split at h)<;>first|(cases h;done)|(cases h;exact Tgt.none)|(cases h;exact Tgt.of (by assumption))|(obtain⟨_,_,rfl⟩:=Zpg.1 h;exact Tgt.none)
theorem Qwz{dst:Option Nat}{x:Option V}{st:Zo}(h:(x.map fun v=>Zo.val v none)=some st):Tgt g fr dst st:=by obtain⟨_,_,rfl⟩:=Zpg.1 h;exact Tgt.none
theorem Qwl{dst:Option Nat}{b:Builtin}{ts:Array TypeId}{args:List V}{st:Zo}(h:builtinV P mt fr g dst b ts args=some st):Tgt g fr dst st:=by
 unfold builtinV at h
 (repeat' split at h)<;>first|(cases h;done)|exact Qxk h|exact Q5f h|exact Qyx h|exact Za6 h|exact Qwz h
theorem Q1q{dst:Option Nat}{t:TypeId}{x:V}{st:Zo}(h:rangeV P g fr dst t x=some st):Tgt g fr dst st:=by
 unfold rangeV at h
 (repeat' split at h)<;>first|(cases h;done)|exact Qic h
theorem Qr2{dst:Option Nat}{t:TypeId}{m k:V}{st:Zo}(h:mapEntryV P g t m k=some st):Tgt g fr dst st:=by
 unfold mapEntryV at h
 (repeat' split at h)<;>first|(cases h;done)|(cases h;exact Tgt.of (by assumption))
theorem Qn3{dst:Option Nat}{m s x:V}{st:Zo}(h:entryStoreV g m s x=some st):Tgt g fr dst st:=by
 unfold entryStoreV at h;split at h<;>try (cases h;done)
 split at h<;>try (cases h;done)
 obtain⟨_,_,rfl⟩:=Zpg.1 h;exact Tgt.of (by assumption)
theorem Q8e{ρ:Operand->V}{o:Oper}{st:Zo}(h:Zv P mt fr g ρ o=some st):Tgt g fr o.dst st:=by
 unfold Zv at h;cases ho:o.op<;>rw[ho] at h<;>simp only at h
 case alloc=>obtain⟨_,_,h⟩:=Option.bind_eq_some_iff.1 h;exact Qic h
 case box=>
  obtain⟨_,_,h⟩:=Option.bind_eq_some_iff.1 h;split at h
  case h_2=>cases h
  split at h
  . exact Qic h
  . split at h
    . cases h;exact Tgt.none
    . cases h
 case convert=>
  split at h
  . exact Qic h
  . exact Qvh h
 case mapUpdate=>exact Qnf h
 case insert=>exact Qnf h
 case range=>exact Q1q h
 case next=>
  split at h
  . exact Q4z h
  . cases h
 case mapEntry=>exact Qr2 h
 case entryStore=>exact Qn3 h
 case call c=>
  split at h
  . exact Qwl h
  . split at h<;>cases h<;>exact fun _ _ _ _ e=>by cases e
  . cases h
 all_goals ((repeat' split at h)<;>first|(cases h;done)|exact Qwz h|exact Qic h|(cases h;exact Tgt.none)|(cases h;exact Tgt.of (by assumption))|(cases h;exact fun _ _ _ _ e=>by cases e))
theorem Q1a(hg:GLe g g'){nm:Nat}(hd:g' 0 nm=g 0 nm){t t2:TypeId}{s x:V}{r:V×List (Nat×Nat×O)}(h:Qhw P g nm t t2 s x=some r):Qhw P g' nm t t2 s x=some r:=by
 unfold Qhw at h⊢;split at h<;>try (cases h;done)
 split at h<;>try (cases h;done)
 split at h<;>try (cases h;done)
 rename_i h1;rw[if_pos h1];split at h<;>try (cases h;done)
 rename_i h2 h3 h4;rw[hg _ _ _ h2,hd,h3,Qhf hg h4];exact h
theorem Q6q(hg:GLe g g'){t:TypeId}{x l h:V}{r:V×List (Nat×Nat×O)}(e:Qrs P g t x l h=some r):Qrs P g' t x l h=some r:=by
 unfold Qrs at e⊢;split at e<;>try (cases e;done)
 split at e<;>try (cases e;done)
 rename_i h1 h2;rw[h1,hg _ _ _ h2];exact e
theorem Q59{t:TypeId}{x l h v:V}{ws:List (Nat×Nat×O)}(e:Qrs P g t x l h=some (v,ws)):ws=[]:=by
 unfold Qrs at e
 (repeat' split at e)<;>cases e
 rfl
theorem Qnq(hg:GLe g g'){nm:Nat}(hd:g' 0 nm=g 0 nm){ρ:Operand->V}{o:Op}{r:V×List (Nat×Nat×O)}(h:J6 P g ρ nm o=some r):J6 P g' ρ nm o=some r:=by
 unfold J6 at h⊢;split at h<;>try (cases h;done)
 . exact Q6q hg h
 split at h<;>try (cases h;done)
 . exact Q1a hg hd h
theorem Qz4{nm:Nat}{ρ:Operand->V}{o:Op}{v:V}{ws:List (Nat×Nat×O)}(h:J6 P g ρ nm o=some (v,ws)):∀x∈ws,(∃y,g x.1 x.2.1=some y)\/(x.1=0/\x.2.1=nm):=by
 unfold J6 at h;split at h<;>try (cases h;done)
 . rw[Q59 h];intro x hx;cases hx
 split at h<;>try (cases h;done)
 . unfold Qhw at h
   (repeat' split at h)<;>cases h
   rename_i h2 h3 h4 _;intro x hx;simp only[Zph,List.not_mem_nil,or_false] at hx;rcases hx with rfl|rfl
   . exact .inl ⟨_,h2⟩
   . exact .inr ⟨rfl,rfl⟩
end
end Go.AM.BM
end
section
namespace Go.AM.BM
theorem Xc(H:Heap){f s f' s' :Nat}(o o' :O)(h:¬(f=f' /\s=s')):hset (hset H f s o) f' s' o' =hset (hset H f' s' o') f s o:=by
 unfold hset;apply Zpi;intro i;simp only[Zn0];by_cases e1:f=i
 . by_cases e2:f' =i
   . have hs:s≠s' :=fun e=>h ⟨e1.trans e2.symm,e⟩;simp only[e1,e2,if_true];cases H[i]? with
     |none=>rfl
     |some x=>simp[Ql1 s s' o o' hs x]
   . simp only[e1,e2,if_true,if_false];cases H[i]?<;>rfl
 . by_cases e2:f' =i
   . simp only[e1,e2,if_true,if_false];cases H[i]?<;>rfl
   . simp only[e1,e2,if_false]
theorem Qax(H:Heap){f s f' s' :Nat}(o:O)(h:¬(f' =f/\s' =s)):Qd (hset H f s o) f' s' =Qd H f' s' :=by
 unfold Qd hset;rw[Zn0];by_cases e:f=f'
 . subst e;cases H[f]? with
   |none=>rfl
   |some x=>simp[Qcy];exact fun h' =>absurd ⟨rfl,h'⟩ h
 . simp only[e,if_false];cases H[f']?<;>rfl
theorem Qfx(s:Nat)(o:O):∀fr:Frame,Qht (Kq fr s o)=max (Qht fr) (s+1)
 |[]=>by simp[Kq,Qht]
 |(k,p)::r=>by
  simp only[Kq];split
  . rename_i h;subst h;simp only[Qht];omega
  . split
    . simp only[Qht];omega
    . simp only[Qht,Qfx s o r];omega
theorem Qsy(H:Heap)(f s:Nat)(o:O):Zc H<=Zc (hset H f s o):=by
 cases H with
 |nil=>simp[hset]
 |cons F G=>
  cases f with
  |zero=>simp only[hset,List.modify_cons,if_true,Zc,Qfx];omega
  |succ f=>simp[hset,List.modify_cons,Zc]
theorem Qw5(H:Heap){s:Nat}(o:O)(h:s<Zc H):Zc (hset H 0 s o)=Zc H:=by
 cases H with
 |nil=>cases h
 |cons F G=>
  simp only[Zc] at h;simp only[hset,List.modify_cons,if_true,Zc,Qfx];omega
def Yw(s:Nat)(H:Heap):Prop:=s<Zc H/\Qd H 0 s=none
theorem Yw.next{s:Nat}{H:Heap}(h:Yw s H)(x:O):Zc (hset H 0 s x)=Zc H:=Qw5 H x h.1
theorem Yw.hset{s:Nat}{H:Heap}(h:Yw s H){f s' :Nat}{o:O}(hn:¬(f=0/\s' =s)):Yw s (hset H f s' o):=
 ⟨Zn9 h.1 (Qsy _ _ _ _),by rw[Qax];exact h.2;exact fun e=>hn ⟨e.1.symm,e.2.symm⟩⟩
theorem Yw.get{s:Nat}{H:Heap}(h:Yw s H)(x:O){f s' :Nat}(hn:¬(f=0/\s' =s)):Qd (AM.hset H 0 s x) f s' =Qd H f s' :=Qax _ _ hn
theorem Yw.gle{s:Nat}{H:Heap}(h:Yw s H)(x:O):GLe (Qd H) (Qd (AM.hset H 0 s x)):=by intro f s' y hy;rw[h.get x];exact hy;rintro⟨rfl,rfl⟩;rw[h.2] at hy;cases hy
theorem Qcc{s:Nat}:∀{ws:List (Nat×Nat×O)} {H:Heap} (_:Yw s H) (x:O) (_:∀y∈ws,¬(y.1=0/\y.2.1=s)),wrL (hset H 0 s x) ws=hset (wrL H ws) 0 s x/\Yw s (wrL H ws)
 |[],H,h,x,_=>⟨rfl,h⟩
 |(f,s',o)::r,H,h,x,hn=>by
  have h0:¬(f=0/\s' =s):=hn _ Zpj;simp only[wrL];rw[Xc H x o (fun e=>h0 ⟨e.1.symm,e.2.symm⟩)];exact Qcc (h.hset h0) x fun y hy=>hn y (Zpk _ hy)
theorem Qk1(H:Heap)(w:Option (Nat×Nat×O)):wr H w=wrL H w.toList:=by
 cases w with
 |none=>rfl
 |some y=>obtain⟨f,s,o⟩:=y;rfl
section
variable {P : Program} {pol : Pol} {C : Call} {L : Kz -> Kz} {fn : Nat}
def Qxv(b:Kz):Prop:=∀t H ex t' H' s x,b t H=some (ex,t',H')->Yw s H->b t (hset H 0 s x)=some (ex,t',hset H' 0 s x)/\Yw s H'
def Xt(C:Call):Prop:=∀f args H r H' s x,C f args H=some (r,H')->Yw s H->C f args (hset H 0 s x)=some (r,hset H' 0 s x)/\Yw s H'
def Q7q(L:Kz->Kz):Prop:=∀b,Qxv b->Qxv (L b)
structure Qkg(pol:Pol):Prop where
 prim:∀f g,pol.prim f=some g->∀nm G G' args v w,GLe G G' ->G' 0 nm=G 0 nm->g 0 (some nm) G args=some (v,w)->g 0 (some nm) G' args=some (v,w)/\∀x∈w.toList,(∃y,G x.1 x.2.1=some y)\/(x.1=0/\x.2.1=nm)
 loop:∀fn r g,pol.loop fn r=some g->∀t H t' H' s x,g t H=some (t',H')->Yw s H->g t (hset H 0 s x)=some (t',hset H' 0 s x)/\Yw s H'
 prims:∀f g,pol.prims f=some g->∀nm G G' args v ws,GLe G G' ->G' 0 nm=G 0 nm->g nm G args=some (v,ws)->g nm G' args=some (v,ws)/\∀x∈ws,(∃y,G x.1 x.2.1=some y)\/(x.1=0/\x.2.1=nm)
theorem Qmo{H:Heap}{s:Nat}{x:O}{v v' :V}{w:Option (Nat×Nat×O)}(sp:Yw s H)(h:Qiq (Qd H) v=some (v',w)):Qiq (Qd (hset H 0 s x)) v=some (v',w)/\∀y∈w.toList,¬(y.1=0/\y.2.1=s):=by
 unfold Qiq at h⊢;split at h
 . rename_i f s' o len cap esz;split at h
   case h_2=>cases h
   rename_i xs hg;have hne:¬(f=0/\s' =s):=by rintro⟨rfl,rfl⟩;rw[sp.2] at hg;cases hg
   simp only[sp.get x hne,hg];split at h
   case isFalse=>cases h
   rename_i hc;cases h;rw[if_pos hc];refine⟨rfl,fun y hy=>?_⟩;simp only[Option.toList,Zoh] at hy;subst hy;exact hne
 . cases h;exact⟨rfl,fun y hy=>by cases hy⟩
theorem Q4n{H:Heap}{s:Nat}{x:O}{v v' :V}{w:Option (Nat×Nat×O)}(sp:Yw s H)(h:Qzo (Qd H) v=some (v',w)):Qzo (Qd (hset H 0 s x)) v=some (v',w)/\∀y∈w.toList,¬(y.1=0/\y.2.1=s):=by
 unfold Qzo at h⊢;split at h
 . rename_i y r;cases hy:Qiq (Qd H) y with
   |none=>rw[hy] at h;cases h
   |some z=>
    rw[hy] at h;cases h;obtain⟨g1,g2⟩:=Qmo (x:=x) sp (v' :=z.1) (w:=z.2) hy;exact⟨by simp only[g1,Zn2],g2⟩
 . exact Qmo sp h
theorem Q6w{b:Bool}{X Y:Option (Rt×Heap)}{s:Nat}{x:O}{H' :Heap}{r:Rt}(hX:∀r H,X=some (r,H)->Y=some (r,hset H 0 s x)/\Yw s H)(h:Qy1 b X=some (r,H')):Qy1 b Y=some (r,hset H' 0 s x)/\Yw s H' :=by
 cases b with
 |false=>exact hX r H' h
 |true=>
  simp only[Qy1] at h⊢;split at h
  . rename_i v H1;obtain⟨rfl,sp⟩:=hX _ _ rfl;split at h
    case h_2=>cases h
    rename_i v' w hv;cases h;obtain⟨g1,g2⟩:=Q4n (x:=x) sp hv;simp only[g1,Zrd,Prod.mk.injEq,true_and];rw[Qk1,Qk1];obtain⟨q1,q2⟩:=Qcc sp x (ws:=w.toList) g2;exact⟨q1,q2⟩
  . rename_i hno;obtain⟨rfl,sp⟩:=hX r H' h;cases r with
    |ret v=>exact absurd h (hno v H')
    |pan v=>exact⟨rfl,sp⟩
theorem Q0x{H:Heap}{s:Nat}{x:O}{i:Option Nat}{args as:List V}{w:Option (Nat×Nat×O)}(sp:Yw s H)(h:Qk2 (Qd H) i args=some (as,w)):Qk2 (Qd (hset H 0 s x)) i args=some (as,w)/\∀y∈w.toList,¬(y.1=0/\y.2.1=s):=by
 unfold Qk2 at h⊢;split at h
 . cases h;exact⟨rfl,fun y hy=>by cases hy⟩
 . split at h
   case h_2=>cases h
   rename_i v hv;split at h
   case h_2=>cases h
   rename_i y w' hy;cases h;obtain⟨g1,g2⟩:=Qmo (x:=x) sp hy;simp only[hv,g1];exact⟨trivial,g2⟩
theorem Qd9(tm:Qkg pol)(hC:Xt C){f:FuncId}{args:List V}{H H' :Heap}{r:Rt}{s:Nat}{x:O}(h:callOp pol C (Zc H) f args H=some (r,H'))(sp:Yw s H):
 callOp pol C (Zc H) f args (hset H 0 s x)=some (r,hset H' 0 s x)/\Yw s H' :=by
 unfold callOp at h⊢;cases hps:pol.prims f with
 |some g=>
  rw[hps] at h;simp only at h⊢;obtain⟨⟨v,ws⟩,h1,h2⟩:=Zpg.1 h;have hne:¬(0=0/\Zc H=s):=fun e=>by have:=sp.1;omega
  obtain⟨g1,g2⟩:=tm.prims f g hps (Zc H) _ _ args v ws (sp.gle x) (sp.get x hne) h1;rw[g1];simp only[Zn2,Zrd,Prod.mk.injEq] at h2⊢;obtain⟨h3,h4⟩:=h2;obtain⟨q1,q2⟩:=Qcc sp x (ws:=ws) (fun y hy=>by
   rcases g2 y hy with⟨z,hz⟩|⟨e1,e2⟩
   . rintro⟨e1,e2⟩;rw[e1,e2,sp.2] at hz;cases hz
   . rintro⟨_,e3⟩;exact hne ⟨rfl,by omega⟩)
  rw[q1,<-h4];exact⟨⟨h3,rfl⟩,q2⟩
 |none=>
 rw[hps] at h;simp only at h⊢;cases hp:pol.prim f with
 |none=>
  rw[hp] at h;simp only at h⊢;split at h
  case h_2=>cases h
  rename_i as w has;obtain⟨g1,g2⟩:=Q0x (x:=x) sp has;rw[g1];rw[Qk1] at h;simp only;obtain⟨q1,q2⟩:=Qcc sp x (ws:=w.toList) g2;rw[Qk1,q1];exact Q6w (fun r H1 hX=>hC _ _ _ _ _ s x hX q2) h
 |some g=>
  rw[hp] at h;simp only at h⊢;obtain⟨⟨v,w⟩,h1,h2⟩:=Zpg.1 h;have hne:¬(0=0/\Zc H=s):=fun e=>by have:=sp.1;omega
  obtain⟨g1,g2⟩:=tm.prim f g hp (Zc H) _ _ args v w (sp.gle x) (sp.get x hne) h1;rw[g1];simp only[Zn2,Zrd,Prod.mk.injEq] at h2⊢;obtain⟨h3,h4⟩:=h2;rw[Qk1] at h4⊢;obtain⟨q1,q2⟩:=Qcc sp x (ws:=w.toList) (fun y hy=>by
   rcases g2 y hy with⟨z,hz⟩|⟨e1,e2⟩
   . rintro⟨e1,e2⟩;rw[e1,e2,sp.2] at hz;cases hz
   . rintro⟨_,e3⟩;exact hne ⟨rfl,by omega⟩)
  rw[q1,<-h4];exact⟨⟨h3,rfl⟩,q2⟩
theorem Qgu{mt:Nat->Bool}{fr nm:Nat}{g:Get}{ρ:Operand->V}{o:Oper}{r:V×List (Nat×Nat×O)}(h:J6 P g ρ nm o.op=some r):Zv P mt fr g ρ o=none:=by
 unfold J6 at h;split at h<;>try (cases h;done)
 . rename_i t x lo hi hop;unfold Qrs at h;split at h<;>try (cases h;done)
   rename_i _ _ _ _ el f s o' len e' kl il kh ih hu hx hl hh;split at h<;>try (cases h;done)
   rename_i n xs hn hg;split at h<;>try (cases h;done)
   rename_i hc;obtain⟨rfl,h1,h2,h3,h4,h5⟩:=hc;have hcut:Xh len len (some il) (some ih) none=none:=by unfold Xh;rw[if_neg];rintro⟨_,_,_,k,_⟩;simp at k;omega
   simp only[Zv,hop,Zn,Zn2,Zpl,hx,hl,hh,Jt,hu,hn,if_true,Qjg,hcut]
 rename_i c hop;simp only[Zv,hop];split at h<;>try (cases h;done)
 . rename_i s x t t2 ts hc ha ht;simp only[hc,ha,Zo4,Zpm];have h0:c.argTypes[0]?=some t:=by rw[<-Zot,ht];rfl
   have h1:c.argTypes[1]?=some t2:=by rw[<-Zot,ht];rfl
   simp only[builtinV,h0,h1];unfold Qhw at h;split at h<;>try (cases h;done)
   rename_i e f sl len e' hu hs;split at h<;>try (cases h;done)
   rename_i n by_ z h2 h3 h4;split at h<;>try (cases h;done)
   rename_i h5;split at h<;>try (cases h;done)
   rename_i xs new m h6 h7 h8;split at h<;>try (cases h;done)
   rename_i h9;obtain⟨h51,h52,h53⟩:=h5;subst h52;simp only[Qr,hu,h2,h3,h4,h51,if_true,h8,hs,appendTo,true_and];split
   . rw[h6];simp only;rw[if_neg];rintro⟨e1,_,_⟩;have:=h9.1;rw[this] at e1;have:(len+(m+1))*e' =len*e' +(m+1)*e' :=by rw[Zpn]
     have:0<(m+1)*e' :=Nat.mul_pos (by omega) h53;omega
   . rfl
theorem Xp(tm:Qkg pol)(hC:Xt C){nm:Nat}{t t' :List V}{H H' :Heap}{o:Oper}{ex:Ex}{s:Nat}{x:O}(h:Zi P pol C nm t H o=some (ex,t',H'))(sp:Yw s H)(hnm:nm≠s):
 Zi P pol C nm t (hset H 0 s x) o=some (ex,t',hset H' 0 s x)/\Yw s H' :=by
 have hne:¬(0=0/\nm=s):=fun e=>hnm e.2;have hd:∀d,(atN o nm).dst=some d->Qd (hset H 0 s x) 0 d=Qd H 0 d:=fun d e=>by cases e;exact sp.get x hne
 have tgt:∀ws:List (Nat×Nat×O),(∀y∈ws,(∃z,Qd H y.1 y.2.1=some z)\/(y.1=0/\y.2.1=nm))->∀y∈ws,¬(y.1=0/\y.2.1=s):=by
  intro ws hw y hy;rcases hw y hy with⟨z,hz⟩|⟨e1,e2⟩
  . rintro⟨e1,e2⟩;rw[e1,e2,sp.2] at hz;cases hz
  . rintro⟨_,e3⟩;exact hnm (by omega)
 unfold Zi at h;split at h
 . rename_i hev;split at h
   case h_2=>cases h
   rename_i v ws hm;cases h;have hm' :=Qnq (sp.gle x) (sp.get x hne) hm;have hev' :Zv P (fun _=>true) 0 (Qd (hset H 0 s x)) (rho t) (atN o nm)=none:=Qgu (nm:=nm) hm';obtain⟨q1,q2⟩:=Qcc sp x (ws:=ws) (tgt ws (Qz4 hm));simp only[Zi,hev',hm',q1];exact⟨trivial,q2⟩
 . rename_i v w hev;cases h;have hev' :=Qam (sp.gle x) hd hev;have ht:=Q8e hev;obtain⟨q1,q2⟩:=Qcc sp x (ws:=w.toList) (tgt w.toList (fun y hy=>by
    cases w with
    |none=>cases hy
    |some z=>
     obtain⟨f,s',o'⟩:=z;rw[Option.toList_some,Zoh] at hy;subst hy;rcases ht v f s' o' rfl with h1|⟨h1,h2⟩
     . exact .inl h1
     . cases h2;exact .inr ⟨h1,rfl⟩))
   simp only[Zi,hev',Qk1,q1];exact⟨trivial,q2⟩
 . rename_i v hev;cases h;simp only[Zi,Qam (sp.gle x) hd hev];exact⟨trivial,sp⟩
 . rename_i f args hev;simp only[Zi,Qam (sp.gle x) hd hev,sp.next x];split at h
   . rename_i v H1 hc;cases h;obtain⟨q1,q2⟩:=Qd9 tm hC (x:=x) hc sp;rw[q1];exact⟨rfl,q2⟩
   . rename_i v H1 hc;cases h;obtain⟨q1,q2⟩:=Qd9 tm hC (x:=x) hc sp;rw[q1];exact⟨rfl,q2⟩
   . cases h
 . rename_i f s' args hev;simp only[Zi,Qam (sp.gle x) hd hev];split at h
   case h_2=>cases h
   rename_i v H1 hc;cases h;obtain⟨q1,q2⟩:=hC _ _ _ _ _ s x hc sp;rw[q1];exact⟨rfl,q2⟩
theorem Yg(tm:Qkg pol)(hC:Xt C){ops:Array Oper}{s:Nat}{x:O}:∀(l:List Oper) {t t' :List V} {H H' :Heap} {ex:Ex},Zp P pol C ops l t H=some (ex,t',H')->Yw s H->
 Zp P pol C ops l t (hset H 0 s x)=some (ex,t',hset H' 0 s x)/\Yw s H'
 |[],_,_,_,_,_,h,sp=>by cases h;exact⟨rfl,sp⟩
 |o::l,t,t',H,H',ex,h,sp=>by
  simp only[Zp] at h⊢;split at h
  . cases h
  . exact Yg tm hC l h sp
  . rw[sp.next x];have hnm:Zc H≠s:=by have:=sp.1;omega
    split at h
    . rename_i t1 H1 hop;obtain⟨q1,q2⟩:=Xp (x:=x) tm hC hop sp hnm;rw[q1];exact Yg tm hC l h q2
    . rename_i y hne;obtain⟨q1,q2⟩:=Xp (x:=x) tm hC h sp hnm;rw[q1];cases ex with
      |normal=>exact absurd h (hne _ _)
      |_=>exact⟨rfl,q2⟩
theorem Qlr{nm s:Nat}{H:Heap}{x:O}(sp:Yw s H)(hnm:nm≠s)(ws:List (Nat×Nat×O)):Qab nm (hset H 0 s x) ws=Qab nm H ws:=by
 unfold Qab;split
 . rw[sp.get x (fun e=>hnm e.2)]
 . rfl
theorem Q1b{lim s:Nat}{H H1:Heap}{x:O}(sp:Yw s H)(sp1:Yw s H1):Qi1 lim (hset H 0 s x) (hset H1 0 s x)=Qi1 lim H H1:=by
 funext f s';unfold Qi1;by_cases e:f=0/\s' =s
 . obtain⟨rfl,rfl⟩:=e;rw[sp.2,sp1.2,sp.next x];have h1:Qd (hset H 0 s' x) 0 s' =Qd (hset H1 0 s' x) 0 s' :=by
    have l0:0<H.length:=by have:=sp.1;cases H with|nil=>cases this|cons=>simp
    have l1:0<H1.length:=by have:=sp1.1;cases H1 with|nil=>cases this|cons=>simp
    rw[Br _ _ _ _ l0,Br _ _ _ _ l1];simp
   rw[(Qzg _ _).2 h1];rfl
 . rw[sp.get x e,sp1.get x e,sp.next x]
theorem Q4t{lim nm:Nat}{t t' :List V}{H H1:Heap}{o:Oper}{ex:Ex}{s:Nat}{x:O}(h:Zi P pol C nm t H o=some (ex,t',H1))(sp:Yw s H)(sp1:Yw s H1)(hnm:nm≠s):
 Jp P lim nm t (hset H 0 s x) (hset H1 0 s x) o=Jp P lim nm t H H1 o:=by
 have hne:¬(0=0/\nm=s):=fun e=>hnm e.2;have hd:∀d,(atN o nm).dst=some d->Qd (hset H 0 s x) 0 d=Qd H 0 d:=fun d e=>by cases e;exact sp.get x hne
 unfold Jp;split
 . rfl
 split
 . rfl
 unfold Zi at h;split at h
 . rename_i hev;split at h
   case h_2=>cases h
   rename_i v ws hm;have hm' :=Qnq (sp.gle x) (sp.get x hne) hm;have hev' :Zv P (fun _=>true) 0 (Qd (hset H 0 s x)) (rho t) (atN o nm)=none:=Qgu (nm:=nm) hm';simp only[hev,hev',hm,hm',Qlr sp hnm]
 . rename_i v w hev;simp only[hev,Qam (sp.gle x) hd hev,Qlr sp hnm]
 . rename_i v hev;simp only[hev,Qam (sp.gle x) hd hev]
 . rename_i f args hev;simp only[hev,Qam (sp.gle x) hd hev,Q1b sp sp1]
 . rename_i f s' args hev;simp only[hev,Qam (sp.gle x) hd hev]
theorem Kl(tm:Qkg pol)(hC:Xt C){ops:Array Oper}{lim s:Nat}{x:O}:∀(l:List Oper) {nm:Nat} {t t' :List V} {H H' :Heap} {T:List FP},Zb P pol C ops lim nm l t H=some (t',H',T)->Yw s H->s<nm->
 Zb P pol C ops lim nm l t (hset H 0 s x)=some (t',hset H' 0 s x,T)/\Yw s H'
 |[],_,_,_,_,_,_,h,sp,_=>by cases h;exact⟨rfl,sp⟩
 |o::l,nm,t,t',H,H',T,h,sp,hs=>by
  simp only[Zb] at h⊢;split at h
  . cases h
  . split at h
    case h_2=>cases h
    rename_i t1 H1 T1 hr;cases h;obtain⟨q1,q2⟩:=Kl (x:=x) tm hC l hr sp (by omega);rw[q1];exact⟨rfl,q2⟩
  . split at h
    case h_2=>cases h
    rename_i t1 H1 hop;split at h
    case h_2=>cases h
    rename_i t2 H2 T2 hr;cases h;obtain⟨q1,q2⟩:=Xp (x:=x) tm hC hop sp (by omega);obtain⟨q3,q4⟩:=Kl (x:=x) tm hC l hr q2 (by omega);rw[q1];simp only[q3,Q4t (x:=x) hop sp q2 (by omega)];exact⟨trivial,q4⟩
theorem Q2t{g g' :Get}(hg:GLe g g'){y:V}{l:List (V×Option (Nat×Nat×O))}(h:Y8 g y=some l):Y8 g' y=some l:=by
 unfold Y8 at h⊢;split at h<;>try (cases h;done)
 split at h<;>try (cases h;done)
 . rename_i he;rw[hg _ _ _ he];exact h
 . rename_i he;rw[hg _ _ _ he];simp only;split at h<;>try (cases h;done)
   rename_i he2;rw[hg _ _ _ he2];exact h
theorem Q5w{g:Get}{y:V}{l:List (V×Option (Nat×Nat×O))}(h:Y8 g y=some l):∀c∈l,∀z∈c.2.toList,∃w,g z.1 z.2.1=some w:=by
 unfold Y8 at h
 (repeat' split at h)<;>cases h
 . intro c hc z hz;rw[Zoh] at hc;subst hc;rw[Option.toList_some,Zoh] at hz;subst hz;exact⟨_,by assumption⟩
 . intro c hc z hz;rw[Zoh] at hc;subst hc;rw[Option.toList_some,Zoh] at hz;subst hz;exact⟨_,by assumption⟩
 . intro c hc z hz;obtain⟨e,_,rfl⟩:=Zpc.1 hc;rw[Option.toList_some,Zoh] at hz;subst hz;exact⟨_,by assumption⟩
theorem Y9(tm:Qkg pol)(hC:Xt C)(hL:Q7q L):∀(c:Code),Qxv (Ze P pol C L fn c)/\
 ∀v w t H ex t' H' s x,Je P pol C L fn c v w t H=some (ex,t',H')->(∀z∈w.toList,¬(z.1=0/\z.2.1=s))->Yw s H->Je P pol C L fn c v w t (hset H 0 s x)=some (ex,t',hset H' 0 s x)/\Yw s H' :=by
 intro c
 induction c with
 |skip=>exact⟨fun t H ex t' H' s x h sp=>by cases h;exact⟨rfl,sp⟩,fun v w t H ex t' H' s x h=>by cases h⟩
 |exit id=>exact⟨fun t H ex t' H' s x h sp=>by cases h;exact⟨rfl,sp⟩,fun v w t H ex t' H' s x h=>by cases h⟩
 |ret=>exact⟨fun t H ex t' H' s x h sp=>by cases h;exact⟨rfl,sp⟩,fun v w t H ex t' H' s x h=>by cases h⟩
 |scope b ih=>exact⟨fun t H ex t' H' s x h=>(by cases h),fun v w t H ex t' H' s x h=>by cases h⟩
 |label l=>exact⟨fun t H ex t' H' s x h=>(by cases h),fun v w t H ex t' H' s x h=>by cases h⟩
 |goto l=>exact⟨fun t H ex t' H' s x h=>(by cases h),fun v w t H ex t' H' s x h=>by cases h⟩
 |refuse l=>exact⟨fun t H ex t' H' s x h=>(by cases h),fun v w t H ex t' H' s x h=>by cases h⟩
 |region id ops draw=>
  refine⟨fun t H ex t' H' s x h sp=>?_,fun v w t H ex t' H' s x h hw sp=>?_⟩
  . simp only[Ze] at h⊢;cases draw with
    |false=>simp only[Zn5,if_false] at h⊢;exact Yg tm hC _ h sp
    |true=>
     simp only[if_true] at h⊢;split at h
     . cases h
     rename_i hfree;split at h
     case h_2=>cases h
     rename_i t1 H1 T hT;split at h
     case isFalse=>cases h
     rename_i hok;cases h;have hlt:=sp.1;rw[sp.next x,sp.get x (by omega),hfree,Xc H x .dead (by omega)];simp only;obtain⟨q1,q2⟩:=Kl (x:=x) tm hC _ hT (sp.hset (by omega)) hlt;rw[q1];simp only[hok,if_true];exact⟨trivial,q2⟩
  . simp only[Je] at h⊢;split at h
    case h_2=>cases h
    rename_i o r ho;rw[Qk1] at h⊢;obtain⟨q1,q2⟩:=Qcc sp x hw;rw[q1];exact Yg tm hC _ h q2
 |seq a b iha ihb=>
  refine⟨fun t H ex t' H' s x h sp=>?_,fun v w t H ex t' H' s x h hw sp=>?_⟩
  . simp only[Ze] at h⊢;split at h
    . rename_i t1 H1 ha;obtain⟨q1,q2⟩:=iha.1 _ _ _ _ _ s x ha sp;rw[q1];exact ihb.1 _ _ _ _ _ s x h q2
    . rename_i y hne;obtain⟨q1,q2⟩:=iha.1 _ _ _ _ _ s x h sp;rw[q1];cases ex with
      |normal=>exact absurd h (hne _ _)
      |_=>exact⟨rfl,q2⟩
  . simp only[Je] at h⊢;split at h
    . rename_i t1 H1 ha;obtain⟨q1,q2⟩:=iha.2 _ _ _ _ _ _ _ s x ha hw sp;rw[q1];exact ihb.1 _ _ _ _ _ s x h q2
    . rename_i y hne;obtain⟨q1,q2⟩:=iha.2 _ _ _ _ _ _ _ s x h hw sp;rw[q1];cases ex with
      |normal=>exact absurd h (hne _ _)
      |_=>exact⟨rfl,q2⟩
 |cond c a b iha ihb=>
  refine⟨fun t H ex t' H' s x h sp=>?_,fun v w t H ex t' H' s x h=>by cases h⟩;simp only[Ze] at h⊢;split at h
  case h_2=>cases h
  rename_i q hq;split at h
  . rename_i e;rw[if_pos e];exact iha.1 _ _ _ _ _ s x h sp
  . rename_i e;rw[if_neg e];exact ihb.1 _ _ _ _ _ s x h sp
 |block id b ih=>
  refine⟨fun t H ex t' H' s x h sp=>?_,fun v w t H ex t' H' s x h=>by cases h⟩;simp only[Ze] at h⊢;split at h
  . rename_i i t1 H1 hb;obtain⟨q1,q2⟩:=ih.1 _ _ _ _ _ s x hb sp;rw[q1];simp only;split at h
    . rename_i e;cases h;rw[if_pos e];exact⟨rfl,q2⟩
    . rename_i e;cases h;rw[if_neg e];exact⟨rfl,q2⟩
  . rename_i y hne;obtain⟨q1,q2⟩:=ih.1 _ _ _ _ _ s x h sp;rw[q1];cases ex with
    |exit i=>exact absurd h (hne _ _ _)
    |_=>exact⟨rfl,q2⟩
 |loop b ih=>
  refine⟨fun t H ex t' H' s x h sp=>?_,fun v w t H ex t' H' s x h=>by cases h⟩;simp only[Ze] at h⊢;split at h
  . rename_i g hp;obtain⟨⟨t1,H1⟩,h1,h2⟩:=Zpg.1 h;cases h2;obtain⟨q1,q2⟩:=tm.loop _ _ _ hp _ _ _ _ s x h1 sp;rw[q1];exact⟨rfl,q2⟩
  . refine hL _ ?_ _ _ _ _ _ s x h sp;intro t H ex t' H' s x h sp;cases hn:Z0 b with
    |none=>rw[hn] at h;exact ih.1 _ _ _ _ _ s x h sp
    |some y=>
     rw[hn] at h;simp only at h⊢;split at h
     case h_2=>cases h
     rename_i c hc;rw[Q2t (sp.gle x) hc];refine ih.2 _ _ _ _ _ _ _ s x h ?_ sp;intro z hz;obtain⟨w,hw⟩:=Q5w hc c (by simp) z hz;rintro⟨e1,e2⟩;rw[e1,e2,sp.2] at hw;cases hw
 |rangeFunc g ps a b iha ihb=>
  refine⟨fun t H ex t' H' s x h sp=>?_,fun v w t H ex t' H' s x h=>by cases h⟩;simp only[Ze] at h⊢;split at h
  case h_2=>cases h
  rename_i f first cap hg
  split at h
  case h_2=>cases h
  rename_i hn;split at h
  case h_2=>cases h
  rename_i v H2 hc;have hlt:=sp.1;have hne:¬(0=0/\Zc H=s):=by omega
  rw[sp.next x,sp.get x hne,hn];simp only;rw[Xc H x _ (by omega)];obtain⟨q1,q2⟩:=hC _ _ _ _ _ s x hc (sp.hset hne);rw[q1];simp only;unfold K0 at h⊢;rw[q2.get x hne];split at h
  case h_2=>cases h
  rename_i st pend f2 r2 t2 hg2;split at h
  . cases h
  rename_i hst;rw[if_neg hst,Xc H2 x .dead (by omega)];cases pend with
  |none=>cases h;exact⟨rfl,q2.hset hne⟩
  |some j=>
   cases j with
   |none=>cases h;exact⟨rfl,q2.hset hne⟩
   |some i=>cases h;exact⟨rfl,q2.hset hne⟩
theorem Ym{b:Kz}(hb:Qxv b):∀n,Qxv (Zz b n)
 |0=>fun t H ex t' H' s x h=>by cases h
 |n+1=>fun t H ex t' H' s x h sp=>by
  simp only[Zz] at h⊢;split at h
  . rename_i t1 H1 ha;obtain⟨q1,q2⟩:=hb _ _ _ _ _ s x ha sp;rw[q1];exact Ym hb n _ _ _ _ _ s x h q2
  . rename_i y hne;obtain⟨q1,q2⟩:=hb _ _ _ _ _ s x h sp;rw[q1];cases ex with
    |normal=>exact absurd h (hne _ _)
    |_=>exact⟨rfl,q2⟩
theorem Qub{t:List V}{H:Heap}{s:Nat}(x:O)(sp:Yw s H):∀(rs:List ResultVar) (vs:List V),Qha P t H rs=some vs->Qha P t (hset H 0 s x) rs=some vs
 |[],_,h=>h
 |r::rs,vs,h=>by
  simp only[Qha] at h⊢;split at h
  case h_2=>cases h
  rename_i v vs' h1 h2;rw[Qub x sp rs vs' h2];have:Qak P t (hset H 0 s x) r=some v:=by
   cases r with
   |tmp i=>exact h1
   |cell a T=>
    simp only[Qak] at h1⊢;split at h1
    case h_2=>cases h1
    split at h1
    case h_2=>cases h1
    rename_i he;rw[sp.gle x _ _ _ he];exact h1
  rw[this];exact h
theorem Qh9{F:Func}{t:List V}{H:Heap}{s:Nat}(x:O)(sp:Yw s H){v:V}(h:Qcb P F t H=some v):Qcb P F t (hset H 0 s x)=some v:=by
 unfold Qcb at h⊢;cases hl:Qha P t H F.results.toList with
 |none=>rw[hl] at h;cases h
 |some vs=>rw[hl] at h;rw[Qub x sp _ _ hl];exact h
theorem Qq5(tm:Qkg pol)(hC:Xt C)(hL:Q7q L):∀(c:Code) (t:List V) (H:Heap) (ex:Ex) (t' :List V) (H' :Heap) (ds:List V) (s:Nat) (x:O),Qd2 P pol C L fn c t H=some (ex,t',H',ds)->Yw s H->
 Qd2 P pol C L fn c t (hset H 0 s x)=some (ex,t',hset H' 0 s x,ds)/\Yw s H' :=by
 have base:∀(c:Code) (t:List V) (H:Heap) (ex:Ex) (t' :List V) (H' :Heap) (ds:List V) (s:Nat) (x:O),noD (Ze P pol C L fn c t H)=some (ex,t',H',ds)->Yw s H->noD (Ze P pol C L fn c t (hset H 0 s x))=some (ex,t',hset H' 0 s x,ds)/\Yw s H' :=by
  intro c t H ex t' H' ds s x h sp;cases he:Ze P pol C L fn c t H with
  |none=>rw[he] at h;cases h
  |some q=>
   obtain⟨e,t1,H1⟩:=q;rw[he] at h;cases h;obtain⟨q1,q2⟩:=(Y9 tm hC hL c).1 _ _ _ _ _ s x he sp;rw[q1];exact⟨rfl,q2⟩
 intro c
 induction c with
 |seq a b _ ihb=>
  intro t H ex t' H' ds s x h sp;simp only[Qd2] at h⊢;split at h
  . rename_i ops l d y hd;split at h
    case h_2=>cases h
    rename_i t1 H1 h1;obtain⟨q1,q2⟩:=Yg tm hC l h1 sp (x:=x);rw[q1];simp only;split at h
    case h_2=>cases h
    rename_i f p q hv;split at h
    case h_2=>cases h
    rename_i ex2 t2 H2 ds2 h2;cases h;obtain⟨q3,q4⟩:=ihb _ _ _ _ _ _ s x h2 q2;rw[q3];exact⟨rfl,q4⟩
  . split at h
    . rename_i hl;rw[if_pos hl];split at h
      . rename_i t1 H1 h1;obtain⟨q1,q2⟩:=(Y9 tm hC hL a).1 _ _ _ _ _ s x h1 sp;rw[q1];exact ihb _ _ _ _ _ _ s x h q2
      . rename_i e t1 H1 hne h1;cases h;obtain⟨q1,q2⟩:=(Y9 tm hC hL a).1 _ _ _ _ _ s x h1 sp;rw[q1];cases ex with
        |normal=>exact(hne rfl).elim
        |_=>exact⟨rfl,q2⟩
      . cases h
    . rename_i hl;rw[if_neg hl];exact base _ _ _ _ _ _ _ _ _ h sp
 |_=>intro t H ex t' H' ds s x h sp;simp only[Qd2] at h⊢;exact base _ _ _ _ _ _ _ _ _ h sp
theorem Qkj(hC:Xt C):∀(ds:List V) (H H' :Heap) (s:Nat) (x:O),Qd7 P C ds H=some H' ->Yw s H->Qd7 P C ds (hset H 0 s x)=some (hset H' 0 s x)/\Yw s H'
 |[],H,H',s,x,h,sp=>by cases h;exact⟨rfl,sp⟩
 |v::ds,H,H',s,x,h,sp=>by
  unfold Qd7 at h;split at h
  . rename_i e;cases e
  . rename_i g first cap ds' e
    cases e;split at h
    case isFalse=>cases h
    rename_i hp;split at h
    case h_2=>cases h
    rename_i r H1 h1;obtain⟨q1,q2⟩:=hC _ _ _ _ _ s x h1 sp;obtain⟨q3,q4⟩:=Qkj hC ds H1 H' s x h q2;simp only[Qd7,hp,if_true,q1];exact⟨q3,q4⟩
  . cases h
theorem Qjn(tm:Qkg pol)(hC:Xt C)(hL:Q7q L):Xt (Qdt P pol C L):=by
 intro f args H r H' s x h sp;cases f with
 |some f=>
  simp only[Qdt,Qbk] at h⊢;split at h
  case h_2=>cases h
  rename_i Fn hF;split at h
  case h_2=>cases h
  rename_i c hc;by_cases hdc:Qki c=true
  . rw[if_pos hdc] at h⊢;simp only[Qzu] at h⊢;split at h
    . rename_i t1 H1 ds he;obtain⟨q1,q2⟩:=Qq5 tm hC hL c _ _ _ _ _ _ s x he sp;rw[q1];simp only;split at h
      case h_2=>cases h
      rename_i H2 h2;obtain⟨q3,q4⟩:=Qkj hC ds _ _ s x h2 q2;rw[q3];simp only;split at h
      case h_2=>cases h
      rename_i v hv;cases h;rw[Qh9 x q4 hv];exact⟨rfl,q4⟩
    . rename_i t1 H1 ds he;obtain⟨q1,q2⟩:=Qq5 tm hC hL c _ _ _ _ _ _ s x he sp;rw[q1];simp only;split at h
      case h_2=>cases h
      rename_i H2 h2;obtain⟨q3,q4⟩:=Qkj hC ds _ _ s x h2 q2;rw[q3];simp only;split at h
      case h_2=>cases h
      rename_i v hv;cases h;rw[Qh9 x q4 hv];exact⟨rfl,q4⟩
    . cases h
  rw[if_neg hdc] at h⊢;split at h
  . rename_i t1 H1 he;obtain⟨q1,q2⟩:=(Y9 tm hC hL c).1 _ _ _ _ _ s x he sp;rw[q1];simp only;split at h
    case h_2=>cases h
    rename_i v hv;cases h;rw[Qh9 x q2 hv];exact⟨rfl,q2⟩
  . rename_i t1 H1 he;obtain⟨q1,q2⟩:=(Y9 tm hC hL c).1 _ _ _ _ _ s x he sp;rw[q1];simp only;split at h
    case h_2=>cases h
    rename_i v hv;cases h;rw[Qh9 x q2 hv];exact⟨rfl,q2⟩
  . rename_i v t1 H1 he;cases h;obtain⟨q1,q2⟩:=(Y9 tm hC hL c).1 _ _ _ _ _ s x he sp;rw[q1];exact⟨rfl,q2⟩
  . cases h
 |none=>
  simp only[Qdt] at h⊢;split at h
  case h_2=>cases h
  rename_i fo so rest;simp only[Qay] at h⊢;split at h
  case h_2=>cases h
  rename_i pend fL rid t0 hg;rw[sp.gle x _ _ _ hg];simp only;split at h
  case h_2=>cases h
  rename_i ps a b hl;split at h
  case isFalse=>cases h
  rename_i hlen;rw[if_pos hlen];split at h
  case h_2=>cases h
  rename_i t1 H1 he1;obtain⟨q1,q2⟩:=(Y9 tm hC hL a).1 _ _ _ _ _ s x he1 sp;rw[q1];simp only;split at h
  case h_2=>cases h
  rename_i pend1 fL1 rid1 t01 hg1;rw[q2.gle x _ _ _ hg1];simp only;split at h
  case h_2=>cases h
  rename_i e t2 H2 he2;have n1:¬(fo=0/\so=s):=by rintro⟨rfl,rfl⟩;rw[q2.2] at hg1;cases hg1
  rw[Xc H1 x _ (fun e=>n1 ⟨e.1.symm,e.2.symm⟩)];obtain⟨q3,q4⟩:=(Y9 tm hC hL b).1 _ _ _ _ _ s x he2 (q2.hset n1);rw[q3];simp only;unfold Bn at h⊢;split at h
  case h_2=>cases h
  rename_i st3 pend3 fL3 rid3 t03 hg3;rw[q4.gle x _ _ _ hg3];simp only;rw[Xc H2 x _ (fun e=>n1 ⟨e.1.symm,e.2.symm⟩),Xc H2 x _ (fun e=>n1 ⟨e.1.symm,e.2.symm⟩)];cases e with
  |normal=>cases h;exact⟨rfl,q4.hset n1⟩
  |ret=>cases h;exact⟨rfl,q4.hset n1⟩
  |exit i=>simp only at h⊢;cases h;rw[Xc H2 x _ (fun e=>n1 ⟨e.1.symm,e.2.symm⟩)];exact⟨rfl,q4.hset n1⟩
  |panic v=>cases h
theorem J7(tm:Qkg pol):∀n,Xt (Yh P pol n)
 |0=>fun f args H r H' s x h=>by cases h
 |n+1=>Qjn tm (J7 tm n) fun b hb=>Ym hb n
end
end Go.AM.BM
end
