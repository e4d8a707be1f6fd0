/- This file holds in one the texts An14, An15; each says at its head what it proves. -/
import Derived.Test.YtidniacddkalaaaGreatDoorT6
set_option linter.unusedSimpArgs false
set_option linter.unusedVariables false
section
namespace Go.AM
structure Pol where
 pure:FuncId->FuncId->Bool
 mt:FuncId->Nat->Bool
 keep:FuncId->Nat->Option (List Nat×List Nat)
 prim:FuncId->Option (Nat->Option Nat->Get->List V->Option (V×Option (Nat×Nat×O)))
 /-- Is such a call handed frozen arguments, though it is on the caller's heap? -/
 thin:FuncId->FuncId->Bool:=fun _ _=>false
 /-- Is such a call on an empty heap, its result's object taken over? -/
 lift:FuncId->FuncId->Bool:=fun _ _=>false
 /-- Does such a call only look at the caller's heap? -/
 look:FuncId->FuncId->Bool:=fun _ _=>false
 /-- Slots that point to slices whose elements no longer change behind the function's body. -/
 settle:FuncId->List Nat:=fun _=>[]
 /-- At a loop's head: slots of lists, and the one slot that the list that is left goes to. -/
 move:FuncId->Nat->Option (List Nat×Nat):=fun _ _=>none
inductive Ex where
 |normal
 |exit(id:Nat)
 |ret
 |panic(v:V)
inductive Rt where
 |ret(v:V)
 |pan(v:V)
mutual
def V.eqb:V->V->Bool
 | .bad,.bad=>true
 | .bool a,.bool b=>a==b
 | .int k n,.int l m=>decide (k=l)&&decide (n=m)
 | .str a,.str b=>decide (a=b)
 | .nP,.nP=>true
 | .ptr f s o,.ptr f' s' o' =>Nat.beq f f' &&Nat.beq s s' &&Nat.beq o o'
 | .iptr a o,.iptr b o' =>Qfj a b&&Nat.beq o o'
 | .rptr a o,.rptr b o' =>Qfj a b&&Nat.beq o o'
 | .nS,.nS=>true
 | .iS a n x,.iS b m y=>Qfj a b&&Nat.beq n m&&(x==y)
 | .gS f s a n e,.gS f' s' b m e' =>Nat.beq f f' &&Nat.beq s s' &&Qfj a b&&Nat.beq n m&&Nat.beq e e'
 | .mS f s o n c e,.mS f' s' o' n' c' e' =>Nat.beq f f' &&Nat.beq s s' &&Nat.beq o o' &&Nat.beq n n' &&decide (c=c')&&Nat.beq e e'
 | .nM,.nM=>true
 | .map f s,.map f' s' =>Nat.beq f f' &&Nat.beq s s'
 | .func f a b,.func f' a' b' =>decide (f=f')&&Qfj a a' &&Qfj b b'
 | .nF,.nF=>true
 | .nI,.nI=>true
 | .byte,.byte=>true
 | .face t v,.face t' v' =>Nat.beq t t' &&v.eqb v'
 | .agg a,.agg b=>Qfj a b
 | .tuple a,.tuple b=>Qfj a b
 | .yield f s,.yield f' s' =>Nat.beq f f' &&Nat.beq s s'
 |_,_=>false
def Qfj:List V->List V->Bool
 |[],[]=>true
 |x::xs,y::ys=>x.eqb y&&Qfj xs ys
 |_,_=>false
end
theorem V.eqb_iff:∀(a b:V),a.eqb b=true↔a=b:=by intro a;refine V.rec (motive_1:=fun a=>∀b,a.eqb b=true↔a=b) (motive_2:=fun l=>∀m,Qfj l m=true↔l=m) ?_ ?_ ?_ ?_ ?_ ?_ ?_ ?_ ?_ ?_ ?_ ?_ ?_ ?_ ?_ ?_ ?_ ?_ ?_ ?_ ?_ ?_ ?_ ?_ a<;>intros<;>rename_i b<;>cases b<;>simp_all[V.eqb,Qfj,and_assoc]
theorem Qov:∀(l m:List V),Qfj l m=true↔l=m
 |[],[]=>by simp[Qfj]
 |[],_::_=>by simp[Qfj]
 |_::_,[]=>by simp[Qfj]
 |x::xs,y::ys=>by simp[Qfj,V.eqb_iff,Qov xs ys]
def Q1h:List (V×V)->List (V×V)->Bool
 |[],[]=>true
 |(a,b)::r,(c,d)::s=>a.eqb c&&b.eqb d&&Q1h r s
 |_,_=>false
theorem Qwq:∀(l m:List (V×V)),Q1h l m=true↔l=m
 |[],[]=>by simp[Q1h]
 |[],_::_=>by simp[Q1h]
 |_::_,[]=>by simp[Q1h]
 |(a,b)::xs,(c,d)::ys=>by simp[Q1h,V.eqb_iff,Qwq xs ys]
def O.eqb:O->O->Bool
 | .cells a,.cells b=>Qfj a b
 | .grow n,.grow m=>Nat.beq n m
 | .map a bs c,.map b ds d=>Q1h a b&&decide (bs=ds)&&Nat.beq c d
 | .iter m s l t,.iter m' s' l' t' =>decide (m=m')&&Nat.beq s s' &&decide (l=l')&&Nat.beq t t'
 | .loop a b c d t,.loop a' b' c' d' t' =>Nat.beq a a' &&decide (b=b')&&Nat.beq c c' &&Nat.beq d d' &&Qfj t t'
 | .siter l p,.siter l' p' =>decide (l=l')&&Nat.beq p p'
 | .dead,.dead=>true
 |_,_=>false
theorem O.eqb_iff:∀(a b:O),a.eqb b=true↔a=b:=by intro a b;cases a<;>cases b<;>simp[O.eqb,Qov,Qwq,and_assoc]
def Q05:Frame->Frame->Bool
 |[],[]=>true
 |(k,o)::r,(l,p)::s=>Nat.beq k l&&o.eqb p&&Q05 r s
 |_,_=>false
theorem Qw4:∀(a b:Frame),Q05 a b=true↔a=b
 |[],[]=>by simp[Q05]
 |[],_::_=>by simp[Q05]
 |_::_,[]=>by simp[Q05]
 |(k,o)::xs,(l,p)::ys=>by simp[Q05,O.eqb_iff,Qw4 xs ys]
def Q28:Heap->Heap->Bool
 |[],[]=>true
 |f::r,g::s=>Q05 f g&&Q28 r s
 |_,_=>false
theorem Qyy:∀(a b:Heap),Q28 a b=true↔a=b
 |[],[]=>by simp[Q28]
 |[],_::_=>by simp[Q28]
 |_::_,[]=>by simp[Q28]
 |f::xs,g::ys=>by simp[Q28,Qw4,Qyy xs ys]
def Ex.eqb:Ex->Ex->Bool
 | .normal,.normal=>true
 | .exit i,.exit j=>Nat.beq i j
 | .ret,.ret=>true
 | .panic v,.panic w=>v.eqb w
 |_,_=>false
theorem Ex.eqb_iff:∀(a b:Ex),a.eqb b=true↔a=b:=by intro a b;cases a<;>cases b<;>simp[Ex.eqb,V.eqb_iff]
abbrev Out:=Option (Ex×List V×Heap)
def eqbO:Out->Out->Bool
 |none,none=>true
 |some (e,t,H),some (e',t',H')=>e.eqb e' &&Qfj t t' &&Q28 H H'
 |_,_=>false
theorem Qzz:∀(a b:Out),eqbO a b=true↔a=b:=by intro a b;rcases a with _|⟨e,t,H⟩<;>rcases b with _|⟨e',t',H'⟩<;>simp[eqbO,Ex.eqb_iff,Qov,Qyy,and_assoc]
def Qed:List Out->Out
 |[]=>none
 |[x]=>x
 |x::y::r=>if eqbO x (Qed (y::r)) then x else none
theorem Q6n(x:Out):Qed [x]=x:=rfl
theorem Qlu:∀{l:List Out} {r:Ex×List V×Heap},Qed l=some r->∀x∈l,x=some r
 |[],_,h=>by cases h
 |[x],r,h=>by
  intro y hy;rw[Zr0] at hy;subst hy;exact h
 |x::y::l,r,h=>by
  simp only[Qed] at h;split at h
  . rename_i he;rw[Qzz] at he;subst h;intro z hz;rcases Zrx.1 hz with rfl|hz
    . rfl
    . exact Qlu he.symm z hz
  . cases h
theorem Zbf{l:List Out}{r:Ex×List V×Heap}(h:Qed l=some r):l≠[]:=by rintro rfl;cases h
theorem Qe5:∀{l:List Out} {r:Ex×List V×Heap},l≠[]->(∀x∈l,x=some r)->Qed l=some r
 |[],_,h,_=>absurd rfl h
 |[x],r,_,h=>h x (by simp)
 |x::y::l,r,_,h=>by
  have h1:=Qe5 (l:=y::l) (r:=r) (by simp) (fun z hz=>h z (Zrz _ hz));have h2:=h x (by simp);subst h2;simp only[Qed,h1];rw[if_pos ((Qzz _ _).2 rfl)]
theorem Qmb{l:List Out}{r:Ex×List V×Heap}:Qed l=some r↔l≠[]/\∀x∈l,x=some r:=
 ⟨fun h=>⟨Zbf h,Qlu h⟩,fun h=>Qe5 h.1 h.2⟩
abbrev Call:=Option FuncId->List V->Heap->Option (Rt×Heap)
def rho(t:List V):Operand->V
 | .tmp i=>t.getD i .bad
 | .const v=>Z0 v
 | .global _=> .bad
 | .func f=> .func (.func f) [] []
def Qu(t:List V)(dst:Option Nat)(v:V):List V:=
 match dst with
 |some d=>t.set d v
 |none=>t
abbrev nov:V:= .tuple []
def Zy(ops:Array Oper)(t:List V)(o:Oper):Option Bool:=
 match o.guard with
 |none=>some true
 |some (j,want)=>match((ops[j]?).bind (·.dst)).bind (t[·]?) with
  |some (.bool b)=>some (b==want)
  |some (.tuple [])=>some false
  |_=>none
def Qt(f:V->Option V):List V->Option (List V)
 |[]=>some []
 |x::xs=>match f x,Qt f xs with
  |some y,some ys=>some (y::ys)
  |_,_=>none
def frz(g:Get):Nat->V->Option V
 |0,_=>none
 |n+1,v=>match v with
  | .mS f s o len cap esz=>(match g f s with
    |some (.cells xs)=>if o+len*esz<=xs.length then(Qt (frz g n) ((xs.drop o).take (len*esz))).map fun cs=> .iS cs len (cap==some len) else none
    |_=>none)
  | .gS _ _ cs len _=>(Qt (frz g n) cs).map fun cs=> .iS cs len false
  | .rptr cs o=>(Qt (frz g n) cs).map fun cs=> .iptr cs o
  | .ptr f s o=>(match g f s with
    |some (.cells xs)=>(Qt (frz g n) xs).map fun cs=> .iptr cs o
    |_=>none)
  | .map _ _=>none
  | .yield _ _=>none
  | .agg cs=>(Qt (frz g n) cs).map .agg
  | .tuple cs=>(Qt (frz g n) cs).map .tuple
  | .face t x=>(frz g n x).map (.face t)
  | .func fn a b=>(match Qt (frz g n) a,Qt (frz g n) b with
    |some a,some b=>some (.func fn a b)
    |_,_=>none)
  |v=>some v
def depth:Nat:=12
mutual
def V.refs(p:Nat->Nat->Bool):V->Bool
 | .ptr f s _| .mS f s _ _ _ _| .map f s| .yield f s=>p f s
 | .gS f s cs _ _=>p f s||Qi p cs
 | .rptr cs _=>Qi p cs
 | .func _ a b=>Qi p a||Qi p b
 | .face _ v=>v.refs p
 | .agg xs| .tuple xs=>Qi p xs
 |_=>false
def Qi(p:Nat->Nat->Bool):List V->Bool
 |[]=>false
 |x::xs=>x.refs p||Qi p xs
end
def Qgm(p:Nat->Nat->Bool):List (V×V)->Bool
 |[]=>false
 |(k,x)::r=>k.refs p||x.refs p||Qgm p r
def O.refs(p:Nat->Nat->Bool):O->Bool
 | .cells xs=>Qi p xs
 | .map es _ _=>Qgm p es
 | .iter (some m) _ _ _=>p m.1 m.2
 | .loop _ _ _ _ t=>Qi p t
 |_=>false
def Zb(p:Nat->Nat->Bool):Frame->Bool
 |[]=>true
 |(_,o)::r=>!o.refs p&&Zb p r
def Qz(p:Nat->Nat->Bool):Heap->Bool
 |[]=>true
 |fr::r=>Zb p fr&&Qz p r
def Jb(p:Nat->Bool):Frame->Frame
 |[]=>[]
 |(k,o)::r=>if p k then Jb p r else(k,o)::Jb p r
def Qfg(pol:Pol)(fn f:FuncId)(args:List V):Option (List V):=if pol.thin fn f then Qt (frz (fun _ _=>none) depth) args else some args
def frzN(g:Get):Nat->V->Option V
 |0,_=>none
 |n+1,v=>match v with
  | .mS f s o len cap esz=>(match g f s with
    |some (.cells xs)=>if o+len*esz<=xs.length then(Qt (frzN g n) ((xs.drop o).take (len*esz))).map fun cs=> .iS cs len (cap==some len) else none
    |_=>none)
  | .ptr f s o=>(match g f s with
    |some (.cells xs)=>(Qt (frzN g n) xs).map fun cs=> .iptr cs o
    |_=>none)
  | .gS f s cs len _=>(match g f s with
    |some (.grow k)=>if k=len then(Qt (frzN g n) cs).map fun cs=> .iS cs len false else none
    |_=>none)
  | .agg cs=>(Qt (frzN g n) cs).map .agg
  | .tuple cs=>(Qt (frzN g n) cs).map .tuple
  | .face t x=>(frzN g n x).map (.face t)
  | .bool b=>some (.bool b)
  | .int k m=>some (.int k m)
  | .str s=>some (.str s)
  | .nP=>some .nP
  | .nS=>some .nS
  | .nM=>some .nM
  | .nF=>some .nF
  | .nI=>some .nI
  | .byte=>some .byte
  |_=>none
def frzM(f:V->Option V):List (V×V)->Option (List (V×V))
 |[]=>some []
 |(k,x)::r=>match f k,f x,frzM f r with
  |some k,some x,some r=>some ((k,x)::r)
  |_,_,_=>none
def Qcd(H' :Heap)(fr:Nat)(dst:Option Nat)(H:Heap)(v:V):Option (V×Nat×O):=
 match v,dst with
 | .map f s,some d=>(match Qd H fr d,Qd H' f s with
   |none,some (.map es bs clk)=>(frzM (frz (Qd H') depth) es).map fun es=>(.map fr d,d,.map es bs clk)
   |_,_=>none)
 | .mS f s o len cap esz,some d=>(match Qd H fr d,Qd H' f s with
   |none,some (.cells xs)=>if Qx xs=true then some (.mS fr d o len cap esz,d,.cells xs) else none
   |_,_=>none)
 | .gS f s cs len esz,some d=>(match Qd H fr d,Qd H' f s with
   |none,some (.grow n)=>if n=len/\Qx cs=true then some (.gS fr d cs len esz,d,.grow n) else none
   |_,_=>none)
 | .nS,some d=>(match Qd H fr d with
   |none=>some (.nS,d,.dead)
   |_=>none)
 |_,_=>none
section
variable (P : Program) (pol : Pol) (C : Call) (fn fr : Nat)
def Yf(keep:List Nat):List V->Nat->List V
 |[],_=>[]
 |x::xs,i=>(if keep.contains i then x else .bad)::Yf keep xs (i+1)
def forgetK(r:Nat)(t:List V)(H:Heap):Option (List V×Heap):=
 match pol.keep fn r with
 |none=>some (t,H)
 |some (kt,ds)=>
  if Qi (fun f s=>f==fr&&ds.contains s) (Yf kt t 0) then none
  else if Qz (fun f s=>f==fr&&ds.contains s) (H.modify fr (Jb fun s=>ds.contains s)) then some (Yf kt t 0,H.modify fr (Jb fun s=>ds.contains s))
  else none
def Qp4(fr a b:Nat):V->V
 | .gS f s cs n e=>if f=fr/\s=a then .gS fr b cs n e else .gS f s cs n e
 |x=>x
abbrev Je(fr s:Nat):Nat->Nat->Bool:=fun f s' =>f==fr&&[s].contains s'
def dropOne(fr s:Nat)(t:List V)(H:Heap):Option Heap:=
 if Qi (Je fr s) t then some H
 else if Qz (Je fr s) (H.modify fr (Jb fun x=>[s].contains x)) then some (H.modify fr (Jb fun x=>[s].contains x)) else none
def dropAll(fr:Nat)(t:List V):List Nat->Heap->Option Heap
 |[],H=>some H
 |s::r,H=>match dropOne fr s t H with
  |some H=>dropAll fr t r H
  |none=>none
def moveOne(fr a b:Nat)(t:List V)(H:Heap):Option (List V×Heap):=
 match Qd H fr a,Qd H fr b with
 |some (.grow n),none=>
  if Qi (Je fr a) (t.map (Qp4 fr a b)) then none
  else if Qz (Je fr a) (H.modify fr (Jb fun x=>[a].contains x)) then some (t.map (Qp4 fr a b),hset (H.modify fr (Jb fun x=>[a].contains x)) fr b (.grow n))
  else none
 |_,_=>some (t,H)
def moveAll(fr b:Nat):List Nat->List V->Heap->Option (List V×Heap)
 |[],t,H=>some (t,H)
 |a::r,t,H=>match moveOne fr a b t H with
  |some (t,H)=>moveAll fr b r t H
  |none=>none
def forget(r:Nat)(t:List V)(H:Heap):Option (List V×Heap):=
 match forgetK pol fn fr r t H with
 |none=>none
 |some (t,H)=>(match pol.move fn r with
  |none=>some (t,H)
  |some (ds,c)=>(match dropAll fr t (c::ds) H with
   |none=>none
   |some H=>moveAll fr c ds t H))
def callOp(dst:Option Nat)(f:FuncId)(args:List V)(H:Heap):Option (Rt×Heap):=
 match pol.prim f with
 |some g=>(g fr dst (Qd H) args).map fun x=>(.ret x.1,wr H x.2)
 |none=>
  if pol.pure fn f then
   match Qt (frz (fun _ _=>none) depth) args with
   |some args=>(match C f args [] with
    |some (.ret v,H')=>(frz (Qd H') depth v).map fun v=>(.ret v,H)
    |some (.pan v,H')=>(frz (Qd H') depth v).map fun v=>(.pan v,H)
    |none=>none)
   |none=>none
  else if pol.lift fn f then
   match Qt (frz (fun _ _=>none) depth) args with
   |some args=>(match C f args [] with
    |some (.ret v,H')=>(Qcd H' fr dst H v).map fun x=>(.ret x.1,wr H (some (fr,x.2.1,x.2.2)))
    |_=>none)
   |none=>none
  else if pol.look fn f then
   match Qt (frz (Qd H) depth) args with
   |some args=>(match C f args [] with
    |some (.ret v,H')=>(frzN (Qd H') depth v).map fun v=>(.ret v,H)
    |_=>none)
   |none=>none
  else(match Qfg pol fn f args with
   |some args=>C f args H
   |none=>none)
def Q7(t:List V)(H:Heap)(o:Oper):Option (Ex×List V×Heap):=
 match Zr P (pol.mt fn) fr (Qd H) (rho t) o with
 |none=>none
 |some (.val v w)=>some (.normal,Qu t o.dst v,wr H w)
 |some (.panic v)=>some (.panic v,t,H)
 |some (.call f args)=>(match callOp pol C fn fr o.dst f args H with
  |some (.ret v,H')=>some (.normal,Qu t o.dst v,H')
  |some (.pan v,H')=>some (.panic v,t,H')
  |none=>none)
 |some (.round f s args)=>(match C none (.yield f s::args) H with
  |some (.ret v,H')=>some (.normal,Qu t o.dst v,H')
  |_=>none)
def Zi(ops:Array Oper):List Oper->List V->Heap->Option (Ex×List V×Heap)
 |[],t,H=>some (.normal,t,H)
 |o::r,t,H=>match Zy ops t o with
  |none=>none
  |some false=>Zi ops r (Qu t o.dst nov) H
  |some true=>(match Q7 P pol C fn fr t H o with
   |some (.normal,t,H)=>Zi ops r t H
   |x=>x)
abbrev Ka:=List V->Heap->List Out
def after(k:List V->Heap->Out):Out->Out
 |some (.normal,t,H)=>k t H
 |r=>r
def Zw(body:Ka):Nat->List V->Heap->Out
 |0,_,_=>none
 |n+1,t,H=>Qed ((body t H).map (after (Zw body n)))
def Kh(seen:List Nat):List (V×V)->List Nat->List ((V×V)×Nat)
 |e::es,b::bs=>if seen.contains b then Kh seen es bs else(e,b)::Kh seen es bs
 |_,_=>[]
def Y5(g:Get)(x:V):Option (List (V×Option (Nat×Nat×O))):=
 match x with
 | .ptr f s 0=>(match g f s with
   |some (.iter none _ _ _)=>some [(.tuple [.bool false],some (f,s,.dead))]
   |some (.iter (some m) since seen stepped)=>(match g m.1 m.2 with
    |some (.map es bs clk)=>if bs.all (fun b=>decide (b<since))&&decide (since<=stepped) then
      (match Kh seen es bs with
      |[]=>some [(.tuple [.bool false],some (f,s,.dead))]
      |l=>some (l.map fun e=>(.tuple [.bool true,e.1.1,e.1.2],some (f,s,.iter (some m) since (seen++[e.2]) clk))))
     else none
    |_=>none)
   |_=>none)
 |_=>none
def Zx:Code->Option Operand
 | .region _ ops false=>(match ops.toList with
   |o::_=>(match o.guard,o.op with
    |none,.next x false=>some x
    |_,_=>none)
   |[]=>none)
 | .seq a _=>Zx a
 |_=>none
def Zn:Code->Nat
 | .region id _ _=>id
 | .seq a _=>Zn a
 | .cond _ a _=>Zn a
 | .block _ b=>Zn b
 | .loop b=>Zn b
 | .scope b=>Zn b
 |_=>0
end
def V.id?:V->Option (Nat×Nat)
 | .ptr f s _| .gS f s _ _ _| .mS f s _ _ _ _| .map f s| .yield f s=>some (f,s)
 |_=>none
def Q9:Op->Bool
 | .move _| .assign _| .pick _ _ _| .build _ _| .nilCheck _| .binOp _ _ _ _ _| .unOp _ _ _| .makeInterface _ _| .makeFunc _ _ _| .fieldAddr _ _ _| .field _ _ _
 | .indexAddr _ _ _| .index _ _ _| .extract _ _| .typeAssert _ _ _ _| .sliceToArrayPointer _ _=>true
 |_=>false
def Y9:Op->Bool
 | .entry _=>true
 |_=>false
def Kp(fr:Nat)(ρ:Operand->V)(o:Oper):List (Nat×Nat):=
 (match o.dst with|some d=>[(fr,d)]|none=>[])++o.op.operands.toList.filterMap fun x=>(ρ x).id?
inductive FP where
 |quiet
 |ids(r w:List (Nat×Nat))
 |all
 deriving DecidableEq,Inhabited
def Qd5(a b:List (Nat×Nat)):Bool:=a.any fun x=>b.contains x
def FP.indep:FP->FP->Bool
 | .quiet,_|_,.quiet=>true
 | .ids r w,.ids r' w' =>!Qd5 w r' &&!Qd5 w w' &&!Qd5 w' r
 |_,_=>false
section
variable (P : Program) (pol : Pol) (C : Call) (fn fr : Nat)
def Jk(t:List V)(H:Heap)(o:Oper):FP:=
 if Q9 o.op then .quiet else if Y9 o.op then .all else
 match Zr P (pol.mt fn) fr (Qd H) (rho t) o with
 |some (.val _ none)=> .ids (Kp fr (rho t) o) []
 |some (.val _ (some (f,s,_)))=> .ids (Kp fr (rho t) o) [(f,s)]
 |some (.call f _)=>if(pol.prim f).isNone&&pol.pure fn f then .quiet else if(pol.prim f).isNone&&pol.lift fn f then(match o.dst with
  |some d=> .ids (Kp fr (rho t) o) [(fr,d)]
  |none=> .all) else .all
 |_=> .all
def Q3(ops:Array Oper):List Oper->List V->Heap->Option (List V×Heap×List FP)
 |[],t,H=>some (t,H,[])
 |o::r,t,H=>match Zy ops t o with
  |none=>none
  |some false=>(match Q3 ops r (Qu t o.dst nov) H with
   |some (t',H',T)=>some (t',H',.quiet::T)
   |none=>none)
  |some true=>(match Q7 P pol C fn fr t H o with
   |some (.normal,t1,H1)=>(match Q3 ops r t1 H1 with
    |some (t',H',T)=>some (t',H',Jk P pol fn fr t H o::T)
    |none=>none)
   |_=>none)
end
def okT(bef:Array Nat):List (FP×Nat)->Bool
 |[]=>true
 |(a,i)::r=>r.all (fun(b,j)=>(bef.getD j 0).testBit i||a.indep b)&&okT bef r
def FP.loud:FP->Bool
 | .quiet=>false
 |_=>true
def loud(T:List FP):List (FP×Nat):=T.zipIdx.filter fun x=>x.1.loud
abbrev Kw:=List V->Heap->Out
def Zc(a b:Code):Nat:=if Zn a=0 then Zn b else Zn a
def Qy(rid:Nat):Code->Option (Array Tmp×Code×Code)
 | .seq a b| .cond _ a b=>(match Qy rid a with
   |some x=>some x
   |none=>Qy rid b)
 | .block _ b| .loop b| .scope b=>Qy rid b
 | .rangeFunc _ ps a b=>if Zc a b=rid then some (ps,a,b) else(match Qy rid a with
   |some x=>some x
   |none=>Qy rid b)
 |_=>none
def Q1:Code->List Nat
 | .seq a b| .cond _ a b=>Q1 a++Q1 b
 | .block _ b| .loop b| .scope b=>Q1 b
 | .rangeFunc _ _ a b=>Zc a b::(Q1 a++Q1 b)
 |_=>[]
def Qo(P:Program)(fn:FuncId)(rid:Nat):Option (Array Tmp×Code×Code):=
 match P.funcs[fn]? with
 |some F=>(match F.body with
  |some c=>Qy rid c
  |none=>none)
 |none=>none
def Qv(rid:Nat):Nat:=1000000+rid
def Bs:List V->List (Tmp×V)->List V
 |t,[]=>t
 |t,p::r=>Bs (t.set p.1 p.2) r
def Kx(fr s:Nat)(t:List V)(H:Heap):Out:=
 match Qd H fr s with
 |some (.loop st pend _ _ _)=>if st=1 then none else
  if Qi (Je fr s) t then none else if Qz (Je fr s) (H.modify fr (Jb fun x=>[s].contains x)) then
   (match pend with
   |none=>some (.normal,t,H.modify fr (Jb fun x=>[s].contains x))
   |some none=>some (.ret,t,H.modify fr (Jb fun x=>[s].contains x))
   |some (some i)=>some (.exit i,t,H.modify fr (Jb fun x=>[s].contains x)))
  else none
 |_=>none
section
variable (P : Program) (pol : Pol) (C : Call) (L : Ka -> Kw) (fn fr : Nat)
mutual
def Q5:Code->Kw
 | .skip=>fun t H=>some (.normal,t,H)
 | .region _ ops draw=>fun t H=>if draw then(match Q3 P pol C fn fr ops ops.toList t H with
    |some (t',H',T)=>if okT (Region.before ops) (loud T) then some (.normal,t',H') else none
    |none=>none) else Zi P pol C fn fr ops ops.toList t H
 | .seq a b=>fun t H=>(match Q5 a t H with
   |some (.normal,t,H)=>Q5 b t H
   |r=>r)
 | .cond c x y=>fun t H=>(match rho t c with
   | .bool b=>if b then Q5 x t H else Q5 y t H
   |_=>none)
 | .block id b=>fun t H=>(match Q5 b t H with
   |some (.exit i,t,H)=>if i=id then some (.normal,t,H) else some (.exit i,t,H)
   |r=>r)
 | .loop b=>fun t H=>L (fun t H=>match forget pol fn fr (Zn b) t H with
   |some (t,H)=>(match Zx b with
    |none=>[Q5 b t H]
    |some x=>(match Y5 (Qd H) (rho t x) with
     |some cs=>cs.map fun c=>Z5 b c.1 c.2 t H
     |none=>[none]))
   |none=>[none]) t H
 | .exit id=>fun t H=>some (.exit id,t,H)
 | .ret=>fun t H=>some (.ret,t,H)
 | .rangeFunc g _ a b=>fun t H=>(match rho t g with
   | .func (.func f) first cap=>(match Qd H fr (Qv (Zc a b)) with
     |none=>(match C f (first++[.yield fr (Qv (Zc a b))]++cap) (hset H fr (Qv (Zc a b)) (.loop 0 none fn (Zc a b) t)) with
      |some (.ret _,H2)=>Kx fr (Qv (Zc a b)) t H2
      |_=>none)
     |some _=>none)
   |_=>none)
 |_=>fun _ _=>none
def Z5:Code->V->Option (Nat×Nat×O)->Kw
 | .region _ ops _=>fun v w t H=>(match ops.toList with
   |o::r=>Zi P pol C fn fr ops r (Qu t o.dst v) (wr H w)
   |[]=>none)
 | .seq a b=>fun v w t H=>(match Z5 a v w t H with
   |some (.normal,t,H)=>Q5 b t H
   |r=>r)
 |_=>fun _ _ _ _=>none
end
def Jv(t:List V)(H:Heap):ResultVar->Option V
 | .tmp i=>some (t.getD i .bad)
 | .cell a T=>(match t.getD a .bad with
   | .ptr f s o=>(match Qd H f s with
     |some (.cells xs)=>Qn P T xs o
     |_=>none)
   |_=>none)
def Ks(t:List V)(H:Heap):List ResultVar->Option (List V)
 |[]=>some []
 |r::rs=>match Jv P t H r,Ks t H rs with
  |some v,some vs=>some (v::vs)
  |_,_=>none
def Xn(f:Func)(t:List V)(H:Heap):Option V:=
 match Ks P t H f.results.toList with
 |some [v]=>some v
 |some vs=>some (.tuple vs)
 |none=>none
def Bb(b:Nat)(v:V)(H:Heap):Heap:=
 if !v.refs (fun f _=>Nat.ble b f)&&Qz (fun f _=>Nat.ble b f) (H.take b) then H.take b else H
def Qti(t:List V)(H:Heap)(k:Nat):Option Heap:=
 match t.getD k .bad with
 | .ptr f s o=>(match Qd H f s with
   |some (.cells xs)=>(match xs[o]? with
    |some (.mS f1 s1 o1 len cap esz)=>(match Qd H f1 s1 with
     |some (.cells ys)=>if o1+len*esz<=ys.length/\Qx ys=true/\¬(f=f1/\s=s1) then
       some (hset (hset H f1 s1 .dead) f s (.cells (xs.set o (.iS ((ys.drop o1).take (len*esz)) len (cap==some len))))) else none
     |_=>none)
    |some _=>some H
    |none=>none)
   |_=>none)
 | .tuple []=>some H
 | .bad=>some H
 |_=>none
def Qbp:List Nat->List V->Heap->Option Heap
 |[],_,H=>some H
 |k::ks,t,H=>match Qti t H k with
  |some H=>Qbp ks t H
  |none=>none
def Qeb(ks:List Nat):Out->Out
 |some (.normal,t,H)=>(Qbp ks t H).map fun H=>(.normal,t,H)
 |some (.ret,t,H)=>(Qbp ks t H).map fun H=>(.ret,t,H)
 |r=>r
theorem Qzb(x:Out):Qeb [] x=x:=by
 rcases x with _|⟨e,t,H⟩
 . rfl
 . cases e<;>rfl
def Bq(fo so b:Nat)(e:Ex)(H:Heap):Option (Rt×Heap):=
 match Qd H fo so with
 |some (.loop _ _ fL rid t0)=>(match e with
  | .normal=>some (.ret (.bool true),Bb b (.bool true) (hset H fo so (.loop 0 none fL rid t0)))
  | .ret=>some (.ret (.bool false),Bb b (.bool false) (hset H fo so (.loop 2 (some none) fL rid t0)))
  | .exit i=>some (.ret (.bool false),Bb b (.bool false) (hset H fo so (.loop 2 (some (some i)) fL rid t0)))
  | .panic _=>none)
 |_=>none
def Qa0(fo so:Nat)(args:List V)(H:Heap):Option (Rt×Heap):=
 match Qd H fo so with
 |some (.loop 0 _ fL rid t0)=>(match Qo P fL rid with
  |some (ps,a,b)=>if args.length=ps.size then
    (match Q5 P pol C L fL H.length a (Bs t0 (ps.toList.zip args)) (H++[[]]) with
    |some (.normal,t1,H1)=>(match Qd H1 fo so with
     |some (.loop 0 pend fL' rid' t0')=>(match Q5 P pol C L fL H.length b t1 (hset H1 fo so (.loop 1 pend fL' rid' t0')) with
      |some (e,_,H2)=>Bq fo so H.length e H2
      |none=>none)
     |_=>none)
    |_=>none) else none
  |none=>none)
 |_=>none
def Qbc(f:FuncId)(args:List V)(H:Heap):Option (Rt×Heap):=
 match P.funcs[f]? with
 |some F=>(match F.body with
  |some c=>(match Qeb (pol.settle f) (Q5 P pol C L f H.length c (args++List.replicate (F.ntmps-args.length) .bad) (H++[[]])) with
   |some (.normal,t,H')|some (.ret,t,H')=>(match Xn P F t H' with
    |some v=>some (.ret v,Bb H.length v H')
    |none=>none)
   |some (.panic v,_,H')=>some (.pan v,Bb H.length v H')
   |_=>none)
  |none=>none)
 |none=>none
def Qd6(f:Option FuncId)(args:List V)(H:Heap):Option (Rt×Heap):=
 match f with
 |some f=>Qbc P pol C L f args H
 |none=>(match args with
  | .yield fo so::rest=>Qa0 P pol C L fo so rest H
  |_=>none)
end
def Ye(P:Program)(pol:Pol):Nat->Call
 |0=>fun _ _ _=>none
 |n+1=>Qd6 P pol (Ye P pol n) (fun b=>Zw b n)
end Go.AM
end
section
namespace Go.AM
variable {P : Program} {E : Env} {B : Nat} {F : Nat -> Nat -> Prop} {H : Heap}
def bare(T:FuncId->Nat->Option (Array Tmp×Code×Code))(w:World)(F:Nat->Nat->Prop):Env:={w:=w,mu:=fun _ _=>none,reg:=fun _ _=>none,mod:=F,tab:=T}
theorem Row.bare{b off:Nat}{vs:List Value}(h:Row E b off vs)(hF:∀b i,F b i->E.mod b i):Row (bare E.tab E.w F) b off vs:=
 fun i v hv=>⟨(h i v hv).1,fun hm=>(h i v hv).2 (hF _ _ hm)⟩
mutual
theorem Rel.bare(hF:∀b i,F b i->E.mod b i):∀(x:V) (v:Value),x.pure=true->Rel E x v->Rel (bare E.tab E.w F) x v
 | .bad,_,_,_=>by simp[Rel]
 | .bool _,_,_,r| .int _ _,_,_,r| .str _,_,_,r| .nP,_,_,r| .nS,_,_,r| .nM,_,_,r| .nF,_,_,r| .nI,_,_,r| .byte,_,_,r=>by
   simpa only[Rel] using r
 | .ptr f s o,_,p,_=>by simp[V.pure] at p
 | .iptr cells o,_,_,r=>by
   simp only[Rel] at r⊢;obtain⟨b,off,vs,rfl,hr,hl,hp⟩:=r;exact⟨b,off,vs,rfl,hr.bare hF,Qe.bare hF cells vs hp hl,hp⟩
 | .iS cells len full,_,_,r=>by
   simp only[Rel] at r⊢;obtain⟨a,cap,vs,rfl,h1,h2,hr,hl,hp⟩:=r;exact⟨a,cap,vs,rfl,h1,h2,hr.imp id (fun⟨a,b⟩=>⟨a,b.bare hF⟩),Qe.bare hF cells vs hp hl,hp⟩
 | .gS f s cells len esz,_,p,_=>by simp[V.pure] at p
 | .rptr _ _,_,p,_=>by simp[V.pure] at p
 | .mS f s o len cap esz,_,p,_=>by simp[V.pure] at p
 | .map f s,_,p,_=>by simp[V.pure] at p
 | .yield f s,_,p,_=>by simp[V.pure] at p
 | .func fn first captured,_,p,r=>by
   simp only[Rel] at r⊢;simp only[V.pure,Zr1] at p;obtain⟨fs,cs,rfl,h1,h2⟩:=r;exact⟨fs,cs,rfl,Qe.bare hF first fs p.1 h1,Qe.bare hF captured cs p.2 h2⟩
 | .face t x,_,p,r=>by
   simp only[Rel] at r⊢;simp only[V.pure] at p;obtain⟨c,rfl,hc⟩:=r;exact⟨c,rfl,Rel.bare hF x c p hc⟩
 | .agg cells,_,p,r=>by
   simp only[Rel] at r⊢;simp only[V.pure] at p;obtain⟨vs,rfl,hl⟩:=r;exact⟨vs,rfl,Qe.bare hF cells vs p hl⟩
 | .tuple cells,_,p,r=>by
   simp only[Rel] at r⊢;simp only[V.pure] at p;obtain⟨vs,rfl,hl⟩:=r;exact⟨vs,rfl,Qe.bare hF cells vs p hl⟩
theorem Qe.bare(hF:∀b i,F b i->E.mod b i):∀(xs:List V) (vs:List Value),Qx xs=true->Qe E xs vs->Qe (bare E.tab E.w F) xs vs
 |[],_,_,r=>r
 |x::xs,_,p,r=>by
  simp only[Qx,Zr1] at p;obtain⟨v,r',rfl,hv,hr⟩:=Qe.cons_iff.1 r;exact .cons (Rel.bare hF x v p.1 hv) (Qe.bare hF xs r' p.2 hr)
end
mutual
theorem Rel.dress{E' :Env}(hw:E'.w=E.w)(hm:E'.mod=E.mod):∀(x:V) (v:Value),x.pure=true->Rel E x v->Rel E' x v
 | .bad,_,_,_=>by simp[Rel]
 | .bool _,_,_,r| .int _ _,_,_,r| .str _,_,_,r| .nP,_,_,r| .nS,_,_,r| .nM,_,_,r| .nF,_,_,r| .nI,_,_,r| .byte,_,_,r=>by
   simpa only[Rel] using r
 | .ptr f s o,_,p,_=>by simp[V.pure] at p
 | .iptr cells o,_,_,r=>by
   simp only[Rel] at r⊢;obtain⟨b,off,vs,rfl,hr,hl,hp⟩:=r;refine⟨b,off,vs,rfl,?_,Qe.dress hw hm cells vs hp hl,hp⟩;intro i v hv;rw[hw,hm];exact hr i v hv
 | .iS cells len full,_,_,r=>by
   simp only[Rel] at r⊢;obtain⟨a,cap,vs,rfl,h1,h2,hr,hl,hp⟩:=r;refine⟨a,cap,vs,rfl,h1,h2,hr.imp id (fun⟨a,b⟩=>⟨a,?_⟩),Qe.dress hw hm cells vs hp hl,hp⟩;intro i v hv;rw[hw,hm];exact b i v hv
 | .gS f s cells len esz,_,p,_=>by simp[V.pure] at p
 | .rptr _ _,_,p,_=>by simp[V.pure] at p
 | .mS f s o len cap esz,_,p,_=>by simp[V.pure] at p
 | .map f s,_,p,_=>by simp[V.pure] at p
 | .yield f s,_,p,_=>by simp[V.pure] at p
 | .func fn first captured,_,p,r=>by
   simp only[Rel] at r⊢;simp only[V.pure,Zr1] at p;obtain⟨fs,cs,rfl,h1,h2⟩:=r;exact⟨fs,cs,rfl,Qe.dress hw hm first fs p.1 h1,Qe.dress hw hm captured cs p.2 h2⟩
 | .face t x,_,p,r=>by
   simp only[Rel] at r⊢;simp only[V.pure] at p;obtain⟨c,rfl,hc⟩:=r;exact⟨c,rfl,Rel.dress hw hm x c p hc⟩
 | .agg cells,_,p,r=>by
   simp only[Rel] at r⊢;simp only[V.pure] at p;obtain⟨vs,rfl,hl⟩:=r;exact⟨vs,rfl,Qe.dress hw hm cells vs p hl⟩
 | .tuple cells,_,p,r=>by
   simp only[Rel] at r⊢;simp only[V.pure] at p;obtain⟨vs,rfl,hl⟩:=r;exact⟨vs,rfl,Qe.dress hw hm cells vs p hl⟩
theorem Qe.dress{E' :Env}(hw:E'.w=E.w)(hm:E'.mod=E.mod):∀(xs:List V) (vs:List Value),Qx xs=true->Qe E xs vs->Qe E' xs vs
 |[],_,_,r=>r
 |x::xs,_,p,r=>by
  simp only[Qx,Zr1] at p;obtain⟨v,r',rfl,hv,hr⟩:=Qe.cons_iff.1 r;exact .cons (Rel.dress hw hm x v p.1 hv) (Qe.dress hw hm xs r' p.2 hr)
end
theorem Z1{f:V->Option V}{E' :Env}(hf:∀x y v,f x=some y->Rel E x v->Rel E' y v/\y.pure=true):
 ∀(xs ys:List V) (vs:List Value),Qt f xs=some ys->Qe E xs vs->Qe E' ys vs/\Qx ys=true
 |[],ys,vs,h,r=>by cases h;rw[Qe.nil_iff] at r;subst r;exact⟨.nil,rfl⟩
 |x::xs,ys,vs,h,r=>by
  simp only[Qt] at h;split at h
  . rename_i y ys' h1 h2;cases h;obtain⟨v,r',rfl,hv,hr⟩:=Qe.cons_iff.1 r;obtain⟨a1,a2⟩:=hf x y v h1 hv;obtain⟨b1,b2⟩:=Z1 hf xs ys' r' h2 hr;exact⟨.cons a1 b1,by simp[Qx,a2,b2]⟩
  . cases h
theorem Qse{g:Get}(hF:∀b i,F b i->E.mod b i)
 (hg:∀f s xs,g f s=some (.cells xs)->∃b T vs n,E.mu f s=some b/\Qe E xs vs/\Qeq E.w b 0 vs/\(∀i,¬F b i)/\E.w.shape? b=some (T,n)):
 ∀(n:Nat) (x y:V) (v:Value),frz g n x=some y->Rel E x v->Rel (bare E.tab E.w F) y v/\y.pure=true:=by
 intro n
 induction n with
 |zero=>intro x y v h;cases h
 |succ n ih=>
  intro x y v h r;have self:x.pure=true->frz g (n+1) x=some x->Rel (bare E.tab E.w F) y v/\y.pure=true:=by intro hp he;rw[he] at h;cases h;exact⟨Rel.bare hF _ _ hp r,hp⟩
  cases x with
  |bad=>exact self rfl rfl
  |bool=>exact self rfl rfl
  |int=>exact self rfl rfl
  |str=>exact self rfl rfl
  |nP=>exact self rfl rfl
  |iptr=>exact self rfl rfl
  |nS=>exact self rfl rfl
  |iS=>exact self rfl rfl
  |nM=>exact self rfl rfl
  |nF=>exact self rfl rfl
  |nI=>exact self rfl rfl
  |byte=>exact self rfl rfl
  |map=>cases h
  |yield=>cases h
  |ptr f s o=>
   simp only[frz] at h;split at h
   case h_2=>cases h
   rename_i xs hx;cases hq:Qt (frz g n) xs with
   |none=>rw[hq] at h;cases h
   |some cs=>
    rw[hq] at h;cases h;obtain⟨b,T,vs,m,h1,h2,h3,h4,_⟩:=hg f s xs hx;simp only[Rel] at r;obtain⟨b',hb',rfl⟩:=r;rw[h1] at hb';cases hb';obtain⟨a1,a2⟩:=Z1 ih xs cs vs hq h2;refine⟨?_,rfl⟩;simp only[Rel];exact⟨b,0,vs,by rw[Zrm],fun i v hv=>⟨h3 i v hv,h4 _⟩,a1,a2⟩
  |gS f s cs len esz=>
   simp only[frz] at h;cases hq:Qt (frz g n) cs with
   |none=>rw[hq] at h;cases h
   |some cs' =>
    rw[hq] at h;cases h;simp only[Rel] at r;obtain⟨b,off,cap,vs,rfl,h1,hr,hl,hlen,_⟩:=r;obtain⟨a1,a2⟩:=Z1 ih cs cs' vs hq hl;refine⟨?_,rfl⟩;simp only[Rel];exact⟨_,cap,vs,rfl,h1,(fun h=>by cases h),.inr ⟨rfl,hr.bare hF⟩,a1,a2⟩
  |rptr cs o=>
   simp only[frz] at h;cases hq:Qt (frz g n) cs with
   |none=>rw[hq] at h;cases h
   |some cs' =>
    rw[hq] at h;cases h;simp only[Rel] at r;obtain⟨b,off,vs,rfl,hr,hl⟩:=r;obtain⟨a1,a2⟩:=Z1 ih cs cs' vs hq hl;refine⟨?_,rfl⟩;simp only[Rel];exact⟨b,off,vs,rfl,hr.bare hF,a1,a2⟩
  |mS f s o len cap esz=>
   simp only[frz] at h;split at h
   case h_2=>cases h
   rename_i xs hx;split at h
   case isFalse=>cases h
   rename_i hle;cases hq:Qt (frz g n) ((xs.drop o).take (len*esz)) with
   |none=>rw[hq] at h;cases h
   |some cs=>
    rw[hq] at h;cases h;obtain⟨b,T,vs,m,h1,h2,h3,h4,_⟩:=hg f s xs hx;simp only[Rel] at r;obtain⟨b',c,T',n',hb',rfl,g1,g2,_⟩:=r;rw[h1] at hb';cases hb';obtain⟨a1,a2⟩:=Z1 ih _ cs ((vs.drop o).take (len*esz)) hq ((h2.drop o).take _);refine⟨?_,rfl⟩;simp only[Rel];refine⟨_,c,_,rfl,g1,?_,.inr ⟨rfl,fun i v hv=>⟨h3.from o _ i v hv,h4 _⟩⟩,a1,a2⟩;intro hcap;have:cap=some len:=by simpa using hcap
    exact g2 len this
  |func fn a b=>
   simp only[frz] at h;split at h
   . rename_i a' b' ha hb;cases h;simp only[Rel] at r;obtain⟨fs,cs,rfl,h1,h2⟩:=r;obtain⟨p1,p2⟩:=Z1 ih a a' fs ha h1;obtain⟨q1,q2⟩:=Z1 ih b b' cs hb h2;exact⟨by simp only[Rel];exact⟨fs,cs,rfl,p1,q1⟩,by simp[V.pure,p2,q2]⟩
   . cases h
  |face t x=>
   simp only[frz] at h;cases hq:frz g n x with
   |none=>rw[hq] at h;cases h
   |some x' =>
    rw[hq] at h;cases h;simp only[Rel] at r;obtain⟨c,rfl,hc⟩:=r;obtain⟨p1,p2⟩:=ih x x' c hq hc;exact⟨by simp only[Rel];exact⟨c,rfl,p1⟩,p2⟩
  |agg cs=>
   simp only[frz] at h;cases hq:Qt (frz g n) cs with
   |none=>rw[hq] at h;cases h
   |some cs' =>
    rw[hq] at h;cases h;simp only[Rel] at r;obtain⟨vs,rfl,hl⟩:=r;obtain⟨p1,p2⟩:=Z1 ih cs cs' vs hq hl;exact⟨by simp only[Rel];exact⟨vs,rfl,p1⟩,p2⟩
  |tuple cs=>
   simp only[frz] at h;cases hq:Qt (frz g n) cs with
   |none=>rw[hq] at h;cases h
   |some cs' =>
    rw[hq] at h;cases h;simp only[Rel] at r;obtain⟨vs,rfl,hl⟩:=r;obtain⟨p1,p2⟩:=Z1 ih cs cs' vs hq hl;exact⟨by simp only[Rel];exact⟨vs,rfl,p1⟩,p2⟩
theorem Sim.frz(S:Sim B F H E){n:Nat}{x y:V}{v:Value}(h:frz (Qd H) n x=some y)(r:Rel E x v):Rel (bare E.tab E.w F) y v/\y.pure=true:=by refine Qse S.fmod ?_ n x y v h r;intro f s xs hx;obtain⟨b,c,T,vs,rest,h1,h2,h3,h4,h5,h6,h7,h8⟩:=S.lies hx;exact⟨b,T,vs,c.size,h1,h5,h8,fun i hi=>by have:=S.fb b i hi;omega,by simp[World.shape?,h3]⟩
theorem Q03{g:Get}{M:Nat->Nat->Prop}
 (hg:∀f s xs,g f s=some (.cells xs)->∃b T vs n,E.mu f s=some b/\Qe E xs vs/\Qeq E.w b 0 vs/\(∀i,¬M b i)/\E.w.shape? b=some (T,n))
 (hr:∀f s k,g f s=some (.grow k)->∃b lo hi,E.reg f s=some (k,b,lo,hi)/\∀i,¬M b i):
 ∀(n:Nat) (x y:V) (v:Value),frzN g n x=some y->Rel E x v->Rel (bare E.tab E.w M) y v/\y.pure=true:=by
 intro n
 induction n with
 |zero=>intro x y v h;cases h
 |succ n ih=>
  intro x y v h r;cases x with
  |bad=>cases h
  |bool=>cases h;exact⟨by simpa [Rel] using r,rfl⟩
  |int=>cases h;exact⟨by simpa [Rel] using r,rfl⟩
  |str=>cases h;exact⟨by simpa [Rel] using r,rfl⟩
  |nP=>cases h;exact⟨by simpa [Rel] using r,rfl⟩
  |iptr=>cases h
  |nS=>cases h;exact⟨by simpa [Rel] using r,rfl⟩
  |iS=>cases h
  |nM=>cases h;exact⟨by simpa [Rel] using r,rfl⟩
  |nF=>cases h;exact⟨by simpa [Rel] using r,rfl⟩
  |nI=>cases h;exact⟨by simpa [Rel] using r,rfl⟩
  |byte=>cases h;exact⟨by simpa [Rel] using r,rfl⟩
  |map=>cases h
  |yield=>cases h
  |gS f s cs len esz=>
   simp only[frzN] at h;split at h
   case h_2=>cases h
   rename_i k hk;split at h
   case isFalse=>cases h
   rename_i hlen;subst hlen;cases hq:Qt (frzN g n) cs with
   |none=>rw[hq] at h;cases h
   |some cs' =>
    rw[hq] at h;cases h;obtain⟨b1,lo,hi,e1,e2⟩:=hr f s k hk;simp only[Rel] at r;obtain⟨b,off,cap,vs,rfl,h1,h2,h3,_,_,h4⟩:=r;obtain⟨_,h5⟩:=h4 _ _ _ _ e1;obtain⟨rfl,_,_⟩:=h5 rfl;obtain⟨a1,a2⟩:=Z1 ih cs cs' vs hq h3;refine⟨?_,rfl⟩;simp only[Rel];exact⟨_,cap,_,rfl,h1,(fun e=>by cases e),.inr ⟨rfl,fun i v hv=>⟨(h2 i v hv).1,e2 _⟩⟩,a1,a2⟩
  |rptr=>cases h
  |func=>cases h
  |ptr f s o=>
   simp only[frzN] at h;split at h
   case h_2=>cases h
   rename_i xs hx;cases hq:Qt (frzN g n) xs with
   |none=>rw[hq] at h;cases h
   |some cs=>
    rw[hq] at h;cases h;obtain⟨b,T,vs,m,h1,h2,h3,h4,_⟩:=hg f s xs hx;simp only[Rel] at r;obtain⟨b',hb',rfl⟩:=r;rw[h1] at hb';cases hb';obtain⟨a1,a2⟩:=Z1 ih xs cs vs hq h2;refine⟨?_,rfl⟩;simp only[Rel];exact⟨b,0,vs,by rw[Zrm],fun i v hv=>⟨h3 i v hv,h4 _⟩,a1,a2⟩
  |mS f s o len cap esz=>
   simp only[frzN] at h;split at h
   case h_2=>cases h
   rename_i xs hx;split at h
   case isFalse=>cases h
   rename_i hle;cases hq:Qt (frzN g n) ((xs.drop o).take (len*esz)) with
   |none=>rw[hq] at h;cases h
   |some cs=>
    rw[hq] at h;cases h;obtain⟨b,T,vs,m,h1,h2,h3,h4,_⟩:=hg f s xs hx;simp only[Rel] at r;obtain⟨b',c,T',n',hb',rfl,g1,g2,_⟩:=r;rw[h1] at hb';cases hb';obtain⟨a1,a2⟩:=Z1 ih _ cs ((vs.drop o).take (len*esz)) hq ((h2.drop o).take _);refine⟨?_,rfl⟩;simp only[Rel];refine⟨_,c,_,rfl,g1,?_,.inr ⟨rfl,fun i v hv=>⟨h3.from o _ i v hv,h4 _⟩⟩,a1,a2⟩;intro hcap;have:cap=some len:=by simpa using hcap
    exact g2 len this
  |face t x=>
   simp only[frzN] at h;cases hq:frzN g n x with
   |none=>rw[hq] at h;cases h
   |some x' =>
    rw[hq] at h;cases h;simp only[Rel] at r;obtain⟨c,rfl,hc⟩:=r;obtain⟨p1,p2⟩:=ih x x' c hq hc;exact⟨by simp only[Rel];exact⟨c,rfl,p1⟩,p2⟩
  |agg cs=>
   simp only[frzN] at h;cases hq:Qt (frzN g n) cs with
   |none=>rw[hq] at h;cases h
   |some cs' =>
    rw[hq] at h;cases h;simp only[Rel] at r;obtain⟨vs,rfl,hl⟩:=r;obtain⟨p1,p2⟩:=Z1 ih cs cs' vs hq hl;exact⟨by simp only[Rel];exact⟨vs,rfl,p1⟩,p2⟩
  |tuple cs=>
   simp only[frzN] at h;cases hq:Qt (frzN g n) cs with
   |none=>rw[hq] at h;cases h
   |some cs' =>
    rw[hq] at h;cases h;simp only[Rel] at r;obtain⟨vs,rfl,hl⟩:=r;obtain⟨p1,p2⟩:=Z1 ih cs cs' vs hq hl;exact⟨by simp only[Rel];exact⟨vs,rfl,p1⟩,p2⟩
theorem Sim.frzN(S:Sim B F H E){M:Nat->Nat->Prop}(hM:∀b i,M b i->b<B){n:Nat}{x y:V}{v:Value}(h:frzN (Qd H) n x=some y)(r:Rel E x v):Rel (bare E.tab E.w M) y v/\y.pure=true:=by
 refine Q03 ?_ (fun f s k hk=>?_) n x y v h r
 case refine_2=>obtain⟨b,lo,hi,c,T,z,g1,g2,g3,g4,g5,_⟩:=S.obj f s _ hk;exact⟨b,lo,hi,g1,fun i hi=>by have:=hM b i hi;omega⟩
 intro f s xs hx;obtain⟨b,c,T,vs,rest,h1,h2,h3,h4,h5,h6,h7,h8⟩:=S.lies hx;exact⟨b,T,vs,c.size,h1,h5,h8,fun i hi=>by have:=hM b i hi;omega,by simp[World.shape?,h3]⟩
theorem Sim.bareF(S:Sim B F H E):Sim E.w.heap.size F [] (bare E.tab E.w F) where
 dom:=fun f s=>rfl
 bsz:=Zrf _
 fb:=fun b i h=>Zri (S.fb b i h) S.bsz
 fmod:=fun _ _ h=>h
 modsz:=fun b i h=>Zri (S.fb b i h) S.bsz
 obj:=fun f s o h=>by simp[Qd] at h
 nreg:=fun f s n x h=>by cases h
 inj:=fun f s o _ _ _ _ h=>by simp[Qd] at h
theorem Qec{xs ys:List V}{vs:List Value}(n:Nat)(h:Qt (frz (fun _ _=>none) n) xs=some ys)(r:Qe E xs vs):Qe (bare E.tab E.w E.mod) ys vs/\Qx ys=true:=
 Z1 (Qse (F:=E.mod) (fun _ _ h=>h) (fun _ _ _ h=>by cases h) n) xs ys vs h r
theorem Sim.bare(S:Sim B F H E):Sim E.w.heap.size E.mod [] (bare E.tab E.w E.mod) where
 dom:=fun f s=>rfl
 bsz:=Zrf _
 fb:=S.modsz
 fmod:=fun _ _ h=>h
 modsz:=S.modsz
 obj:=fun f s o h=>by simp[Qd] at h
 nreg:=fun f s n x h=>by cases h
 inj:=fun f s o _ _ _ _ h=>by simp[Qd] at h
theorem Sim.behindM(S:Sim B F H E){M:Nat->Nat->Prop}(hM:∀b i,M b i->E.mod b i){E1:Env}{k:Nat}(X:Ext k E.w.heap.size (AM.bare E.tab E.w M) E1):
 Ext H.length B E {E with w:=E1.w}/\Sim B F H {E with w:=E1.w}:=by
 have hX:Ext H.length B E {E with w:=E1.w}:=by refine⟨X.size,X.shape,fun b i v hm h=>X.cell b i v (fun h' =>hm (hM b i h')) h,fun _ _ _ _ h=>h,fun _ _ _ _ h=>h,fun f s n b lo hi _ _ h=>⟨n,b,lo,hi,h,.inr ⟨rfl,rfl,rfl,rfl⟩⟩,?_,X.rest,rfl,X.dfr⟩;exact fun b hb=>X.old b (Zri hb S.bsz)
 refine⟨hX,S.dom,Zrg S.bsz X.size,S.fb,S.fmod,fun b i h=>Zri (S.modsz b i h) X.size,?_,S.nreg,?_⟩
 . intro f s o ho;exact(S.obj f s o ho).mono hX S.lt rfl rfl (fun b hb=>⟨X.old b (S.blk_lt ho hb),fun i h=>h⟩)
 . intro f s o f' s' o' b h1 h2 h3 h4;refine S.inj f s o f' s' o' b h1 h2 ?_ ?_
   . cases o<;>exact h3
   . cases o' <;>exact h4
theorem Sim.behind(S:Sim B F H E){E1:Env}{k:Nat}(X:Ext k E.w.heap.size (AM.bare E.tab E.w E.mod) E1):
 Ext H.length B E {E with w:=E1.w}/\Sim B F H {E with w:=E1.w}:=S.behindM (fun _ _ h=>h) X
end Go.AM
end
