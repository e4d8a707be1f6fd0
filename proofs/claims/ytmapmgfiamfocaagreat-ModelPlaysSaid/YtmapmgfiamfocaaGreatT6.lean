/- This file holds in one the texts An14, An15; each says at its head what it proves. -/
import Derived.Test.YtmapmgfiamfocaaGreatT5
set_option linter.unusedSimpArgs false
set_option linter.unusedVariables false
section
namespace Go.AM
structure Pol where
 pure:FuncId->FuncId->Bool
 mt:FuncId->Nat->Bool
 keep:FuncId->Nat->Option (List Nat×List Nat)
 prim:FuncId->Option (Nat->Option Nat->Get->List V->Option (V×Option (Nat×Nat×O)))
 /-- Is such a call handed frozen arguments, though it is on the caller's heap? -/
 thin:FuncId->FuncId->Bool:=fun _ _=>false
 /-- Is such a call on an empty heap, its result's object taken over? -/
 lift:FuncId->FuncId->Bool:=fun _ _=>false
 /-- Does such a call only look at the caller's heap? -/
 look:FuncId->FuncId->Bool:=fun _ _=>false
 /-- Does such a call leave the caller's heap as it was? -/
 peek:FuncId->FuncId->Bool:=fun _ _=>false
 /-- Calls (by the slot of their answer) that are pure too. -/
 alone:FuncId->Option Nat->Bool:=fun _ _=>false
 /-- Which slots of the caller's frame such a call leaves as they were, and which new object may be made ahead of it. -/
 side:FuncId->FuncId->Option (List Nat×Option Nat):=fun _ _=>none
 /-- New objects that may be made ahead of such calls: their cells. -/
 news:FuncId->Nat->Option (List V):=fun _ _=>none
 /-- Slots that point to slices whose elements no longer change behind the function's body. -/
 settle:FuncId->List Nat:=fun _=>[]
 /-- At a loop's head: slots of lists, and the one slot that the list that is left goes to. -/
 move:FuncId->Nat->Option (List Nat×Nat):=fun _ _=>none
inductive Ex where
 |normal
 |exit(id:Nat)
 |ret
 |panic(v:V)
inductive Rt where
 |ret(v:V)
 |pan(v:V)
mutual
def V.eqb:V->V->Bool
 | .bad,.bad=>true
 | .bool a,.bool b=>a==b
 | .int k n,.int l m=>decide (k=l)&&decide (n=m)
 | .str a,.str b=>decide (a=b)
 | .nP,.nP=>true
 | .ptr f s o,.ptr f' s' o' =>Nat.beq f f' &&Nat.beq s s' &&Nat.beq o o'
 | .iptr a o,.iptr b o' =>Qfk a b&&Nat.beq o o'
 | .rptr a o,.rptr b o' =>Qfk a b&&Nat.beq o o'
 | .nS,.nS=>true
 | .iS a n x,.iS b m y=>Qfk a b&&Nat.beq n m&&(x==y)
 | .gS f s a n e,.gS f' s' b m e' =>Nat.beq f f' &&Nat.beq s s' &&Qfk a b&&Nat.beq n m&&Nat.beq e e'
 | .mS f s o n c e,.mS f' s' o' n' c' e' =>Nat.beq f f' &&Nat.beq s s' &&Nat.beq o o' &&Nat.beq n n' &&decide (c=c')&&Nat.beq e e'
 | .nM,.nM=>true
 | .map f s,.map f' s' =>Nat.beq f f' &&Nat.beq s s'
 | .func f a b,.func f' a' b' =>decide (f=f')&&Qfk a a' &&Qfk b b'
 | .nF,.nF=>true
 | .nI,.nI=>true
 | .byte,.byte=>true
 | .face t v,.face t' v' =>Nat.beq t t' &&v.eqb v'
 | .agg a,.agg b=>Qfk a b
 | .tuple a,.tuple b=>Qfk a b
 | .yield f s,.yield f' s' =>Nat.beq f f' &&Nat.beq s s'
 | .mg f s n e,.mg f' s' n' e' =>Nat.beq f f' &&Nat.beq s s' &&Nat.beq n n' &&Nat.beq e e'
 | .mp f s o n,.mp f' s' o' n' =>Nat.beq f f' &&Nat.beq s s' &&Nat.beq o o' &&Nat.beq n n'
 |_,_=>false
def Qfk:List V->List V->Bool
 |[],[]=>true
 |x::xs,y::ys=>x.eqb y&&Qfk xs ys
 |_,_=>false
end
theorem V.eqb_iff:∀(a b:V),a.eqb b=true↔a=b:=by intro a;refine V.rec (motive_1:=fun a=>∀b,a.eqb b=true↔a=b) (motive_2:=fun l=>∀m,Qfk l m=true↔l=m) ?_ ?_ ?_ ?_ ?_ ?_ ?_ ?_ ?_ ?_ ?_ ?_ ?_ ?_ ?_ ?_ ?_ ?_ ?_ ?_ ?_ ?_ ?_ ?_ ?_ ?_ a<;>intros<;>rename_i b<;>cases b<;>simp_all[V.eqb,Qfk,and_assoc]
theorem Qo8:∀(l m:List V),Qfk l m=true↔l=m
 |[],[]=>by simp[Qfk]
 |[],_::_=>by simp[Qfk]
 |_::_,[]=>by simp[Qfk]
 |x::xs,y::ys=>by simp[Qfk,V.eqb_iff,Qo8 xs ys]
def Qwp:List (V×V)->List (V×V)->Bool
 |[],[]=>true
 |(a,b)::r,(c,d)::s=>a.eqb c&&b.eqb d&&Qwp r s
 |_,_=>false
theorem Qtz:∀(l m:List (V×V)),Qwp l m=true↔l=m
 |[],[]=>by simp[Qwp]
 |[],_::_=>by simp[Qwp]
 |_::_,[]=>by simp[Qwp]
 |(a,b)::xs,(c,d)::ys=>by simp[Qwp,V.eqb_iff,Qtz xs ys]
def O.eqb:O->O->Bool
 | .cells a,.cells b=>Qfk a b
 | .grow n,.grow m=>Nat.beq n m
 | .map a bs c,.map b ds d=>Qwp a b&&decide (bs=ds)&&Nat.beq c d
 | .iter m s l t,.iter m' s' l' t' =>decide (m=m')&&Nat.beq s s' &&decide (l=l')&&Nat.beq t t'
 | .loop a b c d t,.loop a' b' c' d' t' =>Nat.beq a a' &&decide (b=b')&&Nat.beq c c' &&Nat.beq d d' &&Qfk t t'
 | .siter l p,.siter l' p' =>decide (l=l')&&Nat.beq p p'
 | .mgrow a n,.mgrow b m=>Qfk a b&&Nat.beq n m
 | .dead,.dead=>true
 |_,_=>false
theorem O.eqb_iff:∀(a b:O),a.eqb b=true↔a=b:=by intro a b;cases a<;>cases b<;>simp[O.eqb,Qo8,Qtz,and_assoc]
def Qwx:Frame->Frame->Bool
 |[],[]=>true
 |(k,o)::r,(l,p)::s=>Nat.beq k l&&o.eqb p&&Qwx r s
 |_,_=>false
theorem Qvm:∀(a b:Frame),Qwx a b=true↔a=b
 |[],[]=>by simp[Qwx]
 |[],_::_=>by simp[Qwx]
 |_::_,[]=>by simp[Qwx]
 |(k,o)::xs,(l,p)::ys=>by simp[Qwx,O.eqb_iff,Qvm xs ys]
def Qsv:Qg->Qg->Bool
 |[],[]=>true
 |f::r,g::s=>Qwx f g&&Qsv r s
 |_,_=>false
theorem Qe7:∀(a b:Qg),Qsv a b=true↔a=b
 |[],[]=>by simp[Qsv]
 |[],_::_=>by simp[Qsv]
 |_::_,[]=>by simp[Qsv]
 |f::xs,g::ys=>by simp[Qsv,Qvm,Qe7 xs ys]
def Ex.eqb:Ex->Ex->Bool
 | .normal,.normal=>true
 | .exit i,.exit j=>Nat.beq i j
 | .ret,.ret=>true
 | .panic v,.panic w=>v.eqb w
 |_,_=>false
theorem Ex.eqb_iff:∀(a b:Ex),a.eqb b=true↔a=b:=by intro a b;cases a<;>cases b<;>simp[Ex.eqb,V.eqb_iff]
abbrev Out:=Option (Ex×List V×Qg)
def eqbO:Out->Out->Bool
 |none,none=>true
 |some (e,t,H),some (e',t',H')=>e.eqb e' &&Qfk t t' &&Qsv H H'
 |_,_=>false
theorem Qvq:∀(a b:Out),eqbO a b=true↔a=b:=by intro a b;rcases a with _|⟨e,t,H⟩<;>rcases b with _|⟨e',t',H'⟩<;>simp[eqbO,Ex.eqb_iff,Qo8,Qe7,and_assoc]
def Qek:List Out->Out
 |[]=>none
 |[x]=>x
 |x::y::r=>if eqbO x (Qek (y::r)) then x else none
theorem Q2d(x:Out):Qek [x]=x:=rfl
theorem Qih:∀{l:List Out} {r:Ex×List V×Qg},Qek l=some r->∀x∈l,x=some r
 |[],_,h=>by cases h
 |[x],r,h=>by
  intro y hy;rw[Zfx] at hy;subst hy;exact h
 |x::y::l,r,h=>by
  simp only[Qek] at h;split at h
  . rename_i he;rw[Qvq] at he;subst h;intro z hz;rcases Zfi.1 hz with rfl|hz
    . rfl
    . exact Qih he.symm z hz
  . cases h
theorem Qus{l:List Out}{r:Ex×List V×Qg}(h:Qek l=some r):l≠[]:=by rintro rfl;cases h
theorem Qfl:∀{l:List Out} {r:Ex×List V×Qg},l≠[]->(∀x∈l,x=some r)->Qek l=some r
 |[],_,h,_=>absurd rfl h
 |[x],r,_,h=>h x (by simp)
 |x::y::l,r,_,h=>by
  have h1:=Qfl (l:=y::l) (r:=r) (by simp) (fun z hz=>h z (Zfj _ hz));have h2:=h x (by simp);subst h2;simp only[Qek,h1];rw[if_pos ((Qvq _ _).2 rfl)]
theorem Qla{l:List Out}{r:Ex×List V×Qg}:Qek l=some r↔l≠[]/\∀x∈l,x=some r:=
 ⟨fun h=>⟨Qus h,Qih h⟩,fun h=>Qfl h.1 h.2⟩
abbrev Call:=Option FuncId->List V->Qg->Option (Rt×Qg)
def rho(t:List V):Operand->V
 | .tmp i=>t.getD i .bad
 | .const v=>Jw v
 | .global _=> .bad
 | .func f=> .func (.func f) [] []
def Z5(t:List V)(dst:Option Nat)(v:V):List V:=
 match dst with
 |some d=>t.set d v
 |none=>t
abbrev nov:V:= .tuple []
def Ba(ops:Array Oper)(t:List V)(o:Oper):Option Bool:=
 match o.guard with
 |none=>some true
 |some (j,want)=>match((ops[j]?).bind (·.dst)).bind (t[·]?) with
  |some (.bool b)=>some (b==want)
  |some (.tuple [])=>some false
  |_=>none
def frzL(f:V->Option V):List V->Option (List V)
 |[]=>some []
 |x::xs=>match f x,frzL f xs with
  |some y,some ys=>some (y::ys)
  |_,_=>none
def frz(g:Get):Nat->V->Option V
 |0,_=>none
 |n+1,v=>match v with
  | .mS f s o len cap esz=>(match g f s with
    |some (.cells xs)=>if o+len*esz<=xs.length then(frzL (frz g n) ((xs.drop o).take (len*esz))).map fun cs=> .iS cs len (cap==some len) else none
    |_=>none)
  | .gS _ _ cs len _=>(frzL (frz g n) cs).map fun cs=> .iS cs len false
  | .rptr cs o=>(frzL (frz g n) cs).map fun cs=> .iptr cs o
  | .mg f s len esz=>(match g f s with
    |some (.mgrow xs k)=>if k=len/\xs.length=len*esz then(frzL (frz g n) xs).map fun cs=> .iS cs len false else none
    |_=>none)
  | .mp _ _ _ _=>none
  | .ptr f s o=>(match g f s with
    |some (.cells xs)=>(frzL (frz g n) xs).map fun cs=> .iptr cs o
    |_=>none)
  | .map _ _=>none
  | .yield _ _=>none
  | .agg cs=>(frzL (frz g n) cs).map .agg
  | .tuple cs=>(frzL (frz g n) cs).map .tuple
  | .face t x=>(frz g n x).map (.face t)
  | .func fn a b=>(match frzL (frz g n) a,frzL (frz g n) b with
    |some a,some b=>some (.func fn a b)
    |_,_=>none)
  |v=>some v
def depth:Nat:=12
mutual
def V.refs(p:Nat->Nat->Bool):V->Bool
 | .ptr f s _| .mS f s _ _ _ _| .map f s| .yield f s| .mg f s _ _| .mp f s _ _=>p f s
 | .gS f s cs _ _=>p f s||Zv p cs
 | .rptr cs _=>Zv p cs
 | .func _ a b=>Zv p a||Zv p b
 | .face _ v=>v.refs p
 | .agg xs| .tuple xs=>Zv p xs
 |_=>false
def Zv(p:Nat->Nat->Bool):List V->Bool
 |[]=>false
 |x::xs=>x.refs p||Zv p xs
end
def Qfe(p:Nat->Nat->Bool):List (V×V)->Bool
 |[]=>false
 |(k,x)::r=>k.refs p||x.refs p||Qfe p r
def O.refs(p:Nat->Nat->Bool):O->Bool
 | .cells xs=>Zv p xs
 | .map es _ _=>Qfe p es
 | .iter (some m) _ _ _=>p m.1 m.2
 | .loop _ _ _ _ t=>Zv p t
 | .mgrow xs _=>Zv p xs
 |_=>false
def Jt(p:Nat->Nat->Bool):Frame->Bool
 |[]=>true
 |(_,o)::r=>!o.refs p&&Jt p r
def Jj(p:Nat->Nat->Bool):Qg->Bool
 |[]=>true
 |fr::r=>Jt p fr&&Jj p r
def Xq(p:Nat->Bool):Frame->Frame
 |[]=>[]
 |(k,o)::r=>if p k then Xq p r else(k,o)::Xq p r
def Qb0(pol:Pol)(fn f:FuncId)(args:List V):Option (List V):=if pol.thin fn f then frzL (frz (fun _ _=>none) depth) args else some args
def frzN(g:Get):Nat->V->Option V
 |0,_=>none
 |n+1,v=>match v with
  | .mS f s o len cap esz=>(match g f s with
    |some (.cells xs)=>if o+len*esz<=xs.length then(frzL (frzN g n) ((xs.drop o).take (len*esz))).map fun cs=> .iS cs len (cap==some len) else none
    |_=>none)
  | .ptr f s o=>(match g f s with
    |some (.cells xs)=>(frzL (frzN g n) xs).map fun cs=> .iptr cs o
    |_=>none)
  | .gS f s cs len _=>(match g f s with
    |some (.grow k)=>if k=len then(frzL (frzN g n) cs).map fun cs=> .iS cs len false else none
    |_=>none)
  | .mg f s len esz=>(match g f s with
    |some (.mgrow xs k)=>if k=len/\xs.length=len*esz then(frzL (frzN g n) xs).map fun cs=> .iS cs len false else none
    |_=>none)
  | .agg cs=>(frzL (frzN g n) cs).map .agg
  | .tuple cs=>(frzL (frzN g n) cs).map .tuple
  | .face t x=>(frzN g n x).map (.face t)
  | .bool b=>some (.bool b)
  | .int k m=>some (.int k m)
  | .str s=>some (.str s)
  | .nP=>some .nP
  | .nS=>some .nS
  | .nM=>some .nM
  | .nF=>some .nF
  | .nI=>some .nI
  | .byte=>some .byte
  |_=>none
def Qls(f:V->Option V):List (V×V)->Option (List (V×V))
 |[]=>some []
 |(k,x)::r=>match f k,f x,Qls f r with
  |some k,some x,some r=>some ((k,x)::r)
  |_,_,_=>none
def Qes(H' :Qg)(fr:Nat)(dst:Option Nat)(H:Qg)(v:V):Option (V×Nat×O):=
 match v,dst with
 | .map f s,some d=>(match Qd H fr d,Qd H' f s with
   |none,some (.map es bs clk)=>(Qls (frz (Qd H') depth) es).map fun es=>(.map fr d,d,.map es bs clk)
   |_,_=>none)
 | .mS f s o len cap esz,some d=>(match Qd H fr d,Qd H' f s with
   |none,some (.cells xs)=>if Zt xs=true then some (.mS fr d o len cap esz,d,.cells xs) else none
   |_,_=>none)
 | .gS f s cs len esz,some d=>(match Qd H fr d,Qd H' f s with
   |none,some (.grow n)=>if n=len/\Zt cs=true then some (.gS fr d cs len esz,d,.grow n) else none
   |_,_=>none)
 | .nS,some d=>(match Qd H fr d with
   |none=>some (.nS,d,.dead)
   |_=>none)
 |_,_=>none
section
variable (P : Program) (pol : Pol) (C : Call) (fn fr : Nat)
def Bq(keep:List Nat):List V->Nat->List V
 |[],_=>[]
 |x::xs,i=>(if keep.contains i then x else .bad)::Bq keep xs (i+1)
def forgetK(r:Nat)(t:List V)(H:Qg):Option (List V×Qg):=
 match pol.keep fn r with
 |none=>some (t,H)
 |some (kt,ds)=>
  if Zv (fun f s=>f==fr&&ds.contains s) (Bq kt t 0) then none
  else if Jj (fun f s=>f==fr&&ds.contains s) (H.modify fr (Xq fun s=>ds.contains s)) then some (Bq kt t 0,H.modify fr (Xq fun s=>ds.contains s))
  else none
def Qk9(fr a b:Nat):V->V
 | .gS f s cs n e=>if f=fr/\s=a then .gS fr b cs n e else .gS f s cs n e
 |x=>x
abbrev Ko(fr s:Nat):Nat->Nat->Bool:=fun f s' =>f==fr&&[s].contains s'
def dropOne(fr s:Nat)(t:List V)(H:Qg):Option Qg:=
 if Zv (Ko fr s) t then some H
 else if Jj (Ko fr s) (H.modify fr (Xq fun x=>[s].contains x)) then some (H.modify fr (Xq fun x=>[s].contains x)) else none
def dropAll(fr:Nat)(t:List V):List Nat->Qg->Option Qg
 |[],H=>some H
 |s::r,H=>match dropOne fr s t H with
  |some H=>dropAll fr t r H
  |none=>none
def moveOne(fr a b:Nat)(t:List V)(H:Qg):Option (List V×Qg):=
 match Qd H fr a,Qd H fr b with
 |some (.grow n),none=>
  if Zv (Ko fr a) (t.map (Qk9 fr a b)) then none
  else if Jj (Ko fr a) (H.modify fr (Xq fun x=>[a].contains x)) then some (t.map (Qk9 fr a b),Qs (H.modify fr (Xq fun x=>[a].contains x)) fr b (.grow n))
  else none
 |_,_=>some (t,H)
def moveAll(fr b:Nat):List Nat->List V->Qg->Option (List V×Qg)
 |[],t,H=>some (t,H)
 |a::r,t,H=>match moveOne fr a b t H with
  |some (t,H)=>moveAll fr b r t H
  |none=>none
def forget(r:Nat)(t:List V)(H:Qg):Option (List V×Qg):=
 match forgetK pol fn fr r t H with
 |none=>none
 |some (t,H)=>(match pol.move fn r with
  |none=>some (t,H)
  |some (ds,c)=>(match dropAll fr t (c::ds) H with
   |none=>none
   |some H=>moveAll fr c ds t H))
def Qgp(b:Bool)(H:Qg)(X:Option (Rt×Qg)):Option (Rt×Qg):=if b then(match X with
 |some (.ret v,H')=>if Qsv H' H=true then some (.ret v,H') else none
 |_=>none) else X
def Pol.pureA(pol:Pol)(fn f:FuncId)(d:Option Nat):Bool:=pol.pure fn f||pol.alone fn d
theorem Pol.pureA_t{pol:Pol}{fn f:FuncId}(h:pol.pure fn f=true)(d:Option Nat):pol.pureA fn f d=true:=by unfold Pol.pureA;rw[h];rfl
theorem Pol.pureA_a{pol:Pol}{fn:FuncId}{d:Option Nat}(h:pol.alone fn d=true)(f:FuncId):pol.pureA fn f d=true:=by unfold Pol.pureA;rw[h,Bool.or_true]
theorem Pol.pureA_f{pol:Pol}{fn f:FuncId}{d:Option Nat}(h:pol.pure fn f=false)(h2:pol.alone fn d=false):pol.pureA fn f d=false:=by unfold Pol.pureA;rw[h,h2];rfl
def Qua:Option O->Option O->Bool
 |none,none=>true
 |some a,some b=>a.eqb b
 |_,_=>false
theorem Qc4:∀a b:Option O,Qua a b=true↔a=b
 |none,none=>by simp[Qua]
 |none,some _=>by simp[Qua]
 |some _,none=>by simp[Qua]
 |some a,some b=>by simp[Qua,O.eqb_iff]
def Qmw(news:Nat->Option (List V))(X:Qg->Option (Rt×Qg))(H:Qg)(v:V)(H1:Qg):Option Nat->Bool
 |none=>true
 |some d=>Nat.ble (fr+1) H.length&&Nat.ble (fr+1) H1.length&&Qua (Qd H fr d) (Qd H1 fr d)&&(match Qd H fr d,news d with
  |none,some cs=>(match X (Qs H fr d (.cells cs)) with
   |some (.ret v',H2)=>v'.eqb v&&Qsv H2 (Qs H1 fr d (.cells cs))
   |_=>false)
  |_,_=>true)
def Qgo(s:Option (List Nat×Option Nat))(news:Nat->Option (List V))(X:Qg->Option (Rt×Qg))(H:Qg):Option (Rt×Qg):=
 match s with
 |none=>X H
 |some (ks,x)=>(match X H with
  |some (.ret v,H1)=>if(ks.all fun k=>Qua (Qd H fr k) (Qd H1 fr k))&&Qmw fr news X H v H1 x then some (.ret v,H1) else none
  |_=>none)
def Zn(dst:Option Nat)(f:FuncId)(args:List V)(H:Qg):Option (Rt×Qg):=
 match pol.prim f with
 |some g=>(g fr dst (Qd H) args).map fun x=>(.ret x.1,wr H x.2)
 |none=>
  if pol.pureA fn f dst then
   match frzL (frz (fun _ _=>none) depth) args with
   |some args=>(match C f args [] with
    |some (.ret v,H')=>(frz (Qd H') depth v).map fun v=>(.ret v,H)
    |some (.pan v,H')=>(frz (Qd H') depth v).map fun v=>(.pan v,H)
    |none=>none)
   |none=>none
  else if pol.lift fn f then
   match frzL (frz (fun _ _=>none) depth) args with
   |some args=>(match C f args [] with
    |some (.ret v,H')=>(Qes H' fr dst H v).map fun x=>(.ret x.1,wr H (some (fr,x.2.1,x.2.2)))
    |_=>none)
   |none=>none
  else if pol.look fn f then
   match frzL (frz (Qd H) depth) args with
   |some args=>(match C f args [] with
    |some (.ret v,H')=>(frzN (Qd H') depth v).map fun v=>(.ret v,H)
    |_=>none)
   |none=>none
  else(match Qb0 pol fn f args with
   |some args=>Qgo fr (pol.side fn f) (pol.news fn) (fun H=>Qgp (pol.peek fn f) H (C f args H)) H
   |none=>none)
theorem Qf2{b:Bool}{H:Qg}{X:Option (Rt×Qg)}{r:Rt×Qg}(h:Qgp b H X=some r):X=some r:=by
 unfold Qgp at h;split at h
 . split at h
   . split at h
     . exact h
     . cases h
   . cases h
 . exact h
theorem Qyt{H:Qg}{X:Option (Rt×Qg)}{r:Rt×Qg}(h:Qgp true H X=some r):r.2=H:=by
 unfold Qgp at h;rw[if_pos rfl] at h;split at h
 . split at h
   . rename_i he;cases h;exact(Qe7 _ _).1 he
   . cases h
 . cases h
theorem Qhz{ks:List Nat}{x:Option Nat}{n:Nat->Option (List V)}{X:Qg->Option (Rt×Qg)}{H:Qg}{r:Rt×Qg}(h:Qgo fr (some (ks,x)) n X H=some r):
 ∃v,r.1= .ret v/\X H=some r/\(∀k∈ks,Qd r.2 fr k=Qd H fr k)/\Qmw fr n X H v r.2 x=true:=by
 unfold Qgo at h;simp only at h;split at h
 . rename_i v H1 he;split at h
   . rename_i hc;cases h;simp only[Zfr,Zf1] at hc;exact⟨v,rfl,he,fun k hk=>((Qc4 _ _).1 (hc.1 k hk)).symm,hc.2⟩
   . cases h
 . cases h
theorem Qi5{s:Option (List Nat×Option Nat)}{n:Nat->Option (List V)}{X:Qg->Option (Rt×Qg)}{H:Qg}{r:Rt×Qg}(h:Qgo fr s n X H=some r):X H=some r:=by
 cases s with
 |none=>exact h
 |some y=>obtain⟨ks,x⟩:=y;obtain⟨_,_,h,_⟩:=Qhz fr h;exact h
theorem Qlb{n:Nat->Option (List V)}{X:Qg->Option (Rt×Qg)}{H H1:Qg}{v:V}{d:Nat}(h:Qmw fr n X H v H1 (some d)=true):
 (fr<H.length/\fr<H1.length/\Qd H1 fr d=Qd H fr d)/\∀cs,Qd H fr d=none->n d=some cs->X (Qs H fr d (.cells cs))=some (.ret v,Qs H1 fr d (.cells cs)):=by
 unfold Qmw at h;simp only[Zfr] at h;refine⟨⟨Zhs h.1.1.1,Zhs h.1.1.2,((Qc4 _ _).1 h.1.2).symm⟩,fun cs h1 h2=>?_⟩;have h3:=h.2;rw[h1,h2] at h3;simp only at h3;split at h3
 . rename_i v' H2 he;simp only[Zfr] at h3;rw[he,(V.eqb_iff _ _).1 h3.1,(Qe7 _ _).1 h3.2]
 . cases h3
theorem Qxf{s:Option (List Nat×Option Nat)}{n:Nat->Option (List V)}{X X' :Qg->Option (Rt×Qg)}(hX:∀H r,X H=some r->X' H=some r){H:Qg}{r:Rt×Qg}(h:Qgo fr s n X H=some r):Qgo fr s n X' H=some r:=by
 cases s with
 |none=>exact hX _ _ h
 |some y=>
  obtain⟨ks,x⟩:=y;obtain⟨v,h1,h2,h3,h4⟩:=Qhz fr h;obtain⟨q,H1⟩:=r;simp only at h1 h3 h4;subst h1;have e:Qmw fr n X' H v H1 x=true:=by
   cases x with
   |none=>rfl
   |some d=>
    obtain⟨⟨l1,l2,g1⟩,g2⟩:=Qlb fr h4;unfold Qmw;simp only[Zfr];refine⟨⟨⟨Zhp l1,Zhp l2⟩,(Qc4 _ _).2 g1.symm⟩,?_⟩;split
    . rename_i cs k1 k2;rw[hX _ _ (g2 cs k1 k2)];simp only[Zfr];exact⟨(V.eqb_iff _ _).2 rfl,(Qe7 _ _).2 rfl⟩
    . rfl
  unfold Qgo;simp only[hX _ _ h2,e,Bool.and_true];rw[if_pos];simp only[Zf1];exact fun k hk=>(Qc4 _ _).2 (h3 k hk).symm
theorem Qfh{ks:List Nat}{x:Option Nat}{n:Nat->Option (List V)}{X:Qg->Option (Rt×Qg)}{H H1:Qg}{v:V}(h:X H=some (.ret v,H1))(hk:∀k∈ks,Qd H1 fr k=Qd H fr k)
 (hx:∀d,x=some d->(fr<H.length/\fr<H1.length/\Qd H1 fr d=Qd H fr d)/\∀cs,Qd H fr d=none->n d=some cs->X (Qs H fr d (.cells cs))=some (.ret v,Qs H1 fr d (.cells cs))):Qgo fr (some (ks,x)) n X H=some (.ret v,H1):=by
 have e:Qmw fr n X H v H1 x=true:=by
  cases x with
  |none=>rfl
  |some d=>
   obtain⟨⟨l1,l2,g1⟩,g2⟩:=hx d rfl;unfold Qmw;simp only[Zfr];refine⟨⟨⟨Zhp l1,Zhp l2⟩,(Qc4 _ _).2 g1.symm⟩,?_⟩;split
   . rename_i cs k1 k2;rw[g2 cs k1 k2];simp only[Zfr];exact⟨(V.eqb_iff _ _).2 rfl,(Qe7 _ _).2 rfl⟩
   . rfl
 unfold Qgo;simp only[h,e,Bool.and_true];rw[if_pos];simp only[Zf1];exact fun k h9=>(Qc4 _ _).2 (hk k h9).symm
def J5(t:List V)(H:Qg)(o:Oper):Option (Ex×List V×Qg):=
 match K0 P (pol.mt fn) fr (Qd H) (rho t) o with
 |none=>none
 |some (.val v w)=>some (.normal,Z5 t o.dst v,wr H w)
 |some (.panic v)=>some (.panic v,t,H)
 |some (.call f args)=>(match Zn pol C fn fr o.dst f args H with
  |some (.ret v,H')=>some (.normal,Z5 t o.dst v,H')
  |some (.pan v,H')=>some (.panic v,t,H')
  |none=>none)
 |some (.round f s args)=>(match C none (.yield f s::args) H with
  |some (.ret v,H')=>some (.normal,Z5 t o.dst v,H')
  |_=>none)
def Yr(ops:Array Oper):List Oper->List V->Qg->Option (Ex×List V×Qg)
 |[],t,H=>some (.normal,t,H)
 |o::r,t,H=>match Ba ops t o with
  |none=>none
  |some false=>Yr ops r (Z5 t o.dst nov) H
  |some true=>(match J5 P pol C fn fr t H o with
   |some (.normal,t,H)=>Yr ops r t H
   |x=>x)
abbrev Yu:=List V->Qg->List Out
def after(k:List V->Qg->Out):Out->Out
 |some (.normal,t,H)=>k t H
 |r=>r
def Kp(body:Yu):Nat->List V->Qg->Out
 |0,_,_=>none
 |n+1,t,H=>Qek ((body t H).map (after (Kp body n)))
def Qc5(seen:List Nat):List (V×V)->List Nat->List ((V×V)×Nat)
 |e::es,b::bs=>if seen.contains b then Qc5 seen es bs else(e,b)::Qc5 seen es bs
 |_,_=>[]
def Qbh(g:Get)(x:V):Option (List (V×Option (Nat×Nat×O))):=
 match x with
 | .ptr f s 0=>(match g f s with
   |some (.iter none _ _ _)=>some [(.tuple [.bool false],some (f,s,.dead))]
   |some (.iter (some m) since seen stepped)=>(match g m.1 m.2 with
    |some (.map es bs clk)=>if bs.all (fun b=>decide (b<since))&&decide (since<=stepped) then
      (match Qc5 seen es bs with
      |[]=>some [(.tuple [.bool false],some (f,s,.dead))]
      |l=>some (l.map fun e=>(.tuple [.bool true,e.1.1,e.1.2],some (f,s,.iter (some m) since (seen++[e.2]) clk))))
     else none
    |_=>none)
   |_=>none)
 |_=>none
def Ki:Code->Option Operand
 | .region _ ops false=>(match ops.toList with
   |o::_=>(match o.guard,o.op with
    |none,.next x false=>some x
    |_,_=>none)
   |[]=>none)
 | .seq a _=>Ki a
 |_=>none
def Jl:Code->Nat
 | .region id _ _=>id
 | .seq a _=>Jl a
 | .cond _ a _=>Jl a
 | .block _ b=>Jl b
 | .loop b=>Jl b
 | .scope b=>Jl b
 |_=>0
end
def V.id?:V->Option (Nat×Nat)
 | .ptr f s _| .gS f s _ _ _| .mS f s _ _ _ _| .map f s| .yield f s| .mg f s _ _| .mp f s _ _=>some (f,s)
 |_=>none
def J9:Op->Bool
 | .move _| .assign _| .pick _ _ _| .build _ _| .nilCheck _| .binOp _ _ _ _ _| .unOp _ _ _| .makeInterface _ _| .makeFunc _ _ _| .fieldAddr _ _ _| .field _ _ _
 | .indexAddr _ _ _| .index _ _ _| .extract _ _| .typeAssert _ _ _ _| .sliceToArrayPointer _ _=>true
 |_=>false
def Qjz:Op->Bool
 | .entry _=>true
 |_=>false
def Xr(fr:Nat)(ρ:Operand->V)(o:Oper):List (Nat×Nat):=
 (match o.dst with|some d=>[(fr,d)]|none=>[])++o.op.operands.toList.filterMap fun x=>(ρ x).id?
inductive FP where
 |quiet
 |ids(r w:List (Nat×Nat))
 |peek
 |side(ks:List (Nat×Nat))(x:Option (Nat×Nat))
 |fresh(y:Nat×Nat)
 |all
 deriving DecidableEq,Inhabited
def Qiz(a b:List (Nat×Nat)):Bool:=a.any fun x=>b.contains x
def FP.indep:FP->FP->Bool
 | .quiet,_|_,.quiet=>true
 | .ids r w,.ids r' w' =>!Qiz w r' &&!Qiz w w' &&!Qiz w' r
 | .peek,.peek=>true
 | .peek,.ids _ w| .ids _ w,.peek=>w.isEmpty
 | .side ks _,.ids r w| .ids r w,.side ks _=>w.isEmpty&&r.all fun x=>ks.contains x
 | .side _ x,.fresh y=>decide (x=some y)
 | .ids r w,.fresh y| .fresh y,.ids r w=>!Qiz w [y]&&!Qiz [y] r
 |_,_=>false
section
variable (P : Program) (pol : Pol) (C : Call) (fn fr : Nat)
def fpW(ids:List (Nat×Nat))(H:Qg)(f s:Nat)(q:O):FP:=
 match pol.news fn s with
 |none=> .ids ids [(f,s)]
 |some cs=>if Qua (Qd H fr s) none&&ids.contains (fr,s)&&(ids.all fun x=>decide (x=(fr,s)))&&Nat.beq f fr&&q.eqb (.cells cs) then .fresh (fr,s) else .ids ids [(f,s)]
theorem Q0y{ids:List (Nat×Nat)}{H H' :Qg}{f s:Nat}{q:O}(h:∀f s,(f,s)∈ids->Qd H' f s=Qd H f s):fpW pol fn fr ids H' f s q=fpW pol fn fr ids H f s q:=by
 unfold fpW;split
 . rfl
 . by_cases hm:(fr,s)∈ids
   . rw[h fr s hm]
   . have:ids.contains (fr,s)=false:=by simpa using hm
     simp only[this,Bool.and_false,Zg4,Ze7,if_false]
def Qgt(f:FuncId):FP:=
 if(pol.prim f).isNone&&!pol.look fn f then(match pol.side fn f with
  |some (ks,x)=> .side (ks.map fun k=>(fr,k)) (x.map fun d=>(fr,d))
  |none=> .all) else .all
def Bl(t:List V)(H:Qg)(o:Oper):FP:=
 if J9 o.op then .quiet else if Qjz o.op then .all else
 match K0 P (pol.mt fn) fr (Qd H) (rho t) o with
 |some (.val _ none)=> .ids (Xr fr (rho t) o) []
 |some (.val _ (some (f,s,q)))=>fpW pol fn fr (Xr fr (rho t) o) H f s q
 |some (.call f _)=>if(pol.prim f).isNone&&pol.pureA fn f o.dst then .quiet else if(pol.prim f).isNone&&pol.lift fn f then(match o.dst with
  |some d=> .ids (Xr fr (rho t) o) [(fr,d)]
  |none=> .all) else if(pol.prim f).isNone&&(pol.look fn f||pol.peek fn f) then .peek else Qgt pol fn fr f
 |_=> .all
def Jc(ops:Array Oper):List Oper->List V->Qg->Option (List V×Qg×List FP)
 |[],t,H=>some (t,H,[])
 |o::r,t,H=>match Ba ops t o with
  |none=>none
  |some false=>(match Jc ops r (Z5 t o.dst nov) H with
   |some (t',H',T)=>some (t',H',.quiet::T)
   |none=>none)
  |some true=>(match J5 P pol C fn fr t H o with
   |some (.normal,t1,H1)=>(match Jc ops r t1 H1 with
    |some (t',H',T)=>some (t',H',Bl P pol fn fr t H o::T)
    |none=>none)
   |_=>none)
end
def okT(bef:Array Nat):List (FP×Nat)->Bool
 |[]=>true
 |(a,i)::r=>r.all (fun(b,j)=>(bef.getD j 0).testBit i||a.indep b)&&okT bef r
def FP.loud:FP->Bool
 | .quiet=>false
 |_=>true
def loud(T:List FP):List (FP×Nat):=T.zipIdx.filter fun x=>x.1.loud
abbrev Qas:=List V->Qg->Out
def Jy(a b:Code):Nat:=if Jl a=0 then Jl b else Jl a
def Jv(rid:Nat):Code->Option (Array Tmp×Code×Code)
 | .seq a b| .cond _ a b=>(match Jv rid a with
   |some x=>some x
   |none=>Jv rid b)
 | .block _ b| .loop b| .scope b=>Jv rid b
 | .rangeFunc _ ps a b=>if Jy a b=rid then some (ps,a,b) else(match Jv rid a with
   |some x=>some x
   |none=>Jv rid b)
 |_=>none
def Ys:Code->List Nat
 | .seq a b| .cond _ a b=>Ys a++Ys b
 | .block _ b| .loop b| .scope b=>Ys b
 | .rangeFunc _ _ a b=>Jy a b::(Ys a++Ys b)
 |_=>[]
def Km(P:Program)(fn:FuncId)(rid:Nat):Option (Array Tmp×Code×Code):=
 match P.funcs[fn]? with
 |some F=>(match F.body with
  |some c=>Jv rid c
  |none=>none)
 |none=>none
def Jk(rid:Nat):Nat:=1000000+rid
def Qeo:List V->List (Tmp×V)->List V
 |t,[]=>t
 |t,p::r=>Qeo (t.set p.1 p.2) r
def Qni(fr s:Nat)(t:List V)(H:Qg):Out:=
 match Qd H fr s with
 |some (.loop st pend _ _ _)=>if st=1 then none else
  if Zv (Ko fr s) t then none else if Jj (Ko fr s) (H.modify fr (Xq fun x=>[s].contains x)) then
   (match pend with
   |none=>some (.normal,t,H.modify fr (Xq fun x=>[s].contains x))
   |some none=>some (.ret,t,H.modify fr (Xq fun x=>[s].contains x))
   |some (some i)=>some (.exit i,t,H.modify fr (Xq fun x=>[s].contains x)))
  else none
 |_=>none
section
variable (P : Program) (pol : Pol) (C : Call) (L : Yu -> Qas) (fn fr : Nat)
mutual
def Jh:Code->Qas
 | .skip=>fun t H=>some (.normal,t,H)
 | .region _ ops draw=>fun t H=>if draw then(match Jc P pol C fn fr ops ops.toList t H with
    |some (t',H',T)=>if okT (Region.before ops) (loud T) then some (.normal,t',H') else none
    |none=>none) else Yr P pol C fn fr ops ops.toList t H
 | .seq a b=>fun t H=>(match Jh a t H with
   |some (.normal,t,H)=>Jh b t H
   |r=>r)
 | .cond c x y=>fun t H=>(match rho t c with
   | .bool b=>if b then Jh x t H else Jh y t H
   |_=>none)
 | .block id b=>fun t H=>(match Jh b t H with
   |some (.exit i,t,H)=>if i=id then some (.normal,t,H) else some (.exit i,t,H)
   |r=>r)
 | .loop b=>fun t H=>L (fun t H=>match forget pol fn fr (Jl b) t H with
   |some (t,H)=>(match Ki b with
    |none=>[Jh b t H]
    |some x=>(match Qbh (Qd H) (rho t x) with
     |some cs=>cs.map fun c=>J7 b c.1 c.2 t H
     |none=>[none]))
   |none=>[none]) t H
 | .exit id=>fun t H=>some (.exit id,t,H)
 | .ret=>fun t H=>some (.ret,t,H)
 | .rangeFunc g _ a b=>fun t H=>(match rho t g with
   | .func (.func f) first cap=>(match Qd H fr (Jk (Jy a b)) with
     |none=>(match C f (first++[.yield fr (Jk (Jy a b))]++cap) (Qs H fr (Jk (Jy a b)) (.loop 0 none fn (Jy a b) t)) with
      |some (.ret _,H2)=>Qni fr (Jk (Jy a b)) t H2
      |_=>none)
     |some _=>none)
   |_=>none)
 |_=>fun _ _=>none
def J7:Code->V->Option (Nat×Nat×O)->Qas
 | .region _ ops _=>fun v w t H=>(match ops.toList with
   |o::r=>Yr P pol C fn fr ops r (Z5 t o.dst v) (wr H w)
   |[]=>none)
 | .seq a b=>fun v w t H=>(match J7 a v w t H with
   |some (.normal,t,H)=>Jh b t H
   |r=>r)
 |_=>fun _ _ _ _=>none
end
def Qlq(t:List V)(H:Qg):ResultVar->Option V
 | .tmp i=>some (t.getD i .bad)
 | .cell a T=>(match t.getD a .bad with
   | .ptr f s o=>(match Qd H f s with
     |some (.cells xs)=>Zf P T xs o
     |_=>none)
   |_=>none)
def Qys(t:List V)(H:Qg):List ResultVar->Option (List V)
 |[]=>some []
 |r::rs=>match Qlq P t H r,Qys t H rs with
  |some v,some vs=>some (v::vs)
  |_,_=>none
def Qil(f:Func)(t:List V)(H:Qg):Option V:=
 match Qys P t H f.results.toList with
 |some [v]=>some v
 |some vs=>some (.tuple vs)
 |none=>none
def Yb(b:Nat)(v:V)(H:Qg):Qg:=
 if !v.refs (fun f _=>Nat.ble b f)&&Jj (fun f _=>Nat.ble b f) (H.take b) then H.take b else H
def Qfx(t:List V)(H:Qg)(k:Nat):Option Qg:=
 match t.getD k .bad with
 | .ptr f s o=>(match Qd H f s with
   |some (.cells xs)=>(match xs[o]? with
    |some (.mS f1 s1 o1 len cap esz)=>(match Qd H f1 s1 with
     |some (.cells ys)=>if o1+len*esz<=ys.length/\Zt ys=true/\¬(f=f1/\s=s1) then
       some (Qs (Qs H f1 s1 .dead) f s (.cells (xs.set o (.iS ((ys.drop o1).take (len*esz)) len (cap==some len))))) else none
     |_=>none)
    |some _=>some H
    |none=>none)
   |_=>none)
 | .tuple []=>some H
 | .bad=>some H
 |_=>none
def Bc:List Nat->List V->Qg->Option Qg
 |[],_,H=>some H
 |k::ks,t,H=>match Qfx t H k with
  |some H=>Bc ks t H
  |none=>none
def Qbl(ks:List Nat):Out->Out
 |some (.normal,t,H)=>(Bc ks t H).map fun H=>(.normal,t,H)
 |some (.ret,t,H)=>(Bc ks t H).map fun H=>(.ret,t,H)
 |r=>r
theorem Qt3(x:Out):Qbl [] x=x:=by
 rcases x with _|⟨e,t,H⟩
 . rfl
 . cases e<;>rfl
def Qks(fo so b:Nat)(e:Ex)(H:Qg):Option (Rt×Qg):=
 match Qd H fo so with
 |some (.loop _ _ fL rid t0)=>(match e with
  | .normal=>some (.ret (.bool true),Yb b (.bool true) (Qs H fo so (.loop 0 none fL rid t0)))
  | .ret=>some (.ret (.bool false),Yb b (.bool false) (Qs H fo so (.loop 2 (some none) fL rid t0)))
  | .exit i=>some (.ret (.bool false),Yb b (.bool false) (Qs H fo so (.loop 2 (some (some i)) fL rid t0)))
  | .panic _=>none)
 |_=>none
def Qmm(fo so:Nat)(args:List V)(H:Qg):Option (Rt×Qg):=
 match Qd H fo so with
 |some (.loop 0 _ fL rid t0)=>(match Km P fL rid with
  |some (ps,a,b)=>if args.length=ps.size then
    (match Jh P pol C L fL H.length a (Qeo t0 (ps.toList.zip args)) (H++[[]]) with
    |some (.normal,t1,H1)=>(match Qd H1 fo so with
     |some (.loop 0 pend fL' rid' t0')=>(match Jh P pol C L fL H.length b t1 (Qs H1 fo so (.loop 1 pend fL' rid' t0')) with
      |some (e,_,H2)=>Qks fo so H.length e H2
      |none=>none)
     |_=>none)
    |_=>none) else none
  |none=>none)
 |_=>none
def Qhc(f:FuncId)(args:List V)(H:Qg):Option (Rt×Qg):=
 match P.funcs[f]? with
 |some F=>(match F.body with
  |some c=>(match Qbl (pol.settle f) (Jh P pol C L f H.length c (args++List.replicate (F.ntmps-args.length) .bad) (H++[[]])) with
   |some (.normal,t,H')|some (.ret,t,H')=>(match Qil P F t H' with
    |some v=>some (.ret v,Yb H.length v H')
    |none=>none)
   |some (.panic v,_,H')=>some (.pan v,Yb H.length v H')
   |_=>none)
  |none=>none)
 |none=>none
def Qiw(f:Option FuncId)(args:List V)(H:Qg):Option (Rt×Qg):=
 match f with
 |some f=>Qhc P pol C L f args H
 |none=>(match args with
  | .yield fo so::rest=>Qmm P pol C L fo so rest H
  |_=>none)
end
def Xa(P:Program)(pol:Pol):Nat->Call
 |0=>fun _ _ _=>none
 |n+1=>Qiw P pol (Xa P pol n) (fun b=>Kp b n)
end Go.AM
end
section
namespace Go.AM
variable {P : Program} {E : Env} {B : Nat} {F : Nat -> Nat -> Prop} {H : Qg}
def bare(T:FuncId->Nat->Option (Array Tmp×Code×Code))(w:World)(F:Nat->Nat->Prop):Env:={w:=w,mu:=fun _ _=>none,reg:=fun _ _=>none,mod:=F,tab:=T}
theorem Row.bare{b off:Nat}{vs:List Value}(h:Row E b off vs)(hF:∀b i,F b i->E.mod b i):Row (bare E.tab E.w F) b off vs:=
 fun i v hv=>⟨(h i v hv).1,fun hm=>(h i v hv).2 (hF _ _ hm)⟩
mutual
theorem Rel.bare(hF:∀b i,F b i->E.mod b i):∀(x:V) (v:Value),x.pure=true->Rel E x v->Rel (bare E.tab E.w F) x v
 | .bad,_,_,_=>by simp[Rel]
 | .bool _,_,_,r| .int _ _,_,_,r| .str _,_,_,r| .nP,_,_,r| .nS,_,_,r| .nM,_,_,r| .nF,_,_,r| .nI,_,_,r| .byte,_,_,r=>by
   simpa only[Rel] using r
 | .ptr f s o,_,p,_=>by simp[V.pure] at p
 | .iptr cells o,_,_,r=>by
   simp only[Rel] at r⊢;obtain⟨b,off,vs,rfl,hr,hl,hp⟩:=r;exact⟨b,off,vs,rfl,hr.bare hF,Qr.bare hF cells vs hp hl,hp⟩
 | .iS cells len full,_,_,r=>by
   simp only[Rel] at r⊢;obtain⟨a,cap,vs,rfl,h1,h2,hr,hl,hp⟩:=r;exact⟨a,cap,vs,rfl,h1,h2,hr.imp id (fun⟨a,b⟩=>⟨a,b.bare hF⟩),Qr.bare hF cells vs hp hl,hp⟩
 | .gS f s cells len esz,_,p,_=>by simp[V.pure] at p
 | .rptr _ _,_,p,_=>by simp[V.pure] at p
 | .mS f s o len cap esz,_,p,_=>by simp[V.pure] at p
 | .map f s,_,p,_=>by simp[V.pure] at p
 | .yield f s,_,p,_=>by simp[V.pure] at p
 | .func fn first captured,_,p,r=>by
   simp only[Rel] at r⊢;simp only[V.pure,Zfr] at p;obtain⟨fs,cs,rfl,h1,h2⟩:=r;exact⟨fs,cs,rfl,Qr.bare hF first fs p.1 h1,Qr.bare hF captured cs p.2 h2⟩
 | .face t x,_,p,r=>by
   simp only[Rel] at r⊢;simp only[V.pure] at p;obtain⟨c,rfl,hc⟩:=r;exact⟨c,rfl,Rel.bare hF x c p hc⟩
 | .agg cells,_,p,r=>by
   simp only[Rel] at r⊢;simp only[V.pure] at p;obtain⟨vs,rfl,hl⟩:=r;exact⟨vs,rfl,Qr.bare hF cells vs p hl⟩
 | .tuple cells,_,p,r=>by
   simp only[Rel] at r⊢;simp only[V.pure] at p;obtain⟨vs,rfl,hl⟩:=r;exact⟨vs,rfl,Qr.bare hF cells vs p hl⟩
theorem Qr.bare(hF:∀b i,F b i->E.mod b i):∀(xs:List V) (vs:List Value),Zt xs=true->Qr E xs vs->Qr (bare E.tab E.w F) xs vs
 |[],_,_,r=>r
 |x::xs,_,p,r=>by
  simp only[Zt,Zfr] at p;obtain⟨v,r',rfl,hv,hr⟩:=Qr.cons_iff.1 r;exact .cons (Rel.bare hF x v p.1 hv) (Qr.bare hF xs r' p.2 hr)
end
mutual
theorem Rel.dress{E' :Env}(hw:E'.w=E.w)(hm:E'.mod=E.mod):∀(x:V) (v:Value),x.pure=true->Rel E x v->Rel E' x v
 | .bad,_,_,_=>by simp[Rel]
 | .bool _,_,_,r| .int _ _,_,_,r| .str _,_,_,r| .nP,_,_,r| .nS,_,_,r| .nM,_,_,r| .nF,_,_,r| .nI,_,_,r| .byte,_,_,r=>by
   simpa only[Rel] using r
 | .ptr f s o,_,p,_=>by simp[V.pure] at p
 | .iptr cells o,_,_,r=>by
   simp only[Rel] at r⊢;obtain⟨b,off,vs,rfl,hr,hl,hp⟩:=r;refine⟨b,off,vs,rfl,?_,Qr.dress hw hm cells vs hp hl,hp⟩;intro i v hv;rw[hw,hm];exact hr i v hv
 | .iS cells len full,_,_,r=>by
   simp only[Rel] at r⊢;obtain⟨a,cap,vs,rfl,h1,h2,hr,hl,hp⟩:=r;refine⟨a,cap,vs,rfl,h1,h2,hr.imp id (fun⟨a,b⟩=>⟨a,?_⟩),Qr.dress hw hm cells vs hp hl,hp⟩;intro i v hv;rw[hw,hm];exact b i v hv
 | .gS f s cells len esz,_,p,_=>by simp[V.pure] at p
 | .rptr _ _,_,p,_=>by simp[V.pure] at p
 | .mS f s o len cap esz,_,p,_=>by simp[V.pure] at p
 | .map f s,_,p,_=>by simp[V.pure] at p
 | .yield f s,_,p,_=>by simp[V.pure] at p
 | .func fn first captured,_,p,r=>by
   simp only[Rel] at r⊢;simp only[V.pure,Zfr] at p;obtain⟨fs,cs,rfl,h1,h2⟩:=r;exact⟨fs,cs,rfl,Qr.dress hw hm first fs p.1 h1,Qr.dress hw hm captured cs p.2 h2⟩
 | .face t x,_,p,r=>by
   simp only[Rel] at r⊢;simp only[V.pure] at p;obtain⟨c,rfl,hc⟩:=r;exact⟨c,rfl,Rel.dress hw hm x c p hc⟩
 | .agg cells,_,p,r=>by
   simp only[Rel] at r⊢;simp only[V.pure] at p;obtain⟨vs,rfl,hl⟩:=r;exact⟨vs,rfl,Qr.dress hw hm cells vs p hl⟩
 | .tuple cells,_,p,r=>by
   simp only[Rel] at r⊢;simp only[V.pure] at p;obtain⟨vs,rfl,hl⟩:=r;exact⟨vs,rfl,Qr.dress hw hm cells vs p hl⟩
theorem Qr.dress{E' :Env}(hw:E'.w=E.w)(hm:E'.mod=E.mod):∀(xs:List V) (vs:List Value),Zt xs=true->Qr E xs vs->Qr E' xs vs
 |[],_,_,r=>r
 |x::xs,_,p,r=>by
  simp only[Zt,Zfr] at p;obtain⟨v,r',rfl,hv,hr⟩:=Qr.cons_iff.1 r;exact .cons (Rel.dress hw hm x v p.1 hv) (Qr.dress hw hm xs r' p.2 hr)
end
theorem Ju{f:V->Option V}{E' :Env}(hf:∀x y v,f x=some y->Rel E x v->Rel E' y v/\y.pure=true):
 ∀(xs ys:List V) (vs:List Value),frzL f xs=some ys->Qr E xs vs->Qr E' ys vs/\Zt ys=true
 |[],ys,vs,h,r=>by cases h;rw[Qr.nil_iff] at r;subst r;exact⟨.nil,rfl⟩
 |x::xs,ys,vs,h,r=>by
  simp only[frzL] at h;split at h
  . rename_i y ys' h1 h2;cases h;obtain⟨v,r',rfl,hv,hr⟩:=Qr.cons_iff.1 r;obtain⟨a1,a2⟩:=hf x y v h1 hv;obtain⟨b1,b2⟩:=Ju hf xs ys' r' h2 hr;exact⟨.cons a1 b1,by simp[Zt,a2,b2]⟩
  . cases h
theorem Qr0{g:Get}(hF:∀b i,F b i->E.mod b i)
 (hg:∀f s xs,g f s=some (.cells xs)->∃b T vs n,E.mu f s=some b/\Qr E xs vs/\Qgm E.w b 0 vs/\(∀i,¬F b i)/\E.w.shape? b=some (T,n))
 (hm:∀f s xs k,g f s=some (.mgrow xs k)->∃b lo hi vs,E.reg f s=some (k,b,lo,hi)/\Qr E xs vs/\Qgm E.w b 0 vs/\∀i,¬F b i):
 ∀(n:Nat) (x y:V) (v:Value),frz g n x=some y->Rel E x v->Rel (bare E.tab E.w F) y v/\y.pure=true:=by
 intro n
 induction n with
 |zero=>intro x y v h;cases h
 |succ n ih=>
  intro x y v h r;have self:x.pure=true->frz g (n+1) x=some x->Rel (bare E.tab E.w F) y v/\y.pure=true:=by intro hp he;rw[he] at h;cases h;exact⟨Rel.bare hF _ _ hp r,hp⟩
  cases x with
  |bad=>exact self rfl rfl
  |bool=>exact self rfl rfl
  |int=>exact self rfl rfl
  |str=>exact self rfl rfl
  |nP=>exact self rfl rfl
  |iptr=>exact self rfl rfl
  |nS=>exact self rfl rfl
  |iS=>exact self rfl rfl
  |nM=>exact self rfl rfl
  |nF=>exact self rfl rfl
  |nI=>exact self rfl rfl
  |byte=>exact self rfl rfl
  |map=>cases h
  |yield=>cases h
  |mp=>cases h
  |mg f s len esz=>
   simp only[frz] at h;split at h
   case h_2=>cases h
   rename_i xs k hx;split at h
   case isFalse=>cases h
   rename_i hh;obtain⟨rfl,hlen⟩:=hh;cases hq:frzL (frz g n) xs with
   |none=>rw[hq] at h;cases h
   |some cs=>
    rw[hq] at h;cases h;obtain⟨b,lo,hi,vs,h1,h2,h3,h4⟩:=hm f s xs k hx;simp only[Rel] at r;obtain⟨b',cap,rfl,g1,_,g2⟩:=r;obtain⟨rfl,_,_⟩:=(g2 _ _ _ _ h1).2 rfl;obtain⟨a1,a2⟩:=Ju ih xs cs vs hq h2;refine⟨?_,rfl⟩;simp only[Rel];exact⟨_,cap,vs,rfl,g1,(fun h=>by cases h),.inr ⟨rfl,fun i v hv=>⟨h3 i v hv,h4 _⟩⟩,a1,a2⟩
  |ptr f s o=>
   simp only[frz] at h;split at h
   case h_2=>cases h
   rename_i xs hx;cases hq:frzL (frz g n) xs with
   |none=>rw[hq] at h;cases h
   |some cs=>
    rw[hq] at h;cases h;obtain⟨b,T,vs,m,h1,h2,h3,h4,_⟩:=hg f s xs hx;simp only[Rel] at r;obtain⟨b',hb',rfl⟩:=r;rw[h1] at hb';cases hb';obtain⟨a1,a2⟩:=Ju ih xs cs vs hq h2;refine⟨?_,rfl⟩;simp only[Rel];exact⟨b,0,vs,by rw[Zff],fun i v hv=>⟨h3 i v hv,h4 _⟩,a1,a2⟩
  |gS f s cs len esz=>
   simp only[frz] at h;cases hq:frzL (frz g n) cs with
   |none=>rw[hq] at h;cases h
   |some cs' =>
    rw[hq] at h;cases h;simp only[Rel] at r;obtain⟨b,off,cap,vs,rfl,h1,hr,hl,hlen,_⟩:=r;obtain⟨a1,a2⟩:=Ju ih cs cs' vs hq hl;refine⟨?_,rfl⟩;simp only[Rel];exact⟨_,cap,vs,rfl,h1,(fun h=>by cases h),.inr ⟨rfl,hr.bare hF⟩,a1,a2⟩
  |rptr cs o=>
   simp only[frz] at h;cases hq:frzL (frz g n) cs with
   |none=>rw[hq] at h;cases h
   |some cs' =>
    rw[hq] at h;cases h;simp only[Rel] at r;obtain⟨b,off,vs,rfl,hr,hl⟩:=r;obtain⟨a1,a2⟩:=Ju ih cs cs' vs hq hl;refine⟨?_,rfl⟩;simp only[Rel];exact⟨b,off,vs,rfl,hr.bare hF,a1,a2⟩
  |mS f s o len cap esz=>
   simp only[frz] at h;split at h
   case h_2=>cases h
   rename_i xs hx;split at h
   case isFalse=>cases h
   rename_i hle;cases hq:frzL (frz g n) ((xs.drop o).take (len*esz)) with
   |none=>rw[hq] at h;cases h
   |some cs=>
    rw[hq] at h;cases h;obtain⟨b,T,vs,m,h1,h2,h3,h4,_⟩:=hg f s xs hx;simp only[Rel] at r;obtain⟨b',c,T',n',hb',rfl,g1,g2,_⟩:=r;rw[h1] at hb';cases hb';obtain⟨a1,a2⟩:=Ju ih _ cs ((vs.drop o).take (len*esz)) hq ((h2.drop o).take _);refine⟨?_,rfl⟩;simp only[Rel];refine⟨_,c,_,rfl,g1,?_,.inr ⟨rfl,fun i v hv=>⟨h3.from o _ i v hv,h4 _⟩⟩,a1,a2⟩;intro hcap;have:cap=some len:=by simpa using hcap
    exact g2 len this
  |func fn a b=>
   simp only[frz] at h;split at h
   . rename_i a' b' ha hb;cases h;simp only[Rel] at r;obtain⟨fs,cs,rfl,h1,h2⟩:=r;obtain⟨p1,p2⟩:=Ju ih a a' fs ha h1;obtain⟨q1,q2⟩:=Ju ih b b' cs hb h2;exact⟨by simp only[Rel];exact⟨fs,cs,rfl,p1,q1⟩,by simp[V.pure,p2,q2]⟩
   . cases h
  |face t x=>
   simp only[frz] at h;cases hq:frz g n x with
   |none=>rw[hq] at h;cases h
   |some x' =>
    rw[hq] at h;cases h;simp only[Rel] at r;obtain⟨c,rfl,hc⟩:=r;obtain⟨p1,p2⟩:=ih x x' c hq hc;exact⟨by simp only[Rel];exact⟨c,rfl,p1⟩,p2⟩
  |agg cs=>
   simp only[frz] at h;cases hq:frzL (frz g n) cs with
   |none=>rw[hq] at h;cases h
   |some cs' =>
    rw[hq] at h;cases h;simp only[Rel] at r;obtain⟨vs,rfl,hl⟩:=r;obtain⟨p1,p2⟩:=Ju ih cs cs' vs hq hl;exact⟨by simp only[Rel];exact⟨vs,rfl,p1⟩,p2⟩
  |tuple cs=>
   simp only[frz] at h;cases hq:frzL (frz g n) cs with
   |none=>rw[hq] at h;cases h
   |some cs' =>
    rw[hq] at h;cases h;simp only[Rel] at r;obtain⟨vs,rfl,hl⟩:=r;obtain⟨p1,p2⟩:=Ju ih cs cs' vs hq hl;exact⟨by simp only[Rel];exact⟨vs,rfl,p1⟩,p2⟩
theorem Sim.frz(S:Sim B F H E){n:Nat}{x y:V}{v:Value}(h:frz (Qd H) n x=some y)(r:Rel E x v):Rel (bare E.tab E.w F) y v/\y.pure=true:=by
 refine Qr0 S.fmod ?_ (fun f s xs k hx=>?_) n x y v h r
 case refine_2=>obtain⟨b,lo,hi,c,T,vs,rest,h1,h2,h3,_,h4,h5,h6,h7,h8⟩:=S.liesMg hx;exact⟨b,lo,hi,vs,h1,h5,h8,fun i hi=>by have:=S.fb b i hi;omega⟩
 intro f s xs hx;obtain⟨b,c,T,vs,rest,h1,h2,h3,h4,h5,h6,h7,h8⟩:=S.lies hx;exact⟨b,T,vs,c.size,h1,h5,h8,fun i hi=>by have:=S.fb b i hi;omega,by simp[World.shape?,h3]⟩
theorem Qx2{g:Get}{M:Nat->Nat->Prop}
 (hg:∀f s xs,g f s=some (.cells xs)->∃b T vs n,E.mu f s=some b/\Qr E xs vs/\Qgm E.w b 0 vs/\(∀i,¬M b i)/\E.w.shape? b=some (T,n))
 (hr:∀f s k,g f s=some (.grow k)->∃b lo hi,E.reg f s=some (k,b,lo,hi)/\∀i,¬M b i)
 (hm:∀f s xs k,g f s=some (.mgrow xs k)->∃b lo hi vs,E.reg f s=some (k,b,lo,hi)/\Qr E xs vs/\Qgm E.w b 0 vs/\∀i,¬M b i):
 ∀(n:Nat) (x y:V) (v:Value),frzN g n x=some y->Rel E x v->Rel (bare E.tab E.w M) y v/\y.pure=true:=by
 intro n
 induction n with
 |zero=>intro x y v h;cases h
 |succ n ih=>
  intro x y v h r;cases x with
  |bad=>cases h
  |bool=>cases h;exact⟨by simpa [Rel] using r,rfl⟩
  |int=>cases h;exact⟨by simpa [Rel] using r,rfl⟩
  |str=>cases h;exact⟨by simpa [Rel] using r,rfl⟩
  |nP=>cases h;exact⟨by simpa [Rel] using r,rfl⟩
  |iptr=>cases h
  |nS=>cases h;exact⟨by simpa [Rel] using r,rfl⟩
  |iS=>cases h
  |nM=>cases h;exact⟨by simpa [Rel] using r,rfl⟩
  |nF=>cases h;exact⟨by simpa [Rel] using r,rfl⟩
  |nI=>cases h;exact⟨by simpa [Rel] using r,rfl⟩
  |byte=>cases h;exact⟨by simpa [Rel] using r,rfl⟩
  |map=>cases h
  |yield=>cases h
  |gS f s cs len esz=>
   simp only[frzN] at h;split at h
   case h_2=>cases h
   rename_i k hk;split at h
   case isFalse=>cases h
   rename_i hlen;subst hlen;cases hq:frzL (frzN g n) cs with
   |none=>rw[hq] at h;cases h
   |some cs' =>
    rw[hq] at h;cases h;obtain⟨b1,lo,hi,e1,e2⟩:=hr f s k hk;simp only[Rel] at r;obtain⟨b,off,cap,vs,rfl,h1,h2,h3,_,_,h4⟩:=r;obtain⟨_,h5⟩:=h4 _ _ _ _ e1;obtain⟨rfl,_,_⟩:=h5 rfl;obtain⟨a1,a2⟩:=Ju ih cs cs' vs hq h3;refine⟨?_,rfl⟩;simp only[Rel];exact⟨_,cap,_,rfl,h1,(fun e=>by cases e),.inr ⟨rfl,fun i v hv=>⟨(h2 i v hv).1,e2 _⟩⟩,a1,a2⟩
  |rptr=>cases h
  |func=>cases h
  |mp=>cases h
  |mg f s len esz=>
   simp only[frzN] at h;split at h
   case h_2=>cases h
   rename_i xs k hx;split at h
   case isFalse=>cases h
   rename_i hh;obtain⟨rfl,hlen⟩:=hh;cases hq:frzL (frzN g n) xs with
   |none=>rw[hq] at h;cases h
   |some cs=>
    rw[hq] at h;cases h;obtain⟨b,lo,hi,vs,h1,h2,h3,h4⟩:=hm f s xs k hx;simp only[Rel] at r;obtain⟨b',cap,rfl,g1,_,g2⟩:=r;obtain⟨rfl,_,_⟩:=(g2 _ _ _ _ h1).2 rfl;obtain⟨a1,a2⟩:=Ju ih xs cs vs hq h2;refine⟨?_,rfl⟩;simp only[Rel];exact⟨_,cap,vs,rfl,g1,(fun h=>by cases h),.inr ⟨rfl,fun i v hv=>⟨h3 i v hv,h4 _⟩⟩,a1,a2⟩
  |ptr f s o=>
   simp only[frzN] at h;split at h
   case h_2=>cases h
   rename_i xs hx;cases hq:frzL (frzN g n) xs with
   |none=>rw[hq] at h;cases h
   |some cs=>
    rw[hq] at h;cases h;obtain⟨b,T,vs,m,h1,h2,h3,h4,_⟩:=hg f s xs hx;simp only[Rel] at r;obtain⟨b',hb',rfl⟩:=r;rw[h1] at hb';cases hb';obtain⟨a1,a2⟩:=Ju ih xs cs vs hq h2;refine⟨?_,rfl⟩;simp only[Rel];exact⟨b,0,vs,by rw[Zff],fun i v hv=>⟨h3 i v hv,h4 _⟩,a1,a2⟩
  |mS f s o len cap esz=>
   simp only[frzN] at h;split at h
   case h_2=>cases h
   rename_i xs hx;split at h
   case isFalse=>cases h
   rename_i hle;cases hq:frzL (frzN g n) ((xs.drop o).take (len*esz)) with
   |none=>rw[hq] at h;cases h
   |some cs=>
    rw[hq] at h;cases h;obtain⟨b,T,vs,m,h1,h2,h3,h4,_⟩:=hg f s xs hx;simp only[Rel] at r;obtain⟨b',c,T',n',hb',rfl,g1,g2,_⟩:=r;rw[h1] at hb';cases hb';obtain⟨a1,a2⟩:=Ju ih _ cs ((vs.drop o).take (len*esz)) hq ((h2.drop o).take _);refine⟨?_,rfl⟩;simp only[Rel];refine⟨_,c,_,rfl,g1,?_,.inr ⟨rfl,fun i v hv=>⟨h3.from o _ i v hv,h4 _⟩⟩,a1,a2⟩;intro hcap;have:cap=some len:=by simpa using hcap
    exact g2 len this
  |face t x=>
   simp only[frzN] at h;cases hq:frzN g n x with
   |none=>rw[hq] at h;cases h
   |some x' =>
    rw[hq] at h;cases h;simp only[Rel] at r;obtain⟨c,rfl,hc⟩:=r;obtain⟨p1,p2⟩:=ih x x' c hq hc;exact⟨by simp only[Rel];exact⟨c,rfl,p1⟩,p2⟩
  |agg cs=>
   simp only[frzN] at h;cases hq:frzL (frzN g n) cs with
   |none=>rw[hq] at h;cases h
   |some cs' =>
    rw[hq] at h;cases h;simp only[Rel] at r;obtain⟨vs,rfl,hl⟩:=r;obtain⟨p1,p2⟩:=Ju ih cs cs' vs hq hl;exact⟨by simp only[Rel];exact⟨vs,rfl,p1⟩,p2⟩
  |tuple cs=>
   simp only[frzN] at h;cases hq:frzL (frzN g n) cs with
   |none=>rw[hq] at h;cases h
   |some cs' =>
    rw[hq] at h;cases h;simp only[Rel] at r;obtain⟨vs,rfl,hl⟩:=r;obtain⟨p1,p2⟩:=Ju ih cs cs' vs hq hl;exact⟨by simp only[Rel];exact⟨vs,rfl,p1⟩,p2⟩
theorem Sim.frzN(S:Sim B F H E){M:Nat->Nat->Prop}(hM:∀b i,M b i->b<B){n:Nat}{x y:V}{v:Value}(h:frzN (Qd H) n x=some y)(r:Rel E x v):Rel (bare E.tab E.w M) y v/\y.pure=true:=by
 refine Qx2 ?_ (fun f s k hk=>?_) (fun f s xs k hx=>?_) n x y v h r
 case refine_3=>obtain⟨b,lo,hi,c,T,vs,rest,h1,h2,h3,_,h4,h5,h6,h7,h8⟩:=S.liesMg hx;exact⟨b,lo,hi,vs,h1,h5,h8,fun i hi=>by have:=hM b i hi;omega⟩
 case refine_2=>obtain⟨b,lo,hi,c,T,z,g1,g2,g3,g4,g5,_⟩:=S.obj f s _ hk;exact⟨b,lo,hi,g1,fun i hi=>by have:=hM b i hi;omega⟩
 intro f s xs hx;obtain⟨b,c,T,vs,rest,h1,h2,h3,h4,h5,h6,h7,h8⟩:=S.lies hx;exact⟨b,T,vs,c.size,h1,h5,h8,fun i hi=>by have:=hM b i hi;omega,by simp[World.shape?,h3]⟩
theorem Sim.bareF(S:Sim B F H E):Sim E.w.heap.size F [] (bare E.tab E.w F) where
 dom:=fun f s=>rfl
 bsz:=Ze8 _
 fb:=fun b i h=>Zfa (S.fb b i h) S.bsz
 fmod:=fun _ _ h=>h
 modsz:=fun b i h=>Zfa (S.fb b i h) S.bsz
 obj:=fun f s o h=>by simp[Qd] at h
 nreg:=fun f s n x h=>by cases h
 inj:=fun f s o _ _ _ _ h=>by simp[Qd] at h
theorem Qgx{xs ys:List V}{vs:List Value}(n:Nat)(h:frzL (frz (fun _ _=>none) n) xs=some ys)(r:Qr E xs vs):Qr (bare E.tab E.w E.mod) ys vs/\Zt ys=true:=
 Ju (Qr0 (F:=E.mod) (fun _ _ h=>h) (fun _ _ _ h=>by cases h) (fun _ _ _ _ h=>by cases h) n) xs ys vs h r
theorem Sim.bare(S:Sim B F H E):Sim E.w.heap.size E.mod [] (bare E.tab E.w E.mod) where
 dom:=fun f s=>rfl
 bsz:=Ze8 _
 fb:=S.modsz
 fmod:=fun _ _ h=>h
 modsz:=S.modsz
 obj:=fun f s o h=>by simp[Qd] at h
 nreg:=fun f s n x h=>by cases h
 inj:=fun f s o _ _ _ _ h=>by simp[Qd] at h
theorem Sim.behindM(S:Sim B F H E){M:Nat->Nat->Prop}(hM:∀b i,M b i->E.mod b i){E1:Env}{k:Nat}(X:Ext k E.w.heap.size (AM.bare E.tab E.w M) E1):
 Ext H.length B E {E with w:=E1.w}/\Sim B F H {E with w:=E1.w}:=by
 have hX:Ext H.length B E {E with w:=E1.w}:=by refine⟨X.size,X.shape,fun b i v hm h=>X.cell b i v (fun h' =>hm (hM b i h')) h,fun _ _ _ _ h=>h,fun _ _ _ _ h=>h,fun f s n b lo hi _ _ h=>⟨n,b,lo,hi,h,.inr ⟨rfl,rfl,rfl,rfl⟩⟩,?_,X.rest,rfl,X.dfr⟩;exact fun b hb=>X.old b (Zfa hb S.bsz)
 refine⟨hX,S.dom,Ze9 S.bsz X.size,S.fb,S.fmod,fun b i h=>Zfa (S.modsz b i h) X.size,?_,S.nreg,?_⟩
 . intro f s o ho;exact(S.obj f s o ho).mono hX S.lt rfl rfl (fun b hb=>⟨X.old b (S.blk_lt ho hb),fun i h=>h⟩)
 . intro f s o f' s' o' b h1 h2 h3 h4;refine S.inj f s o f' s' o' b h1 h2 ?_ ?_
   . cases o<;>exact h3
   . cases o' <;>exact h4
theorem Sim.behind(S:Sim B F H E){E1:Env}{k:Nat}(X:Ext k E.w.heap.size (AM.bare E.tab E.w E.mod) E1):
 Ext H.length B E {E with w:=E1.w}/\Sim B F H {E with w:=E1.w}:=S.behindM (fun _ _ h=>h) X
end Go.AM
end
