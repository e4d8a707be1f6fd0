/- This file holds in one the texts An14, An15, An16; each says at its head what it proves. -/
import Derived.Test.YtpdimkonjmoadaaGreatDoorT5
set_option linter.unusedSimpArgs false
set_option linter.unusedVariables false
section
namespace Go.AM
structure Pol where
 pure:FuncId->FuncId->Bool
 mt:FuncId->Nat->Bool
 keep:FuncId->Nat->Option (List Nat×List Nat)
 prim:FuncId->Option (Nat->Option Nat->Get->List V->Option (V×Option (Nat×Nat×O)))
 /-- Is such a call handed frozen arguments, though it is on the caller's heap? -/
 thin:FuncId->FuncId->Bool:=fun _ _=>false
 /-- Is such a call on an empty heap, its result's object taken over? -/
 lift:FuncId->FuncId->Bool:=fun _ _=>false
 /-- Does such a call only look at the caller's heap? -/
 look:FuncId->FuncId->Bool:=fun _ _=>false
 /-- Does such a call leave the caller's heap as it was? -/
 peek:FuncId->FuncId->Bool:=fun _ _=>false
 /-- Which slots of the caller's frame such a call leaves as they were, and which new object may be made ahead of it. -/
 side:FuncId->FuncId->Option (List Nat×Option Nat):=fun _ _=>none
 /-- New objects that may be made ahead of such calls: their cells. -/
 news:FuncId->Nat->Option (List V):=fun _ _=>none
 /-- Slots that point to slices whose elements no longer change behind the function's body. -/
 settle:FuncId->List Nat:=fun _=>[]
 /-- At a loop's head: slots of lists, and the one slot that the list that is left goes to. -/
 move:FuncId->Nat->Option (List Nat×Nat):=fun _ _=>none
inductive Ex where
 |normal
 |exit(id:Nat)
 |ret
 |panic(v:V)
inductive Rt where
 |ret(v:V)
 |pan(v:V)
mutual
def V.eqb:V->V->Bool
 | .bad,.bad=>true
 | .bool a,.bool b=>a==b
 | .int k n,.int l m=>decide (k=l)&&decide (n=m)
 | .str a,.str b=>decide (a=b)
 | .nP,.nP=>true
 | .ptr f s o,.ptr f' s' o' =>Nat.beq f f' &&Nat.beq s s' &&Nat.beq o o'
 | .iptr a o,.iptr b o' =>Qfu a b&&Nat.beq o o'
 | .rptr a o,.rptr b o' =>Qfu a b&&Nat.beq o o'
 | .nS,.nS=>true
 | .iS a n x,.iS b m y=>Qfu a b&&Nat.beq n m&&(x==y)
 | .gS f s a n e,.gS f' s' b m e' =>Nat.beq f f' &&Nat.beq s s' &&Qfu a b&&Nat.beq n m&&Nat.beq e e'
 | .mS f s o n c e,.mS f' s' o' n' c' e' =>Nat.beq f f' &&Nat.beq s s' &&Nat.beq o o' &&Nat.beq n n' &&decide (c=c')&&Nat.beq e e'
 | .nM,.nM=>true
 | .map f s,.map f' s' =>Nat.beq f f' &&Nat.beq s s'
 | .func f a b,.func f' a' b' =>decide (f=f')&&Qfu a a' &&Qfu b b'
 | .nF,.nF=>true
 | .nI,.nI=>true
 | .byte,.byte=>true
 | .face t v,.face t' v' =>Nat.beq t t' &&v.eqb v'
 | .agg a,.agg b=>Qfu a b
 | .tuple a,.tuple b=>Qfu a b
 | .yield f s,.yield f' s' =>Nat.beq f f' &&Nat.beq s s'
 |_,_=>false
def Qfu:List V->List V->Bool
 |[],[]=>true
 |x::xs,y::ys=>x.eqb y&&Qfu xs ys
 |_,_=>false
end
theorem V.eqb_iff:∀(a b:V),a.eqb b=true↔a=b:=by intro a;refine V.rec (motive_1:=fun a=>∀b,a.eqb b=true↔a=b) (motive_2:=fun l=>∀m,Qfu l m=true↔l=m) ?_ ?_ ?_ ?_ ?_ ?_ ?_ ?_ ?_ ?_ ?_ ?_ ?_ ?_ ?_ ?_ ?_ ?_ ?_ ?_ ?_ ?_ ?_ ?_ a<;>intros<;>rename_i b<;>cases b<;>simp_all[V.eqb,Qfu,and_assoc]
theorem Qrr:∀(l m:List V),Qfu l m=true↔l=m
 |[],[]=>by simp[Qfu]
 |[],_::_=>by simp[Qfu]
 |_::_,[]=>by simp[Qfu]
 |x::xs,y::ys=>by simp[Qfu,V.eqb_iff,Qrr xs ys]
def Q0p:List (V×V)->List (V×V)->Bool
 |[],[]=>true
 |(a,b)::r,(c,d)::s=>a.eqb c&&b.eqb d&&Q0p r s
 |_,_=>false
theorem Qz5:∀(l m:List (V×V)),Q0p l m=true↔l=m
 |[],[]=>by simp[Q0p]
 |[],_::_=>by simp[Q0p]
 |_::_,[]=>by simp[Q0p]
 |(a,b)::xs,(c,d)::ys=>by simp[Q0p,V.eqb_iff,Qz5 xs ys]
def O.eqb:O->O->Bool
 | .cells a,.cells b=>Qfu a b
 | .grow n,.grow m=>Nat.beq n m
 | .map a bs c,.map b ds d=>Q0p a b&&decide (bs=ds)&&Nat.beq c d
 | .iter m s l t,.iter m' s' l' t' =>decide (m=m')&&Nat.beq s s' &&decide (l=l')&&Nat.beq t t'
 | .loop a b c d t,.loop a' b' c' d' t' =>Nat.beq a a' &&decide (b=b')&&Nat.beq c c' &&Nat.beq d d' &&Qfu t t'
 | .siter l p,.siter l' p' =>decide (l=l')&&Nat.beq p p'
 | .dead,.dead=>true
 |_,_=>false
theorem O.eqb_iff:∀(a b:O),a.eqb b=true↔a=b:=by intro a b;cases a<;>cases b<;>simp[O.eqb,Qrr,Qz5,and_assoc]
def Q01:Frame->Frame->Bool
 |[],[]=>true
 |(k,o)::r,(l,p)::s=>Nat.beq k l&&o.eqb p&&Q01 r s
 |_,_=>false
theorem Qy7:∀(a b:Frame),Q01 a b=true↔a=b
 |[],[]=>by simp[Q01]
 |[],_::_=>by simp[Q01]
 |_::_,[]=>by simp[Q01]
 |(k,o)::xs,(l,p)::ys=>by simp[Q01,O.eqb_iff,Qy7 xs ys]
def Qwr:Heap->Heap->Bool
 |[],[]=>true
 |f::r,g::s=>Q01 f g&&Qwr r s
 |_,_=>false
theorem Qe4:∀(a b:Heap),Qwr a b=true↔a=b
 |[],[]=>by simp[Qwr]
 |[],_::_=>by simp[Qwr]
 |_::_,[]=>by simp[Qwr]
 |f::xs,g::ys=>by simp[Qwr,Qy7,Qe4 xs ys]
def Ex.eqb:Ex->Ex->Bool
 | .normal,.normal=>true
 | .exit i,.exit j=>Nat.beq i j
 | .ret,.ret=>true
 | .panic v,.panic w=>v.eqb w
 |_,_=>false
theorem Ex.eqb_iff:∀(a b:Ex),a.eqb b=true↔a=b:=by intro a b;cases a<;>cases b<;>simp[Ex.eqb,V.eqb_iff]
abbrev Out:=Option (Ex×List V×Heap)
def eqbO:Out->Out->Bool
 |none,none=>true
 |some (e,t,H),some (e',t',H')=>e.eqb e' &&Qfu t t' &&Qwr H H'
 |_,_=>false
theorem Qx5:∀(a b:Out),eqbO a b=true↔a=b:=by intro a b;rcases a with _|⟨e,t,H⟩<;>rcases b with _|⟨e',t',H'⟩<;>simp[eqbO,Ex.eqb_iff,Qrr,Qe4,and_assoc]
def Qel:List Out->Out
 |[]=>none
 |[x]=>x
 |x::y::r=>if eqbO x (Qel (y::r)) then x else none
theorem Q5r(x:Out):Qel [x]=x:=rfl
theorem Ql7:∀{l:List Out} {r:Ex×List V×Heap},Qel l=some r->∀x∈l,x=some r
 |[],_,h=>by cases h
 |[x],r,h=>by
  intro y hy;rw[Zp9] at hy;subst hy;exact h
 |x::y::l,r,h=>by
  simp only[Qel] at h;split at h
  . rename_i he;rw[Qx5] at he;subst h;intro z hz;rcases Zpy.1 hz with rfl|hz
    . rfl
    . exact Ql7 he.symm z hz
  . cases h
theorem Q7k{l:List Out}{r:Ex×List V×Heap}(h:Qel l=some r):l≠[]:=by rintro rfl;cases h
theorem Qey:∀{l:List Out} {r:Ex×List V×Heap},l≠[]->(∀x∈l,x=some r)->Qel l=some r
 |[],_,h,_=>absurd rfl h
 |[x],r,_,h=>h x (by simp)
 |x::y::l,r,_,h=>by
  have h1:=Qey (l:=y::l) (r:=r) (by simp) (fun z hz=>h z (Zp0 _ hz));have h2:=h x (by simp);subst h2;simp only[Qel,h1];rw[if_pos ((Qx5 _ _).2 rfl)]
theorem Qmf{l:List Out}{r:Ex×List V×Heap}:Qel l=some r↔l≠[]/\∀x∈l,x=some r:=
 ⟨fun h=>⟨Q7k h,Ql7 h⟩,fun h=>Qey h.1 h.2⟩
abbrev Call:=Option FuncId->List V->Heap->Option (Rt×Heap)
def rho(t:List V):Operand->V
 | .tmp i=>t.getD i .bad
 | .const v=>Z3 v
 | .global _=> .bad
 | .func f=> .func (.func f) [] []
def Qs(t:List V)(dst:Option Nat)(v:V):List V:=
 match dst with
 |some d=>t.set d v
 |none=>t
abbrev nov:V:= .tuple []
def Zw(ops:Array Oper)(t:List V)(o:Oper):Option Bool:=
 match o.guard with
 |none=>some true
 |some (j,want)=>match((ops[j]?).bind (·.dst)).bind (t[·]?) with
  |some (.bool b)=>some (b==want)
  |some (.tuple [])=>some false
  |_=>none
def Qx(f:V->Option V):List V->Option (List V)
 |[]=>some []
 |x::xs=>match f x,Qx f xs with
  |some y,some ys=>some (y::ys)
  |_,_=>none
def frz(g:Get):Nat->V->Option V
 |0,_=>none
 |n+1,v=>match v with
  | .mS f s o len cap esz=>(match g f s with
    |some (.cells xs)=>if o+len*esz<=xs.length then(Qx (frz g n) ((xs.drop o).take (len*esz))).map fun cs=> .iS cs len (cap==some len) else none
    |_=>none)
  | .gS _ _ cs len _=>(Qx (frz g n) cs).map fun cs=> .iS cs len false
  | .rptr cs o=>(Qx (frz g n) cs).map fun cs=> .iptr cs o
  | .ptr f s o=>(match g f s with
    |some (.cells xs)=>(Qx (frz g n) xs).map fun cs=> .iptr cs o
    |_=>none)
  | .map _ _=>none
  | .yield _ _=>none
  | .agg cs=>(Qx (frz g n) cs).map .agg
  | .tuple cs=>(Qx (frz g n) cs).map .tuple
  | .face t x=>(frz g n x).map (.face t)
  | .func fn a b=>(match Qx (frz g n) a,Qx (frz g n) b with
    |some a,some b=>some (.func fn a b)
    |_,_=>none)
  |v=>some v
def depth:Nat:=12
mutual
def V.refs(p:Nat->Nat->Bool):V->Bool
 | .ptr f s _| .mS f s _ _ _ _| .map f s| .yield f s=>p f s
 | .gS f s cs _ _=>p f s||Qh p cs
 | .rptr cs _=>Qh p cs
 | .func _ a b=>Qh p a||Qh p b
 | .face _ v=>v.refs p
 | .agg xs| .tuple xs=>Qh p xs
 |_=>false
def Qh(p:Nat->Nat->Bool):List V->Bool
 |[]=>false
 |x::xs=>x.refs p||Qh p xs
end
def Qhn(p:Nat->Nat->Bool):List (V×V)->Bool
 |[]=>false
 |(k,x)::r=>k.refs p||x.refs p||Qhn p r
def O.refs(p:Nat->Nat->Bool):O->Bool
 | .cells xs=>Qh p xs
 | .map es _ _=>Qhn p es
 | .iter (some m) _ _ _=>p m.1 m.2
 | .loop _ _ _ _ t=>Qh p t
 |_=>false
def Q0(p:Nat->Nat->Bool):Frame->Bool
 |[]=>true
 |(_,o)::r=>!o.refs p&&Q0 p r
def Zb(p:Nat->Nat->Bool):Heap->Bool
 |[]=>true
 |fr::r=>Q0 p fr&&Zb p r
def Jk(p:Nat->Bool):Frame->Frame
 |[]=>[]
 |(k,o)::r=>if p k then Jk p r else(k,o)::Jk p r
def Qa0(pol:Pol)(fn f:FuncId)(args:List V):Option (List V):=if pol.thin fn f then Qx (frz (fun _ _=>none) depth) args else some args
def frzN(g:Get):Nat->V->Option V
 |0,_=>none
 |n+1,v=>match v with
  | .mS f s o len cap esz=>(match g f s with
    |some (.cells xs)=>if o+len*esz<=xs.length then(Qx (frzN g n) ((xs.drop o).take (len*esz))).map fun cs=> .iS cs len (cap==some len) else none
    |_=>none)
  | .ptr f s o=>(match g f s with
    |some (.cells xs)=>(Qx (frzN g n) xs).map fun cs=> .iptr cs o
    |_=>none)
  | .gS f s cs len _=>(match g f s with
    |some (.grow k)=>if k=len then(Qx (frzN g n) cs).map fun cs=> .iS cs len false else none
    |_=>none)
  | .agg cs=>(Qx (frzN g n) cs).map .agg
  | .tuple cs=>(Qx (frzN g n) cs).map .tuple
  | .face t x=>(frzN g n x).map (.face t)
  | .bool b=>some (.bool b)
  | .int k m=>some (.int k m)
  | .str s=>some (.str s)
  | .nP=>some .nP
  | .nS=>some .nS
  | .nM=>some .nM
  | .nF=>some .nF
  | .nI=>some .nI
  | .byte=>some .byte
  |_=>none
def frzM(f:V->Option V):List (V×V)->Option (List (V×V))
 |[]=>some []
 |(k,x)::r=>match f k,f x,frzM f r with
  |some k,some x,some r=>some ((k,x)::r)
  |_,_,_=>none
def Qdj(H' :Heap)(fr:Nat)(dst:Option Nat)(H:Heap)(v:V):Option (V×Nat×O):=
 match v,dst with
 | .map f s,some d=>(match Qd H fr d,Qd H' f s with
   |none,some (.map es bs clk)=>(frzM (frz (Qd H') depth) es).map fun es=>(.map fr d,d,.map es bs clk)
   |_,_=>none)
 | .mS f s o len cap esz,some d=>(match Qd H fr d,Qd H' f s with
   |none,some (.cells xs)=>if Qo xs=true then some (.mS fr d o len cap esz,d,.cells xs) else none
   |_,_=>none)
 | .gS f s cs len esz,some d=>(match Qd H fr d,Qd H' f s with
   |none,some (.grow n)=>if n=len/\Qo cs=true then some (.gS fr d cs len esz,d,.grow n) else none
   |_,_=>none)
 | .nS,some d=>(match Qd H fr d with
   |none=>some (.nS,d,.dead)
   |_=>none)
 |_,_=>none
section
variable (P : Program) (pol : Pol) (C : Call) (fn fr : Nat)
def Jj(keep:List Nat):List V->Nat->List V
 |[],_=>[]
 |x::xs,i=>(if keep.contains i then x else .bad)::Jj keep xs (i+1)
def forgetK(r:Nat)(t:List V)(H:Heap):Option (List V×Heap):=
 match pol.keep fn r with
 |none=>some (t,H)
 |some (kt,ds)=>
  if Qh (fun f s=>f==fr&&ds.contains s) (Jj kt t 0) then none
  else if Zb (fun f s=>f==fr&&ds.contains s) (H.modify fr (Jk fun s=>ds.contains s)) then some (Jj kt t 0,H.modify fr (Jk fun s=>ds.contains s))
  else none
def Qql(fr a b:Nat):V->V
 | .gS f s cs n e=>if f=fr/\s=a then .gS fr b cs n e else .gS f s cs n e
 |x=>x
abbrev Jx(fr s:Nat):Nat->Nat->Bool:=fun f s' =>f==fr&&[s].contains s'
def dropOne(fr s:Nat)(t:List V)(H:Heap):Option Heap:=
 if Qh (Jx fr s) t then some H
 else if Zb (Jx fr s) (H.modify fr (Jk fun x=>[s].contains x)) then some (H.modify fr (Jk fun x=>[s].contains x)) else none
def dropAll(fr:Nat)(t:List V):List Nat->Heap->Option Heap
 |[],H=>some H
 |s::r,H=>match dropOne fr s t H with
  |some H=>dropAll fr t r H
  |none=>none
def moveOne(fr a b:Nat)(t:List V)(H:Heap):Option (List V×Heap):=
 match Qd H fr a,Qd H fr b with
 |some (.grow n),none=>
  if Qh (Jx fr a) (t.map (Qql fr a b)) then none
  else if Zb (Jx fr a) (H.modify fr (Jk fun x=>[a].contains x)) then some (t.map (Qql fr a b),hset (H.modify fr (Jk fun x=>[a].contains x)) fr b (.grow n))
  else none
 |_,_=>some (t,H)
def moveAll(fr b:Nat):List Nat->List V->Heap->Option (List V×Heap)
 |[],t,H=>some (t,H)
 |a::r,t,H=>match moveOne fr a b t H with
  |some (t,H)=>moveAll fr b r t H
  |none=>none
def forget(r:Nat)(t:List V)(H:Heap):Option (List V×Heap):=
 match forgetK pol fn fr r t H with
 |none=>none
 |some (t,H)=>(match pol.move fn r with
  |none=>some (t,H)
  |some (ds,c)=>(match dropAll fr t (c::ds) H with
   |none=>none
   |some H=>moveAll fr c ds t H))
def Qge(b:Bool)(H:Heap)(X:Option (Rt×Heap)):Option (Rt×Heap):=if b then(match X with
 |some (.ret v,H')=>if Qwr H' H=true then some (.ret v,H') else none
 |_=>none) else X
def Qy3:Option O->Option O->Bool
 |none,none=>true
 |some a,some b=>a.eqb b
 |_,_=>false
theorem Qcc:∀a b:Option O,Qy3 a b=true↔a=b
 |none,none=>by simp[Qy3]
 |none,some _=>by simp[Qy3]
 |some _,none=>by simp[Qy3]
 |some a,some b=>by simp[Qy3,O.eqb_iff]
def Qno(news:Nat->Option (List V))(X:Heap->Option (Rt×Heap))(H:Heap)(v:V)(H1:Heap):Option Nat->Bool
 |none=>true
 |some d=>Nat.ble (fr+1) H.length&&Nat.ble (fr+1) H1.length&&Qy3 (Qd H fr d) (Qd H1 fr d)&&(match Qd H fr d,news d with
  |none,some cs=>(match X (hset H fr d (.cells cs)) with
   |some (.ret v',H2)=>v'.eqb v&&Qwr H2 (hset H1 fr d (.cells cs))
   |_=>false)
  |_,_=>true)
def Qe6(s:Option (List Nat×Option Nat))(news:Nat->Option (List V))(X:Heap->Option (Rt×Heap))(H:Heap):Option (Rt×Heap):=
 match s with
 |none=>X H
 |some (ks,x)=>(match X H with
  |some (.ret v,H1)=>if(ks.all fun k=>Qy3 (Qd H fr k) (Qd H1 fr k))&&Qno fr news X H v H1 x then some (.ret v,H1) else none
  |_=>none)
def callOp(dst:Option Nat)(f:FuncId)(args:List V)(H:Heap):Option (Rt×Heap):=
 match pol.prim f with
 |some g=>(g fr dst (Qd H) args).map fun x=>(.ret x.1,wr H x.2)
 |none=>
  if pol.pure fn f then
   match Qx (frz (fun _ _=>none) depth) args with
   |some args=>(match C f args [] with
    |some (.ret v,H')=>(frz (Qd H') depth v).map fun v=>(.ret v,H)
    |some (.pan v,H')=>(frz (Qd H') depth v).map fun v=>(.pan v,H)
    |none=>none)
   |none=>none
  else if pol.lift fn f then
   match Qx (frz (fun _ _=>none) depth) args with
   |some args=>(match C f args [] with
    |some (.ret v,H')=>(Qdj H' fr dst H v).map fun x=>(.ret x.1,wr H (some (fr,x.2.1,x.2.2)))
    |_=>none)
   |none=>none
  else if pol.look fn f then
   match Qx (frz (Qd H) depth) args with
   |some args=>(match C f args [] with
    |some (.ret v,H')=>(frzN (Qd H') depth v).map fun v=>(.ret v,H)
    |_=>none)
   |none=>none
  else(match Qa0 pol fn f args with
   |some args=>Qe6 fr (pol.side fn f) (pol.news fn) (fun H=>Qge (pol.peek fn f) H (C f args H)) H
   |none=>none)
theorem Qj1{b:Bool}{H:Heap}{X:Option (Rt×Heap)}{r:Rt×Heap}(h:Qge b H X=some r):X=some r:=by
 unfold Qge at h;split at h
 . split at h
   . split at h
     . exact h
     . cases h
   . cases h
 . exact h
theorem Q04{H:Heap}{X:Option (Rt×Heap)}{r:Rt×Heap}(h:Qge true H X=some r):r.2=H:=by
 unfold Qge at h;rw[if_pos rfl] at h;split at h
 . split at h
   . rename_i he;cases h;exact(Qe4 _ _).1 he
   . cases h
 . cases h
theorem Qiq{ks:List Nat}{x:Option Nat}{n:Nat->Option (List V)}{X:Heap->Option (Rt×Heap)}{H:Heap}{r:Rt×Heap}(h:Qe6 fr (some (ks,x)) n X H=some r):
 ∃v,r.1= .ret v/\X H=some r/\(∀k∈ks,Qd r.2 fr k=Qd H fr k)/\Qno fr n X H v r.2 x=true:=by
 unfold Qe6 at h;simp only at h;split at h
 . rename_i v H1 he;split at h
   . rename_i hc;cases h;simp only[Zqf,Zqt] at hc;exact⟨v,rfl,he,fun k hk=>((Qcc _ _).1 (hc.1 k hk)).symm,hc.2⟩
   . cases h
 . cases h
theorem Qp6{s:Option (List Nat×Option Nat)}{n:Nat->Option (List V)}{X:Heap->Option (Rt×Heap)}{H:Heap}{r:Rt×Heap}(h:Qe6 fr s n X H=some r):X H=some r:=by
 cases s with
 |none=>exact h
 |some y=>obtain⟨ks,x⟩:=y;obtain⟨_,_,h,_⟩:=Qiq fr h;exact h
theorem Qmm{n:Nat->Option (List V)}{X:Heap->Option (Rt×Heap)}{H H1:Heap}{v:V}{d:Nat}(h:Qno fr n X H v H1 (some d)=true):
 (fr<H.length/\fr<H1.length/\Qd H1 fr d=Qd H fr d)/\∀cs,Qd H fr d=none->n d=some cs->X (hset H fr d (.cells cs))=some (.ret v,hset H1 fr d (.cells cs)):=by
 unfold Qno at h;simp only[Zqf] at h;refine⟨⟨Zru h.1.1.1,Zru h.1.1.2,((Qcc _ _).1 h.1.2).symm⟩,fun cs h1 h2=>?_⟩;have h3:=h.2;rw[h1,h2] at h3;simp only at h3;split at h3
 . rename_i v' H2 he;simp only[Zqf] at h3;rw[he,(V.eqb_iff _ _).1 h3.1,(Qe4 _ _).1 h3.2]
 . cases h3
theorem Q0y{s:Option (List Nat×Option Nat)}{n:Nat->Option (List V)}{X X' :Heap->Option (Rt×Heap)}(hX:∀H r,X H=some r->X' H=some r){H:Heap}{r:Rt×Heap}(h:Qe6 fr s n X H=some r):Qe6 fr s n X' H=some r:=by
 cases s with
 |none=>exact hX _ _ h
 |some y=>
  obtain⟨ks,x⟩:=y;obtain⟨v,h1,h2,h3,h4⟩:=Qiq fr h;obtain⟨q,H1⟩:=r;simp only at h1 h3 h4;subst h1;have e:Qno fr n X' H v H1 x=true:=by
   cases x with
   |none=>rfl
   |some d=>
    obtain⟨⟨l1,l2,g1⟩,g2⟩:=Qmm fr h4;unfold Qno;simp only[Zqf];refine⟨⟨⟨Zsf l1,Zsf l2⟩,(Qcc _ _).2 g1.symm⟩,?_⟩;split
    . rename_i cs k1 k2;rw[hX _ _ (g2 cs k1 k2)];simp only[Zqf];exact⟨(V.eqb_iff _ _).2 rfl,(Qe4 _ _).2 rfl⟩
    . rfl
  unfold Qe6;simp only[hX _ _ h2,e,Zqq];rw[if_pos];simp only[Zqt];exact fun k hk=>(Qcc _ _).2 (h3 k hk).symm
theorem Qe9{ks:List Nat}{x:Option Nat}{n:Nat->Option (List V)}{X:Heap->Option (Rt×Heap)}{H H1:Heap}{v:V}(h:X H=some (.ret v,H1))(hk:∀k∈ks,Qd H1 fr k=Qd H fr k)
 (hx:∀d,x=some d->(fr<H.length/\fr<H1.length/\Qd H1 fr d=Qd H fr d)/\∀cs,Qd H fr d=none->n d=some cs->X (hset H fr d (.cells cs))=some (.ret v,hset H1 fr d (.cells cs))):Qe6 fr (some (ks,x)) n X H=some (.ret v,H1):=by
 have e:Qno fr n X H v H1 x=true:=by
  cases x with
  |none=>rfl
  |some d=>
   obtain⟨⟨l1,l2,g1⟩,g2⟩:=hx d rfl;unfold Qno;simp only[Zqf];refine⟨⟨⟨Zsf l1,Zsf l2⟩,(Qcc _ _).2 g1.symm⟩,?_⟩;split
   . rename_i cs k1 k2;rw[g2 cs k1 k2];simp only[Zqf];exact⟨(V.eqb_iff _ _).2 rfl,(Qe4 _ _).2 rfl⟩
   . rfl
 unfold Qe6;simp only[h,e,Zqq];rw[if_pos];simp only[Zqt];exact fun k h9=>(Qcc _ _).2 (hk k h9).symm
def Q1(t:List V)(H:Heap)(o:Oper):Option (Ex×List V×Heap):=
 match Zm P (pol.mt fn) fr (Qd H) (rho t) o with
 |none=>none
 |some (.val v w)=>some (.normal,Qs t o.dst v,wr H w)
 |some (.panic v)=>some (.panic v,t,H)
 |some (.call f args)=>(match callOp pol C fn fr o.dst f args H with
  |some (.ret v,H')=>some (.normal,Qs t o.dst v,H')
  |some (.pan v,H')=>some (.panic v,t,H')
  |none=>none)
 |some (.round f s args)=>(match C none (.yield f s::args) H with
  |some (.ret v,H')=>some (.normal,Qs t o.dst v,H')
  |_=>none)
def Zf(ops:Array Oper):List Oper->List V->Heap->Option (Ex×List V×Heap)
 |[],t,H=>some (.normal,t,H)
 |o::r,t,H=>match Zw ops t o with
  |none=>none
  |some false=>Zf ops r (Qs t o.dst nov) H
  |some true=>(match Q1 P pol C fn fr t H o with
   |some (.normal,t,H)=>Zf ops r t H
   |x=>x)
abbrev Kc:=List V->Heap->List Out
def after(k:List V->Heap->Out):Out->Out
 |some (.normal,t,H)=>k t H
 |r=>r
def Zu(body:Kc):Nat->List V->Heap->Out
 |0,_,_=>none
 |n+1,t,H=>Qel ((body t H).map (after (Zu body n)))
def Ki(seen:List Nat):List (V×V)->List Nat->List ((V×V)×Nat)
 |e::es,b::bs=>if seen.contains b then Ki seen es bs else(e,b)::Ki seen es bs
 |_,_=>[]
def Y3(g:Get)(x:V):Option (List (V×Option (Nat×Nat×O))):=
 match x with
 | .ptr f s 0=>(match g f s with
   |some (.iter none _ _ _)=>some [(.tuple [.bool false],some (f,s,.dead))]
   |some (.iter (some m) since seen stepped)=>(match g m.1 m.2 with
    |some (.map es bs clk)=>if bs.all (fun b=>decide (b<since))&&decide (since<=stepped) then
      (match Ki seen es bs with
      |[]=>some [(.tuple [.bool false],some (f,s,.dead))]
      |l=>some (l.map fun e=>(.tuple [.bool true,e.1.1,e.1.2],some (f,s,.iter (some m) since (seen++[e.2]) clk))))
     else none
    |_=>none)
   |_=>none)
 |_=>none
def Zt:Code->Option Operand
 | .region _ ops false=>(match ops.toList with
   |o::_=>(match o.guard,o.op with
    |none,.next x false=>some x
    |_,_=>none)
   |[]=>none)
 | .seq a _=>Zt a
 |_=>none
def Zn:Code->Nat
 | .region id _ _=>id
 | .seq a _=>Zn a
 | .cond _ a _=>Zn a
 | .block _ b=>Zn b
 | .loop b=>Zn b
 | .scope b=>Zn b
 |_=>0
end
def V.id?:V->Option (Nat×Nat)
 | .ptr f s _| .gS f s _ _ _| .mS f s _ _ _ _| .map f s| .yield f s=>some (f,s)
 |_=>none
def Q9:Op->Bool
 | .move _| .assign _| .pick _ _ _| .build _ _| .nilCheck _| .binOp _ _ _ _ _| .unOp _ _ _| .makeInterface _ _| .makeFunc _ _ _| .fieldAddr _ _ _| .field _ _ _
 | .indexAddr _ _ _| .index _ _ _| .extract _ _| .typeAssert _ _ _ _| .sliceToArrayPointer _ _=>true
 |_=>false
def Yy:Op->Bool
 | .entry _=>true
 |_=>false
def Yp(fr:Nat)(ρ:Operand->V)(o:Oper):List (Nat×Nat):=
 (match o.dst with|some d=>[(fr,d)]|none=>[])++o.op.operands.toList.filterMap fun x=>(ρ x).id?
inductive FP where
 |quiet
 |ids(r w:List (Nat×Nat))
 |peek
 |side(ks:List (Nat×Nat))(x:Option (Nat×Nat))
 |fresh(y:Nat×Nat)
 |all
 deriving DecidableEq,Inhabited
def Qcl(a b:List (Nat×Nat)):Bool:=a.any fun x=>b.contains x
def FP.indep:FP->FP->Bool
 | .quiet,_|_,.quiet=>true
 | .ids r w,.ids r' w' =>!Qcl w r' &&!Qcl w w' &&!Qcl w' r
 | .peek,.peek=>true
 | .peek,.ids _ w| .ids _ w,.peek=>w.isEmpty
 | .side ks _,.ids r w| .ids r w,.side ks _=>w.isEmpty&&r.all fun x=>ks.contains x
 | .side _ x,.fresh y=>decide (x=some y)
 | .ids r w,.fresh y| .fresh y,.ids r w=>!Qcl w [y]&&!Qcl [y] r
 |_,_=>false
section
variable (P : Program) (pol : Pol) (C : Call) (fn fr : Nat)
def fpW(ids:List (Nat×Nat))(H:Heap)(f s:Nat)(q:O):FP:=
 match pol.news fn s with
 |none=> .ids ids [(f,s)]
 |some cs=>if Qy3 (Qd H fr s) none&&ids.contains (fr,s)&&(ids.all fun x=>decide (x=(fr,s)))&&Nat.beq f fr&&q.eqb (.cells cs) then .fresh (fr,s) else .ids ids [(f,s)]
theorem Q5j{ids:List (Nat×Nat)}{H H' :Heap}{f s:Nat}{q:O}(h:∀f s,(f,s)∈ids->Qd H' f s=Qd H f s):fpW pol fn fr ids H' f s q=fpW pol fn fr ids H f s q:=by
 unfold fpW;split
 . rfl
 . by_cases hm:(fr,s)∈ids
   . rw[h fr s hm]
   . have:ids.contains (fr,s)=false:=by simpa using hm
     simp only[this,Bool.and_false,Zsh,Zpo,if_false]
def Qhp(f:FuncId):FP:=
 if(pol.prim f).isNone&&!pol.look fn f then(match pol.side fn f with
  |some (ks,x)=> .side (ks.map fun k=>(fr,k)) (x.map fun d=>(fr,d))
  |none=> .all) else .all
def Z0(t:List V)(H:Heap)(o:Oper):FP:=
 if Q9 o.op then .quiet else if Yy o.op then .all else
 match Zm P (pol.mt fn) fr (Qd H) (rho t) o with
 |some (.val _ none)=> .ids (Yp fr (rho t) o) []
 |some (.val _ (some (f,s,q)))=>fpW pol fn fr (Yp fr (rho t) o) H f s q
 |some (.call f _)=>if(pol.prim f).isNone&&pol.pure fn f then .quiet else if(pol.prim f).isNone&&pol.lift fn f then(match o.dst with
  |some d=> .ids (Yp fr (rho t) o) [(fr,d)]
  |none=> .all) else if(pol.prim f).isNone&&!pol.look fn f&&pol.peek fn f then .peek else Qhp pol fn fr f
 |_=> .all
def Q4(ops:Array Oper):List Oper->List V->Heap->Option (List V×Heap×List FP)
 |[],t,H=>some (t,H,[])
 |o::r,t,H=>match Zw ops t o with
  |none=>none
  |some false=>(match Q4 ops r (Qs t o.dst nov) H with
   |some (t',H',T)=>some (t',H',.quiet::T)
   |none=>none)
  |some true=>(match Q1 P pol C fn fr t H o with
   |some (.normal,t1,H1)=>(match Q4 ops r t1 H1 with
    |some (t',H',T)=>some (t',H',Z0 P pol fn fr t H o::T)
    |none=>none)
   |_=>none)
end
def okT(bef:Array Nat):List (FP×Nat)->Bool
 |[]=>true
 |(a,i)::r=>r.all (fun(b,j)=>(bef.getD j 0).testBit i||a.indep b)&&okT bef r
def FP.loud:FP->Bool
 | .quiet=>false
 |_=>true
def loud(T:List FP):List (FP×Nat):=T.zipIdx.filter fun x=>x.1.loud
abbrev Kv:=List V->Heap->Out
def Ze(a b:Code):Nat:=if Zn a=0 then Zn b else Zn a
def Qz(rid:Nat):Code->Option (Array Tmp×Code×Code)
 | .seq a b| .cond _ a b=>(match Qz rid a with
   |some x=>some x
   |none=>Qz rid b)
 | .block _ b| .loop b| .scope b=>Qz rid b
 | .rangeFunc _ ps a b=>if Ze a b=rid then some (ps,a,b) else(match Qz rid a with
   |some x=>some x
   |none=>Qz rid b)
 |_=>none
def Q2:Code->List Nat
 | .seq a b| .cond _ a b=>Q2 a++Q2 b
 | .block _ b| .loop b| .scope b=>Q2 b
 | .rangeFunc _ _ a b=>Ze a b::(Q2 a++Q2 b)
 |_=>[]
def Qn(P:Program)(fn:FuncId)(rid:Nat):Option (Array Tmp×Code×Code):=
 match P.funcs[fn]? with
 |some F=>(match F.body with
  |some c=>Qz rid c
  |none=>none)
 |none=>none
def Q8(rid:Nat):Nat:=1000000+rid
def Bo:List V->List (Tmp×V)->List V
 |t,[]=>t
 |t,p::r=>Bo (t.set p.1 p.2) r
def Qab(fr s:Nat)(t:List V)(H:Heap):Out:=
 match Qd H fr s with
 |some (.loop st pend _ _ _)=>if st=1 then none else
  if Qh (Jx fr s) t then none else if Zb (Jx fr s) (H.modify fr (Jk fun x=>[s].contains x)) then
   (match pend with
   |none=>some (.normal,t,H.modify fr (Jk fun x=>[s].contains x))
   |some none=>some (.ret,t,H.modify fr (Jk fun x=>[s].contains x))
   |some (some i)=>some (.exit i,t,H.modify fr (Jk fun x=>[s].contains x)))
  else none
 |_=>none
section
variable (P : Program) (pol : Pol) (C : Call) (L : Kc -> Kv) (fn fr : Nat)
mutual
def Q6:Code->Kv
 | .skip=>fun t H=>some (.normal,t,H)
 | .region _ ops draw=>fun t H=>if draw then(match Q4 P pol C fn fr ops ops.toList t H with
    |some (t',H',T)=>if okT (Region.before ops) (loud T) then some (.normal,t',H') else none
    |none=>none) else Zf P pol C fn fr ops ops.toList t H
 | .seq a b=>fun t H=>(match Q6 a t H with
   |some (.normal,t,H)=>Q6 b t H
   |r=>r)
 | .cond c x y=>fun t H=>(match rho t c with
   | .bool b=>if b then Q6 x t H else Q6 y t H
   |_=>none)
 | .block id b=>fun t H=>(match Q6 b t H with
   |some (.exit i,t,H)=>if i=id then some (.normal,t,H) else some (.exit i,t,H)
   |r=>r)
 | .loop b=>fun t H=>L (fun t H=>match forget pol fn fr (Zn b) t H with
   |some (t,H)=>(match Zt b with
    |none=>[Q6 b t H]
    |some x=>(match Y3 (Qd H) (rho t x) with
     |some cs=>cs.map fun c=>Z7 b c.1 c.2 t H
     |none=>[none]))
   |none=>[none]) t H
 | .exit id=>fun t H=>some (.exit id,t,H)
 | .ret=>fun t H=>some (.ret,t,H)
 | .rangeFunc g _ a b=>fun t H=>(match rho t g with
   | .func (.func f) first cap=>(match Qd H fr (Q8 (Ze a b)) with
     |none=>(match C f (first++[.yield fr (Q8 (Ze a b))]++cap) (hset H fr (Q8 (Ze a b)) (.loop 0 none fn (Ze a b) t)) with
      |some (.ret _,H2)=>Qab fr (Q8 (Ze a b)) t H2
      |_=>none)
     |some _=>none)
   |_=>none)
 |_=>fun _ _=>none
def Z7:Code->V->Option (Nat×Nat×O)->Kv
 | .region _ ops _=>fun v w t H=>(match ops.toList with
   |o::r=>Zf P pol C fn fr ops r (Qs t o.dst v) (wr H w)
   |[]=>none)
 | .seq a b=>fun v w t H=>(match Z7 a v w t H with
   |some (.normal,t,H)=>Q6 b t H
   |r=>r)
 |_=>fun _ _ _ _=>none
end
def Bx(t:List V)(H:Heap):ResultVar->Option V
 | .tmp i=>some (t.getD i .bad)
 | .cell a T=>(match t.getD a .bad with
   | .ptr f s o=>(match Qd H f s with
     |some (.cells xs)=>Qr P T xs o
     |_=>none)
   |_=>none)
def Qgk(t:List V)(H:Heap):List ResultVar->Option (List V)
 |[]=>some []
 |r::rs=>match Bx P t H r,Qgk t H rs with
  |some v,some vs=>some (v::vs)
  |_,_=>none
def Qa5(f:Func)(t:List V)(H:Heap):Option V:=
 match Qgk P t H f.results.toList with
 |some [v]=>some v
 |some vs=>some (.tuple vs)
 |none=>none
def Bs(b:Nat)(v:V)(H:Heap):Heap:=
 if !v.refs (fun f _=>Nat.ble b f)&&Zb (fun f _=>Nat.ble b f) (H.take b) then H.take b else H
def Qv4(t:List V)(H:Heap)(k:Nat):Option Heap:=
 match t.getD k .bad with
 | .ptr f s o=>(match Qd H f s with
   |some (.cells xs)=>(match xs[o]? with
    |some (.mS f1 s1 o1 len cap esz)=>(match Qd H f1 s1 with
     |some (.cells ys)=>if o1+len*esz<=ys.length/\Qo ys=true/\¬(f=f1/\s=s1) then
       some (hset (hset H f1 s1 .dead) f s (.cells (xs.set o (.iS ((ys.drop o1).take (len*esz)) len (cap==some len))))) else none
     |_=>none)
    |some _=>some H
    |none=>none)
   |_=>none)
 | .tuple []=>some H
 | .bad=>some H
 |_=>none
def Qby:List Nat->List V->Heap->Option Heap
 |[],_,H=>some H
 |k::ks,t,H=>match Qv4 t H k with
  |some H=>Qby ks t H
  |none=>none
def Qed(ks:List Nat):Out->Out
 |some (.normal,t,H)=>(Qby ks t H).map fun H=>(.normal,t,H)
 |some (.ret,t,H)=>(Qby ks t H).map fun H=>(.ret,t,H)
 |r=>r
theorem Qyb(x:Out):Qed [] x=x:=by
 rcases x with _|⟨e,t,H⟩
 . rfl
 . cases e<;>rfl
def Bd(fo so b:Nat)(e:Ex)(H:Heap):Option (Rt×Heap):=
 match Qd H fo so with
 |some (.loop _ _ fL rid t0)=>(match e with
  | .normal=>some (.ret (.bool true),Bs b (.bool true) (hset H fo so (.loop 0 none fL rid t0)))
  | .ret=>some (.ret (.bool false),Bs b (.bool false) (hset H fo so (.loop 2 (some none) fL rid t0)))
  | .exit i=>some (.ret (.bool false),Bs b (.bool false) (hset H fo so (.loop 2 (some (some i)) fL rid t0)))
  | .panic _=>none)
 |_=>none
def Qba(fo so:Nat)(args:List V)(H:Heap):Option (Rt×Heap):=
 match Qd H fo so with
 |some (.loop 0 _ fL rid t0)=>(match Qn P fL rid with
  |some (ps,a,b)=>if args.length=ps.size then
    (match Q6 P pol C L fL H.length a (Bo t0 (ps.toList.zip args)) (H++[[]]) with
    |some (.normal,t1,H1)=>(match Qd H1 fo so with
     |some (.loop 0 pend fL' rid' t0')=>(match Q6 P pol C L fL H.length b t1 (hset H1 fo so (.loop 1 pend fL' rid' t0')) with
      |some (e,_,H2)=>Bd fo so H.length e H2
      |none=>none)
     |_=>none)
    |_=>none) else none
  |none=>none)
 |_=>none
def Qbi(f:FuncId)(args:List V)(H:Heap):Option (Rt×Heap):=
 match P.funcs[f]? with
 |some F=>(match F.body with
  |some c=>(match Qed (pol.settle f) (Q6 P pol C L f H.length c (args++List.replicate (F.ntmps-args.length) .bad) (H++[[]])) with
   |some (.normal,t,H')|some (.ret,t,H')=>(match Qa5 P F t H' with
    |some v=>some (.ret v,Bs H.length v H')
    |none=>none)
   |some (.panic v,_,H')=>some (.pan v,Bs H.length v H')
   |_=>none)
  |none=>none)
 |none=>none
def Qd4(f:Option FuncId)(args:List V)(H:Heap):Option (Rt×Heap):=
 match f with
 |some f=>Qbi P pol C L f args H
 |none=>(match args with
  | .yield fo so::rest=>Qba P pol C L fo so rest H
  |_=>none)
end
def J0(P:Program)(pol:Pol):Nat->Call
 |0=>fun _ _ _=>none
 |n+1=>Qd4 P pol (J0 P pol n) (fun b=>Zu b n)
end Go.AM
end
section
namespace Go.AM
variable {P : Program} {E : Env} {B : Nat} {F : Nat -> Nat -> Prop} {H : Heap}
def bare(T:FuncId->Nat->Option (Array Tmp×Code×Code))(w:World)(F:Nat->Nat->Prop):Env:={w:=w,mu:=fun _ _=>none,reg:=fun _ _=>none,mod:=F,tab:=T}
theorem Row.bare{b off:Nat}{vs:List Value}(h:Row E b off vs)(hF:∀b i,F b i->E.mod b i):Row (bare E.tab E.w F) b off vs:=
 fun i v hv=>⟨(h i v hv).1,fun hm=>(h i v hv).2 (hF _ _ hm)⟩
mutual
theorem Rel.bare(hF:∀b i,F b i->E.mod b i):∀(x:V) (v:Value),x.pure=true->Rel E x v->Rel (bare E.tab E.w F) x v
 | .bad,_,_,_=>by simp[Rel]
 | .bool _,_,_,r| .int _ _,_,_,r| .str _,_,_,r| .nP,_,_,r| .nS,_,_,r| .nM,_,_,r| .nF,_,_,r| .nI,_,_,r| .byte,_,_,r=>by
   simpa only[Rel] using r
 | .ptr f s o,_,p,_=>by simp[V.pure] at p
 | .iptr cells o,_,_,r=>by
   simp only[Rel] at r⊢;obtain⟨b,off,vs,rfl,hr,hl,hp⟩:=r;exact⟨b,off,vs,rfl,hr.bare hF,Qe.bare hF cells vs hp hl,hp⟩
 | .iS cells len full,_,_,r=>by
   simp only[Rel] at r⊢;obtain⟨a,cap,vs,rfl,h1,h2,hr,hl,hp⟩:=r;exact⟨a,cap,vs,rfl,h1,h2,hr.imp id (fun⟨a,b⟩=>⟨a,b.bare hF⟩),Qe.bare hF cells vs hp hl,hp⟩
 | .gS f s cells len esz,_,p,_=>by simp[V.pure] at p
 | .rptr _ _,_,p,_=>by simp[V.pure] at p
 | .mS f s o len cap esz,_,p,_=>by simp[V.pure] at p
 | .map f s,_,p,_=>by simp[V.pure] at p
 | .yield f s,_,p,_=>by simp[V.pure] at p
 | .func fn first captured,_,p,r=>by
   simp only[Rel] at r⊢;simp only[V.pure,Zqf] at p;obtain⟨fs,cs,rfl,h1,h2⟩:=r;exact⟨fs,cs,rfl,Qe.bare hF first fs p.1 h1,Qe.bare hF captured cs p.2 h2⟩
 | .face t x,_,p,r=>by
   simp only[Rel] at r⊢;simp only[V.pure] at p;obtain⟨c,rfl,hc⟩:=r;exact⟨c,rfl,Rel.bare hF x c p hc⟩
 | .agg cells,_,p,r=>by
   simp only[Rel] at r⊢;simp only[V.pure] at p;obtain⟨vs,rfl,hl⟩:=r;exact⟨vs,rfl,Qe.bare hF cells vs p hl⟩
 | .tuple cells,_,p,r=>by
   simp only[Rel] at r⊢;simp only[V.pure] at p;obtain⟨vs,rfl,hl⟩:=r;exact⟨vs,rfl,Qe.bare hF cells vs p hl⟩
theorem Qe.bare(hF:∀b i,F b i->E.mod b i):∀(xs:List V) (vs:List Value),Qo xs=true->Qe E xs vs->Qe (bare E.tab E.w F) xs vs
 |[],_,_,r=>r
 |x::xs,_,p,r=>by
  simp only[Qo,Zqf] at p;obtain⟨v,r',rfl,hv,hr⟩:=Qe.cons_iff.1 r;exact .cons (Rel.bare hF x v p.1 hv) (Qe.bare hF xs r' p.2 hr)
end
mutual
theorem Rel.dress{E' :Env}(hw:E'.w=E.w)(hm:E'.mod=E.mod):∀(x:V) (v:Value),x.pure=true->Rel E x v->Rel E' x v
 | .bad,_,_,_=>by simp[Rel]
 | .bool _,_,_,r| .int _ _,_,_,r| .str _,_,_,r| .nP,_,_,r| .nS,_,_,r| .nM,_,_,r| .nF,_,_,r| .nI,_,_,r| .byte,_,_,r=>by
   simpa only[Rel] using r
 | .ptr f s o,_,p,_=>by simp[V.pure] at p
 | .iptr cells o,_,_,r=>by
   simp only[Rel] at r⊢;obtain⟨b,off,vs,rfl,hr,hl,hp⟩:=r;refine⟨b,off,vs,rfl,?_,Qe.dress hw hm cells vs hp hl,hp⟩;intro i v hv;rw[hw,hm];exact hr i v hv
 | .iS cells len full,_,_,r=>by
   simp only[Rel] at r⊢;obtain⟨a,cap,vs,rfl,h1,h2,hr,hl,hp⟩:=r;refine⟨a,cap,vs,rfl,h1,h2,hr.imp id (fun⟨a,b⟩=>⟨a,?_⟩),Qe.dress hw hm cells vs hp hl,hp⟩;intro i v hv;rw[hw,hm];exact b i v hv
 | .gS f s cells len esz,_,p,_=>by simp[V.pure] at p
 | .rptr _ _,_,p,_=>by simp[V.pure] at p
 | .mS f s o len cap esz,_,p,_=>by simp[V.pure] at p
 | .map f s,_,p,_=>by simp[V.pure] at p
 | .yield f s,_,p,_=>by simp[V.pure] at p
 | .func fn first captured,_,p,r=>by
   simp only[Rel] at r⊢;simp only[V.pure,Zqf] at p;obtain⟨fs,cs,rfl,h1,h2⟩:=r;exact⟨fs,cs,rfl,Qe.dress hw hm first fs p.1 h1,Qe.dress hw hm captured cs p.2 h2⟩
 | .face t x,_,p,r=>by
   simp only[Rel] at r⊢;simp only[V.pure] at p;obtain⟨c,rfl,hc⟩:=r;exact⟨c,rfl,Rel.dress hw hm x c p hc⟩
 | .agg cells,_,p,r=>by
   simp only[Rel] at r⊢;simp only[V.pure] at p;obtain⟨vs,rfl,hl⟩:=r;exact⟨vs,rfl,Qe.dress hw hm cells vs p hl⟩
 | .tuple cells,_,p,r=>by
   simp only[Rel] at r⊢;simp only[V.pure] at p;obtain⟨vs,rfl,hl⟩:=r;exact⟨vs,rfl,Qe.dress hw hm cells vs p hl⟩
theorem Qe.dress{E' :Env}(hw:E'.w=E.w)(hm:E'.mod=E.mod):∀(xs:List V) (vs:List Value),Qo xs=true->Qe E xs vs->Qe E' xs vs
 |[],_,_,r=>r
 |x::xs,_,p,r=>by
  simp only[Qo,Zqf] at p;obtain⟨v,r',rfl,hv,hr⟩:=Qe.cons_iff.1 r;exact .cons (Rel.dress hw hm x v p.1 hv) (Qe.dress hw hm xs r' p.2 hr)
end
theorem Z4{f:V->Option V}{E' :Env}(hf:∀x y v,f x=some y->Rel E x v->Rel E' y v/\y.pure=true):
 ∀(xs ys:List V) (vs:List Value),Qx f xs=some ys->Qe E xs vs->Qe E' ys vs/\Qo ys=true
 |[],ys,vs,h,r=>by cases h;rw[Qe.nil_iff] at r;subst r;exact⟨.nil,rfl⟩
 |x::xs,ys,vs,h,r=>by
  simp only[Qx] at h;split at h
  . rename_i y ys' h1 h2;cases h;obtain⟨v,r',rfl,hv,hr⟩:=Qe.cons_iff.1 r;obtain⟨a1,a2⟩:=hf x y v h1 hv;obtain⟨b1,b2⟩:=Z4 hf xs ys' r' h2 hr;exact⟨.cons a1 b1,by simp[Qo,a2,b2]⟩
  . cases h
theorem Qud{g:Get}(hF:∀b i,F b i->E.mod b i)
 (hg:∀f s xs,g f s=some (.cells xs)->∃b T vs n,E.mu f s=some b/\Qe E xs vs/\Qgl E.w b 0 vs/\(∀i,¬F b i)/\E.w.shape? b=some (T,n)):
 ∀(n:Nat) (x y:V) (v:Value),frz g n x=some y->Rel E x v->Rel (bare E.tab E.w F) y v/\y.pure=true:=by
 intro n
 induction n with
 |zero=>intro x y v h;cases h
 |succ n ih=>
  intro x y v h r;have self:x.pure=true->frz g (n+1) x=some x->Rel (bare E.tab E.w F) y v/\y.pure=true:=by intro hp he;rw[he] at h;cases h;exact⟨Rel.bare hF _ _ hp r,hp⟩
  cases x with
  |bad=>exact self rfl rfl
  |bool=>exact self rfl rfl
  |int=>exact self rfl rfl
  |str=>exact self rfl rfl
  |nP=>exact self rfl rfl
  |iptr=>exact self rfl rfl
  |nS=>exact self rfl rfl
  |iS=>exact self rfl rfl
  |nM=>exact self rfl rfl
  |nF=>exact self rfl rfl
  |nI=>exact self rfl rfl
  |byte=>exact self rfl rfl
  |map=>cases h
  |yield=>cases h
  |ptr f s o=>
   simp only[frz] at h;split at h
   case h_2=>cases h
   rename_i xs hx;cases hq:Qx (frz g n) xs with
   |none=>rw[hq] at h;cases h
   |some cs=>
    rw[hq] at h;cases h;obtain⟨b,T,vs,m,h1,h2,h3,h4,_⟩:=hg f s xs hx;simp only[Rel] at r;obtain⟨b',hb',rfl⟩:=r;rw[h1] at hb';cases hb';obtain⟨a1,a2⟩:=Z4 ih xs cs vs hq h2;refine⟨?_,rfl⟩;simp only[Rel];exact⟨b,0,vs,by rw[Zpw],fun i v hv=>⟨h3 i v hv,h4 _⟩,a1,a2⟩
  |gS f s cs len esz=>
   simp only[frz] at h;cases hq:Qx (frz g n) cs with
   |none=>rw[hq] at h;cases h
   |some cs' =>
    rw[hq] at h;cases h;simp only[Rel] at r;obtain⟨b,off,cap,vs,rfl,h1,hr,hl,hlen,_⟩:=r;obtain⟨a1,a2⟩:=Z4 ih cs cs' vs hq hl;refine⟨?_,rfl⟩;simp only[Rel];exact⟨_,cap,vs,rfl,h1,(fun h=>by cases h),.inr ⟨rfl,hr.bare hF⟩,a1,a2⟩
  |rptr cs o=>
   simp only[frz] at h;cases hq:Qx (frz g n) cs with
   |none=>rw[hq] at h;cases h
   |some cs' =>
    rw[hq] at h;cases h;simp only[Rel] at r;obtain⟨b,off,vs,rfl,hr,hl⟩:=r;obtain⟨a1,a2⟩:=Z4 ih cs cs' vs hq hl;refine⟨?_,rfl⟩;simp only[Rel];exact⟨b,off,vs,rfl,hr.bare hF,a1,a2⟩
  |mS f s o len cap esz=>
   simp only[frz] at h;split at h
   case h_2=>cases h
   rename_i xs hx;split at h
   case isFalse=>cases h
   rename_i hle;cases hq:Qx (frz g n) ((xs.drop o).take (len*esz)) with
   |none=>rw[hq] at h;cases h
   |some cs=>
    rw[hq] at h;cases h;obtain⟨b,T,vs,m,h1,h2,h3,h4,_⟩:=hg f s xs hx;simp only[Rel] at r;obtain⟨b',c,T',n',hb',rfl,g1,g2,_⟩:=r;rw[h1] at hb';cases hb';obtain⟨a1,a2⟩:=Z4 ih _ cs ((vs.drop o).take (len*esz)) hq ((h2.drop o).take _);refine⟨?_,rfl⟩;simp only[Rel];refine⟨_,c,_,rfl,g1,?_,.inr ⟨rfl,fun i v hv=>⟨h3.from o _ i v hv,h4 _⟩⟩,a1,a2⟩;intro hcap;have:cap=some len:=by simpa using hcap
    exact g2 len this
  |func fn a b=>
   simp only[frz] at h;split at h
   . rename_i a' b' ha hb;cases h;simp only[Rel] at r;obtain⟨fs,cs,rfl,h1,h2⟩:=r;obtain⟨p1,p2⟩:=Z4 ih a a' fs ha h1;obtain⟨q1,q2⟩:=Z4 ih b b' cs hb h2;exact⟨by simp only[Rel];exact⟨fs,cs,rfl,p1,q1⟩,by simp[V.pure,p2,q2]⟩
   . cases h
  |face t x=>
   simp only[frz] at h;cases hq:frz g n x with
   |none=>rw[hq] at h;cases h
   |some x' =>
    rw[hq] at h;cases h;simp only[Rel] at r;obtain⟨c,rfl,hc⟩:=r;obtain⟨p1,p2⟩:=ih x x' c hq hc;exact⟨by simp only[Rel];exact⟨c,rfl,p1⟩,p2⟩
  |agg cs=>
   simp only[frz] at h;cases hq:Qx (frz g n) cs with
   |none=>rw[hq] at h;cases h
   |some cs' =>
    rw[hq] at h;cases h;simp only[Rel] at r;obtain⟨vs,rfl,hl⟩:=r;obtain⟨p1,p2⟩:=Z4 ih cs cs' vs hq hl;exact⟨by simp only[Rel];exact⟨vs,rfl,p1⟩,p2⟩
  |tuple cs=>
   simp only[frz] at h;cases hq:Qx (frz g n) cs with
   |none=>rw[hq] at h;cases h
   |some cs' =>
    rw[hq] at h;cases h;simp only[Rel] at r;obtain⟨vs,rfl,hl⟩:=r;obtain⟨p1,p2⟩:=Z4 ih cs cs' vs hq hl;exact⟨by simp only[Rel];exact⟨vs,rfl,p1⟩,p2⟩
theorem Sim.frz(S:Sim B F H E){n:Nat}{x y:V}{v:Value}(h:frz (Qd H) n x=some y)(r:Rel E x v):Rel (bare E.tab E.w F) y v/\y.pure=true:=by refine Qud S.fmod ?_ n x y v h r;intro f s xs hx;obtain⟨b,c,T,vs,rest,h1,h2,h3,h4,h5,h6,h7,h8⟩:=S.lies hx;exact⟨b,T,vs,c.size,h1,h5,h8,fun i hi=>by have:=S.fb b i hi;omega,by simp[World.shape?,h3]⟩
theorem Q1t{g:Get}{M:Nat->Nat->Prop}
 (hg:∀f s xs,g f s=some (.cells xs)->∃b T vs n,E.mu f s=some b/\Qe E xs vs/\Qgl E.w b 0 vs/\(∀i,¬M b i)/\E.w.shape? b=some (T,n))
 (hr:∀f s k,g f s=some (.grow k)->∃b lo hi,E.reg f s=some (k,b,lo,hi)/\∀i,¬M b i):
 ∀(n:Nat) (x y:V) (v:Value),frzN g n x=some y->Rel E x v->Rel (bare E.tab E.w M) y v/\y.pure=true:=by
 intro n
 induction n with
 |zero=>intro x y v h;cases h
 |succ n ih=>
  intro x y v h r;cases x with
  |bad=>cases h
  |bool=>cases h;exact⟨by simpa [Rel] using r,rfl⟩
  |int=>cases h;exact⟨by simpa [Rel] using r,rfl⟩
  |str=>cases h;exact⟨by simpa [Rel] using r,rfl⟩
  |nP=>cases h;exact⟨by simpa [Rel] using r,rfl⟩
  |iptr=>cases h
  |nS=>cases h;exact⟨by simpa [Rel] using r,rfl⟩
  |iS=>cases h
  |nM=>cases h;exact⟨by simpa [Rel] using r,rfl⟩
  |nF=>cases h;exact⟨by simpa [Rel] using r,rfl⟩
  |nI=>cases h;exact⟨by simpa [Rel] using r,rfl⟩
  |byte=>cases h;exact⟨by simpa [Rel] using r,rfl⟩
  |map=>cases h
  |yield=>cases h
  |gS f s cs len esz=>
   simp only[frzN] at h;split at h
   case h_2=>cases h
   rename_i k hk;split at h
   case isFalse=>cases h
   rename_i hlen;subst hlen;cases hq:Qx (frzN g n) cs with
   |none=>rw[hq] at h;cases h
   |some cs' =>
    rw[hq] at h;cases h;obtain⟨b1,lo,hi,e1,e2⟩:=hr f s k hk;simp only[Rel] at r;obtain⟨b,off,cap,vs,rfl,h1,h2,h3,_,_,h4⟩:=r;obtain⟨_,h5⟩:=h4 _ _ _ _ e1;obtain⟨rfl,_,_⟩:=h5 rfl;obtain⟨a1,a2⟩:=Z4 ih cs cs' vs hq h3;refine⟨?_,rfl⟩;simp only[Rel];exact⟨_,cap,_,rfl,h1,(fun e=>by cases e),.inr ⟨rfl,fun i v hv=>⟨(h2 i v hv).1,e2 _⟩⟩,a1,a2⟩
  |rptr=>cases h
  |func=>cases h
  |ptr f s o=>
   simp only[frzN] at h;split at h
   case h_2=>cases h
   rename_i xs hx;cases hq:Qx (frzN g n) xs with
   |none=>rw[hq] at h;cases h
   |some cs=>
    rw[hq] at h;cases h;obtain⟨b,T,vs,m,h1,h2,h3,h4,_⟩:=hg f s xs hx;simp only[Rel] at r;obtain⟨b',hb',rfl⟩:=r;rw[h1] at hb';cases hb';obtain⟨a1,a2⟩:=Z4 ih xs cs vs hq h2;refine⟨?_,rfl⟩;simp only[Rel];exact⟨b,0,vs,by rw[Zpw],fun i v hv=>⟨h3 i v hv,h4 _⟩,a1,a2⟩
  |mS f s o len cap esz=>
   simp only[frzN] at h;split at h
   case h_2=>cases h
   rename_i xs hx;split at h
   case isFalse=>cases h
   rename_i hle;cases hq:Qx (frzN g n) ((xs.drop o).take (len*esz)) with
   |none=>rw[hq] at h;cases h
   |some cs=>
    rw[hq] at h;cases h;obtain⟨b,T,vs,m,h1,h2,h3,h4,_⟩:=hg f s xs hx;simp only[Rel] at r;obtain⟨b',c,T',n',hb',rfl,g1,g2,_⟩:=r;rw[h1] at hb';cases hb';obtain⟨a1,a2⟩:=Z4 ih _ cs ((vs.drop o).take (len*esz)) hq ((h2.drop o).take _);refine⟨?_,rfl⟩;simp only[Rel];refine⟨_,c,_,rfl,g1,?_,.inr ⟨rfl,fun i v hv=>⟨h3.from o _ i v hv,h4 _⟩⟩,a1,a2⟩;intro hcap;have:cap=some len:=by simpa using hcap
    exact g2 len this
  |face t x=>
   simp only[frzN] at h;cases hq:frzN g n x with
   |none=>rw[hq] at h;cases h
   |some x' =>
    rw[hq] at h;cases h;simp only[Rel] at r;obtain⟨c,rfl,hc⟩:=r;obtain⟨p1,p2⟩:=ih x x' c hq hc;exact⟨by simp only[Rel];exact⟨c,rfl,p1⟩,p2⟩
  |agg cs=>
   simp only[frzN] at h;cases hq:Qx (frzN g n) cs with
   |none=>rw[hq] at h;cases h
   |some cs' =>
    rw[hq] at h;cases h;simp only[Rel] at r;obtain⟨vs,rfl,hl⟩:=r;obtain⟨p1,p2⟩:=Z4 ih cs cs' vs hq hl;exact⟨by simp only[Rel];exact⟨vs,rfl,p1⟩,p2⟩
  |tuple cs=>
   simp only[frzN] at h;cases hq:Qx (frzN g n) cs with
   |none=>rw[hq] at h;cases h
   |some cs' =>
    rw[hq] at h;cases h;simp only[Rel] at r;obtain⟨vs,rfl,hl⟩:=r;obtain⟨p1,p2⟩:=Z4 ih cs cs' vs hq hl;exact⟨by simp only[Rel];exact⟨vs,rfl,p1⟩,p2⟩
theorem Sim.frzN(S:Sim B F H E){M:Nat->Nat->Prop}(hM:∀b i,M b i->b<B){n:Nat}{x y:V}{v:Value}(h:frzN (Qd H) n x=some y)(r:Rel E x v):Rel (bare E.tab E.w M) y v/\y.pure=true:=by
 refine Q1t ?_ (fun f s k hk=>?_) n x y v h r
 case refine_2=>obtain⟨b,lo,hi,c,T,z,g1,g2,g3,g4,g5,_⟩:=S.obj f s _ hk;exact⟨b,lo,hi,g1,fun i hi=>by have:=hM b i hi;omega⟩
 intro f s xs hx;obtain⟨b,c,T,vs,rest,h1,h2,h3,h4,h5,h6,h7,h8⟩:=S.lies hx;exact⟨b,T,vs,c.size,h1,h5,h8,fun i hi=>by have:=hM b i hi;omega,by simp[World.shape?,h3]⟩
theorem Sim.bareF(S:Sim B F H E):Sim E.w.heap.size F [] (bare E.tab E.w F) where
 dom:=fun f s=>rfl
 bsz:=Zpp _
 fb:=fun b i h=>Zps (S.fb b i h) S.bsz
 fmod:=fun _ _ h=>h
 modsz:=fun b i h=>Zps (S.fb b i h) S.bsz
 obj:=fun f s o h=>by simp[Qd] at h
 nreg:=fun f s n x h=>by cases h
 inj:=fun f s o _ _ _ _ h=>by simp[Qd] at h
theorem Qeh{xs ys:List V}{vs:List Value}(n:Nat)(h:Qx (frz (fun _ _=>none) n) xs=some ys)(r:Qe E xs vs):Qe (bare E.tab E.w E.mod) ys vs/\Qo ys=true:=
 Z4 (Qud (F:=E.mod) (fun _ _ h=>h) (fun _ _ _ h=>by cases h) n) xs ys vs h r
theorem Sim.bare(S:Sim B F H E):Sim E.w.heap.size E.mod [] (bare E.tab E.w E.mod) where
 dom:=fun f s=>rfl
 bsz:=Zpp _
 fb:=S.modsz
 fmod:=fun _ _ h=>h
 modsz:=S.modsz
 obj:=fun f s o h=>by simp[Qd] at h
 nreg:=fun f s n x h=>by cases h
 inj:=fun f s o _ _ _ _ h=>by simp[Qd] at h
theorem Sim.behindM(S:Sim B F H E){M:Nat->Nat->Prop}(hM:∀b i,M b i->E.mod b i){E1:Env}{k:Nat}(X:Ext k E.w.heap.size (AM.bare E.tab E.w M) E1):
 Ext H.length B E {E with w:=E1.w}/\Sim B F H {E with w:=E1.w}:=by
 have hX:Ext H.length B E {E with w:=E1.w}:=by refine⟨X.size,X.shape,fun b i v hm h=>X.cell b i v (fun h' =>hm (hM b i h')) h,fun _ _ _ _ h=>h,fun _ _ _ _ h=>h,fun f s n b lo hi _ _ h=>⟨n,b,lo,hi,h,.inr ⟨rfl,rfl,rfl,rfl⟩⟩,?_,X.rest,rfl,X.dfr⟩;exact fun b hb=>X.old b (Zps hb S.bsz)
 refine⟨hX,S.dom,Zpq S.bsz X.size,S.fb,S.fmod,fun b i h=>Zps (S.modsz b i h) X.size,?_,S.nreg,?_⟩
 . intro f s o ho;exact(S.obj f s o ho).mono hX S.lt rfl rfl (fun b hb=>⟨X.old b (S.blk_lt ho hb),fun i h=>h⟩)
 . intro f s o f' s' o' b h1 h2 h3 h4;refine S.inj f s o f' s' o' b h1 h2 ?_ ?_
   . cases o<;>exact h3
   . cases o' <;>exact h4
theorem Sim.behind(S:Sim B F H E){E1:Env}{k:Nat}(X:Ext k E.w.heap.size (AM.bare E.tab E.w E.mod) E1):
 Ext H.length B E {E with w:=E1.w}/\Sim B F H {E with w:=E1.w}:=S.behindM (fun _ _ h=>h) X
end Go.AM
end
section
namespace Go.AM
variable {P : Program} {E : Env} {B : Nat} {F : Nat -> Nat -> Prop} {H : Heap}
def Env.drop(E:Env)(p:Nat->Nat->Bool):Env:=
 {w:=E.w,mu:=fun f s=>if p f s then none else E.mu f s,reg:=fun f s=>if p f s then none else E.reg f s,mod:=E.mod,tab:=E.tab}
theorem Env.drop_mu(E:Env){p:Nat->Nat->Bool}{f s:Nat}(h:p f s=false):(E.drop p).mu f s=E.mu f s:=by simp[Env.drop,h]
theorem Env.drop_reg(E:Env){p:Nat->Nat->Bool}{f s:Nat}(h:p f s=false):(E.drop p).reg f s=E.reg f s:=by simp[Env.drop,h]
mutual
theorem Rel.strike{p:Nat->Nat->Bool}:∀(x:V) (v:Value),x.refs p=false->Rel E x v->Rel (E.drop p) x v
 | .bad,_,_,_=>by simp[Rel]
 | .bool _,_,_,r| .int _ _,_,_,r| .str _,_,_,r| .nP,_,_,r| .nS,_,_,r| .nM,_,_,r| .nF,_,_,r| .nI,_,_,r| .byte,_,_,r=>by
   simpa only[Rel] using r
 | .ptr f s o,_,q,r=>by
   simp only[V.refs] at q;simp only[Rel,E.drop_mu q] at r⊢;exact r
 | .iptr cells o,_,_,r=>by
   simp only[Rel] at r⊢;obtain⟨b,off,vs,rfl,hr,hl,hp⟩:=r;exact⟨b,off,vs,rfl,hr,Qe.dress (E:=E) (E' :=E.drop p) rfl rfl cells vs hp hl,hp⟩
 | .iS cells len full,_,_,r=>by
   simp only[Rel] at r⊢;obtain⟨a,cap,vs,rfl,h1,h2,hr,hl,hp⟩:=r;exact⟨a,cap,vs,rfl,h1,h2,hr,Qe.dress (E:=E) (E' :=E.drop p) rfl rfl cells vs hp hl,hp⟩
 | .gS f s cells len esz,_,q,r=>by
   simp only[V.refs,Zqe] at q;simp only[Rel,E.drop_mu q.1,E.drop_reg q.1] at r⊢;obtain⟨b,off,cap,vs,rfl,h1,hr,hl,hrest⟩:=r;exact⟨b,off,cap,vs,rfl,h1,hr,Qe.strike cells vs q.2 hl,hrest⟩
 | .rptr cells o,_,q,r=>by
   simp only[V.refs] at q;simp only[Rel] at r⊢;obtain⟨b,off,vs,rfl,hr,hl⟩:=r;exact⟨b,off,vs,rfl,hr,Qe.strike cells vs q hl⟩
 | .mS f s o len cap esz,_,q,r=>by
   simp only[V.refs] at q;simp only[Rel,E.drop_mu q] at r⊢;exact r
 | .map f s,_,q,r=>by
   simp only[V.refs] at q;simp only[Rel,E.drop_mu q] at r⊢;exact r
 | .yield f s,_,q,r=>by
   simp only[V.refs] at q;simp only[Rel,E.drop_mu q] at r⊢;exact r
 | .func fn first captured,_,q,r=>by
   simp only[V.refs,Zqe] at q;simp only[Rel] at r⊢;obtain⟨fs,cs,rfl,h1,h2⟩:=r;exact⟨fs,cs,rfl,Qe.strike first fs q.1 h1,Qe.strike captured cs q.2 h2⟩
 | .face t x,_,q,r=>by
   simp only[V.refs] at q;simp only[Rel] at r⊢;obtain⟨c,rfl,hc⟩:=r;exact⟨c,rfl,Rel.strike x c q hc⟩
 | .agg cells,_,q,r=>by
   simp only[V.refs] at q;simp only[Rel] at r⊢;obtain⟨vs,rfl,hl⟩:=r;exact⟨vs,rfl,Qe.strike cells vs q hl⟩
 | .tuple cells,_,q,r=>by
   simp only[V.refs] at q;simp only[Rel] at r⊢;obtain⟨vs,rfl,hl⟩:=r;exact⟨vs,rfl,Qe.strike cells vs q hl⟩
theorem Qe.strike{p:Nat->Nat->Bool}:∀(xs:List V) (vs:List Value),Qh p xs=false->Qe E xs vs->Qe (E.drop p) xs vs
 |[],_,_,r=>r
 |x::xs,_,q,r=>by
  simp only[Qh,Zqe] at q;obtain⟨v,r',rfl,hv,hr⟩:=Qe.cons_iff.1 r;exact .cons (Rel.strike x v q.1 hv) (Qe.strike xs r' q.2 hr)
end
theorem Z6.strike{p:Nat->Nat->Bool}:∀(es:List (V×V)) (ces:List MapEntry),Qhn p es=false->Z6 E es ces->Z6 (E.drop p) es ces
 |[],_,_,r=>r
 |(k,x)::es,_,q,r=>by
  simp only[Qhn,Zqe] at q;obtain⟨e,r',rfl,h1,h2,h3⟩:=r;exact⟨e,r',rfl,Rel.strike k _ q.1.1 h1,Rel.strike x _ q.1.2 h2,Z6.strike es r' q.2 h3⟩
theorem Sim.drop(S:Sim B F H E){p:Nat->Nat->Bool}{H' :Heap}{k:Nat}(hp:∀f s,p f s=true->k<=f)
 (hget' :∀f s,Qd H' f s=if p f s then none else Qd H f s)(hno:∀f s o,Qd H' f s=some o->o.refs p=false):
 Ext k B E (E.drop p)/\Sim B F H' (E.drop p):=by
 have hold:∀f s o,Qd H' f s=some o->p f s=false/\Qd H f s=some o:=by
  intro f s o ho;rw[hget'] at ho;cases hq:p f s with
  |true=>rw[hq] at ho;cases ho
  |false=>rw[hq] at ho;exact⟨rfl,ho⟩
 refine⟨⟨Zpp _,fun _ _ _ h=>h,fun _ _ _ _ h=>h,fun _ _ _ _ h=>h,?_,?_,fun _ _=>rfl,⟨rfl,rfl,rfl⟩,rfl,fun _ h=>h⟩,⟨?_,S.bsz,S.fb,S.fmod,S.modsz,?_,?_,?_⟩⟩
 . intro f s b hf h;have:p f s=false:=by
    cases hq:p f s with
    |true=>have:=hp f s hq;omega
    |false=>rfl
   rw[E.drop_mu this];exact h
 . intro f s n b lo hi hf hs h;have:p f s=false:=by
    cases hq:p f s with
    |true=>have:=hp f s hq;omega
    |false=>rfl
   rw[E.drop_reg this] at h;exact⟨n,b,lo,hi,h,.inr ⟨rfl,rfl,rfl,rfl⟩⟩
 . intro f s;rw[hget'];cases hq:p f s with
   |true=>simp[Env.drop,hq]
   |false=>rw[E.drop_mu hq];exact S.dom f s
 . intro f s o ho;obtain⟨hq,ho'⟩:=hold f s o ho;have hr:=hno f s o ho;have:=S.obj f s o ho';cases o with
   |cells xs=>
    obtain⟨b,c,T,vs,rest,h1,h2,h3,h4,h5,h6,h7⟩:=this;exact⟨b,c,T,vs,rest,(E.drop_mu hq).trans h1,h2,h3,h4,Qe.strike xs vs hr h5,h6,h7⟩
   |map es bs clk=>
    obtain⟨b,ces,h1,h2,h3,h4,h5⟩:=this;exact⟨b,ces,(E.drop_mu hq).trans h1,h2,h3,Z6.strike es _ hr h4,h5⟩
   |iter m since seen stepped=>
    obtain⟨b,mb,h1,h2,h3,h4⟩:=this;refine⟨b,mb,(E.drop_mu hq).trans h1,h2,h3,?_⟩;cases m with
    |none=>exact h4
    |some x=>
     obtain⟨r,h5,h6⟩:=h4;exact⟨r,h5,(E.drop_mu hr).trans h6⟩
   |grow n=>
    obtain⟨b,lo,hi,c,T,z,h1,h2⟩:=this;exact⟨b,lo,hi,c,T,z,(E.drop_reg hq).trans h1,h2⟩
   |loop st pend fn rid t=>
    obtain⟨b,r,h1,h2,h3,h4,h5,h7,h8⟩:=this;exact⟨b,r,(E.drop_mu hq).trans h1,h2,h3,h4,h5,h7,Qe.strike t _ hr h8⟩
   |siter l pos=>
    obtain⟨b,h1,h2,h3⟩:=this;exact⟨b,(E.drop_mu hq).trans h1,h2,h3⟩
   |dead=>trivial
 . intro f s n x h;rw[hget'];cases hq:p f s with
   |true=>simp[Env.drop,hq] at h
   |false=>rw[E.drop_reg hq] at h;exact S.nreg f s n x h
 . intro f s o f' s' o' b h1 h2 h3 h4;obtain⟨q1,g1⟩:=hold f s o h1;obtain⟨q2,g2⟩:=hold f' s' o' h2;refine S.inj f s o f' s' o' b g1 g2 ?_ ?_
   . cases o<;>simp only[blk,E.drop_mu q1,E.drop_reg q1] at h3<;>exact h3
   . cases o' <;>simp only[blk,E.drop_mu q2,E.drop_reg q2] at h4<;>exact h4
theorem Qrp{p:Nat->Nat->Bool}:∀(fr:Frame) (s:Nat) (o:O),Q0 p fr=true->Xf fr s=some o->o.refs p=false
 |[],s,o,_,h=>by cases h
 |(k,q)::r,s,o,hc,h=>by
  simp only[Q0,Zqf,Zqg] at hc;simp only[Xf] at h;split at h
  . cases h;exact hc.1
  . exact Qrp r s o hc.2 h
theorem Qbn{p:Nat->Nat->Bool}:∀(H:Heap) (f s:Nat) (o:O),Zb p H=true->Qd H f s=some o->o.refs p=false
 |[],f,s,o,_,h=>by simp[Qd] at h
 |fr::r,f,s,o,hc,h=>by
  simp only[Zb,Zqf] at hc;cases f with
  |zero=>exact Qrp fr s o hc.1 (by simpa [Qd] using h)
  |succ f=>exact Qbn r f s o hc.2 (by simpa [Qd] using h)
theorem Qev(H:Heap)(f s:Nat):Qd (H++[[]]) f s=Qd H f s:=by
 unfold Qd;by_cases h:f<H.length
 . rw[Zre h]
 . rw[Zqn (by omega),Zpn (l:=H) (by omega)];by_cases e:f=H.length
   . subst e;simp[Xf]
   . rw[Zpn];simp;omega
theorem Sim.push(S:Sim B F H E):Sim B F (H++[[]]) E where
 dom:=fun f s=>by rw[Qev];exact S.dom f s
 bsz:=S.bsz
 fb:=S.fb
 fmod:=S.fmod
 modsz:=S.modsz
 obj:=fun f s o h=>S.obj f s o (by rw[Qev] at h;exact h)
 nreg:=fun f s n x h=>by rw[Qev];exact S.nreg f s n x h
 inj:=fun f s o f' s' o' b h1 h2=>S.inj f s o f' s' o' b (by rw[Qev] at h1;exact h1) (by rw[Qev] at h2;exact h2)
theorem Q68(H:Heap)(b f s:Nat):Qd (H.take b) f s=if Nat.ble b f then none else Qd H f s:=by
 unfold Qd;rw[Zpx];by_cases h:f<b
 . have:Nat.ble b f=false:=by
    cases hq:Nat.ble b f with
    |true=>have:=Zru hq;omega
    |false=>rfl
   rw[if_pos h,this];rfl
 . have:Nat.ble b f=true:=Zsf (by omega);rw[if_neg h,this];rfl
theorem Sim.pop(S:Sim B F H E)(b:Nat)(x:V)(v:Value)(r:Rel E x v):
 ∃E',E'.w=E.w/\Ext b B E E' /\Sim B F (Bs b x H) E' /\Rel E' x v:=by
 unfold Bs;split
 . rename_i h;simp only[Zqf,Zqg] at h;obtain⟨X,S'⟩:=S.drop (p:=fun f _=>Nat.ble b f) (H' :=H.take b) (k:=b) (fun f s h=>Zru h) (fun f s=>Q68 H b f s)
    (fun f s o ho=>Qbn (H.take b) f s o h.2 ho)
   exact⟨E.drop _,rfl,X,S',Rel.strike x v h.1 r⟩
 . exact⟨E,rfl,Ext.refl _ _ _,S,r⟩
theorem Qgn(b:Nat)(x:V)(H:Heap)(h:b<=H.length):b<=(Bs b x H).length:=by
 unfold Bs;split
 . simp;omega
 . exact h
theorem Qlz(p:Nat->Bool):∀(fr:Frame) (s:Nat),Xf (Jk p fr) s=if p s then none else Xf fr s
 |[],s=>by simp[Jk,Xf]
 |(k,o)::r,s=>by
  simp only[Jk];split
  . rename_i hk;rw[Qlz p r s];simp only[Xf];by_cases e:s=k
    . subst e;simp[hk]
    . simp[e]
  . rename_i hk;simp only[Xf];by_cases e:s=k
    . subst e;simp[hk]
    . simp only[e,if_false];exact Qlz p r s
theorem Qew(H:Heap)(fr:Nat)(ds:List Nat)(f s:Nat):
 Qd (H.modify fr (Jk fun s=>ds.contains s)) f s=if(f==fr&&ds.contains s) then none else Qd H f s:=by
 unfold Qd;rw[Zpj];by_cases e:fr=f
 . subst e;cases H[fr]? with
   |none=>simp
   |some x=>simp[Qlz]
 . have:(f==fr)=false:=by simp;omega
   simp only[e,if_false,this,Zsh,Zpo];cases H[f]?<;>rfl
theorem Quh(keep:List Nat):∀(t:List V) (vs:List Value) (i:Nat),Qe E t vs->Qe E (Jj keep t i) vs
 |[],vs,i,r=>r
 |x::t,vs,i,r=>by
  obtain⟨v,r',rfl,hv,hr⟩:=Qe.cons_iff.1 r;refine .cons ?_ (Quh keep t r' (i+1) hr);split
  . exact hv
  . simp[Rel]
theorem Sim.forgetK(S:Sim B F H E){pol:Pol}{fn fr r:Nat}{t t' :List V}{H' :Heap}{vs:List Value}(h:forgetK pol fn fr r t H=some (t',H'))(hr:Qe E t vs):
 ∃E',E'.w=E.w/\Ext fr B E E' /\Sim B F H' E' /\Qe E' t' vs/\H'.length=H.length:=by
 unfold AM.forgetK at h;split at h
 . cases h;exact⟨E,rfl,Ext.refl _ _ _,S,hr,rfl⟩
 . rename_i kt ds _;split at h
   . cases h
   . rename_i h1;split at h
     case isFalse=>cases h
     rename_i h2;cases h;obtain⟨X,S'⟩:=S.drop (p:=fun f s=>f==fr&&ds.contains s) (H' :=H.modify fr (Jk fun s=>ds.contains s)) (k:=fr)
      (fun f s h=>by simp only[Zqf,beq_iff_eq] at h;omega) (fun f s=>Qew H fr ds f s) (fun f s o ho=>Qbn _ f s o h2 ho)
     exact⟨E.drop _,rfl,X,S',Qe.strike _ _ (by simpa using h1) (Quh kt t vs 0 hr),by simp⟩
theorem Sim.dropOne(S:Sim B F H E){fr s:Nat}{t:List V}{H' :Heap}{vs:List Value}(h:dropOne fr s t H=some H')(hr:Qe E t vs):
 ∃E',E'.w=E.w/\Ext fr B E E' /\Sim B F H' E' /\Qe E' t vs/\H'.length=H.length:=by
 unfold AM.dropOne at h;split at h
 . cases h;exact⟨E,rfl,Ext.refl _ _ _,S,hr,rfl⟩
 . rename_i h1;split at h
   case isFalse=>cases h
   rename_i h2;cases h;obtain⟨X,S'⟩:=S.drop (p:=Jx fr s) (H' :=H.modify fr (Jk fun x=>[s].contains x)) (k:=fr)
    (fun f s h=>by simp only[Jx,Zqf,beq_iff_eq] at h;omega) (fun f s' =>Qew H fr [s] f s') (fun f s' o ho=>Qbn _ f s' o h2 ho)
   exact⟨E.drop _,rfl,X,S',Qe.strike _ _ (by simpa using h1) hr,by simp⟩
theorem Sim.dropAll{fr:Nat}{t:List V}{vs:List Value}:∀(ds:List Nat) {H H' :Heap} {E:Env},Sim B F H E->dropAll fr t ds H=some H' ->Qe E t vs->
 ∃E',E'.w=E.w/\Ext fr B E E' /\Sim B F H' E' /\Qe E' t vs/\H'.length=H.length
 |[],H,H',E,S,h,hr=>by
  simp only[AM.dropAll,Zss] at h;subst h;exact⟨E,rfl,Ext.refl _ _ _,S,hr,rfl⟩
 |s::r,H,H',E,S,h,hr=>by
  simp only[AM.dropAll] at h;split at h
  . rename_i H1 h1;obtain⟨E1,a1,a2,a3,a4,a5⟩:=S.dropOne h1 hr;obtain⟨E2,b1,b2,b3,b4,b5⟩:=Sim.dropAll r a3 h a4;exact⟨E2,b1.trans a1,a2.trans b2,b3,b4,b5.trans a5⟩
  . cases h
def Env.ren(E:Env)(fr a b:Nat):Env:=
 {w:=E.w,mu:=fun f s=>if f=fr/\s=b then E.mu fr a else if f=fr/\s=a then none else E.mu f s
  reg:=fun f s=>if f=fr/\s=b then E.reg fr a else if f=fr/\s=a then none else E.reg f s,mod:=E.mod,tab:=E.tab}
theorem Qcz{fr s f s' :Nat}:Jx fr s f s' =true↔f=fr/\s' =s:=by simp[Jx]
theorem Q7q{fr s f s' :Nat}(h:¬(f=fr/\s' =s)):Jx fr s f s' =false:=by
 cases e:Jx fr s f s' with
 |false=>rfl
 |true=>exact absurd (Qcz.1 e) h
theorem Q43(fr s:Nat):Jx fr s fr s=true:=Qcz.2 ⟨rfl,rfl⟩
theorem Env.ren_b(E:Env)(fr a b:Nat):(E.ren fr a b).mu fr b=E.mu fr a/\(E.ren fr a b).reg fr b=E.reg fr a:=by simp[Env.ren]
theorem Env.ren_o(E:Env){fr a b f s:Nat}(h:¬(f=fr/\s=b)):(E.ren fr a b).mu f s=(E.drop (Jx fr a)).mu f s/\(E.ren fr a b).reg f s=(E.drop (Jx fr a)).reg f s:=by
 by_cases e:f=fr/\s=a
 . obtain⟨rfl,rfl⟩:=e;have hb:¬s=b:=fun e=>h ⟨rfl,e⟩;simp only[Env.ren,Env.drop,Q43,if_true,and_self,hb,and_false,if_false]
 . simp only[Env.ren,Env.drop,if_neg h,if_neg e,Q7q e,Zpo,if_false,and_self]
theorem Sim.moveOne(S:Sim B F H E){fr a b:Nat}{t t' :List V}{H' :Heap}{vs:List Value}(h:moveOne fr a b t H=some (t',H'))(hr:Qe E t vs):
 ∃E',E'.w=E.w/\Ext fr B E E' /\Sim B F H' E' /\Qe E' t' vs/\H'.length=H.length:=by
 unfold AM.moveOne at h;split at h
 case h_2=>cases h;exact⟨E,rfl,Ext.refl _ _ _,S,hr,rfl⟩
 rename_i n ha hb;split at h
 . cases h
 rename_i h1;split at h
 case isFalse=>cases h
 rename_i h2;cases h;have hfr:=Yt ha;have hab:¬a=b:=by rintro rfl;rw[ha] at hb;cases hb
 obtain⟨X,S1⟩:=S.drop (p:=Jx fr a) (H' :=H.modify fr (Jk fun x=>[a].contains x)) (k:=fr)
  (fun f s h=>by simp only[Jx,Zqf,beq_iff_eq] at h;omega) (fun f s' =>Qew H fr [a] f s') (fun f s' o ho=>Qbn _ f s' o h2 ho)
 have hl1:(H.modify fr (Jk fun x=>[a].contains x)).length=H.length:=by simp
 have hget1:∀f s,Qd (H.modify fr (Jk fun x=>[a].contains x)) f s=if Jx fr a f s then none else Qd H f s:=fun f s=>Qew H fr [a] f s
 generalize H.modify fr (Jk fun x=>[a].contains x)=H1 at*;have hb1:Qd H1 fr b=none:=by rw[hget1,hb];split<;>rfl
 have mb1:(E.drop (Jx fr a)).mu fr b=none:=by
  have:=S1.dom fr b;rw[hb1] at this;cases e:(E.drop (Jx fr a)).mu fr b with
  |none=>rfl
  |some x=>rw[e] at this;cases this
 have X2:∀k,Ext k B (E.drop (Jx fr a)) (E.ren fr a b):=fun k=>by
  refine⟨Zpp _,fun _ _ _ h=>h,fun _ _ _ _ h=>h,fun _ _ _ _ h=>h,?_,?_,fun _ _=>rfl,⟨rfl,rfl,rfl⟩,rfl,fun _ h=>h⟩
  . intro f s x _ hx;by_cases e:f=fr/\s=b
    . obtain⟨rfl,rfl⟩:=e;rw[mb1] at hx;cases hx
    . rw[(E.ren_o e).1];exact hx
  . intro f s n b' lo hi _ hs hx;by_cases e:f=fr/\s=b
    . obtain⟨rfl,rfl⟩:=e;rw[mb1] at hs;cases hs
    . rw[(E.ren_o e).2] at hx;exact⟨n,b',lo,hi,hx,.inr ⟨rfl,rfl,rfl,rfl⟩⟩
 have hk:=S1.lt;refine⟨E.ren fr a b,rfl,X.trans (X2 fr),?_,?_,by rw[Zy,hl1]⟩
 . have hg2:∀f s,Qd (hset H1 fr b (.grow n)) f s=if f=fr/\s=b then some (.grow n) else Qd H1 f s:=fun f s=>Xq H1 fr b _ (by omega) f s
   have old:∀f s o,Qd H1 f s=some o->Jx fr a f s=false/\Qd H f s=some o:=by
    intro f s o ho;rw[hget1] at ho;cases hq:Jx fr a f s with
    |true=>rw[hq] at ho;cases ho
    |false=>rw[hq] at ho;exact⟨rfl,ho⟩
   refine⟨?_,S.bsz,S.fb,S.fmod,S.modsz,?_,?_,?_⟩
   . intro f s;rw[hg2];by_cases e:f=fr/\s=b
     . obtain⟨rfl,rfl⟩:=e;rw[if_pos ⟨rfl,rfl⟩,(E.ren_b f a s).1,<-S.dom f a,ha]
     . rw[if_neg e,(E.ren_o e).1];exact S1.dom f s
   . intro f s o ho;rw[hg2] at ho;by_cases e:f=fr/\s=b
     . obtain⟨rfl,rfl⟩:=e;rw[if_pos ⟨rfl,rfl⟩] at ho;cases ho;obtain⟨b',lo,hi,c,T,z,q1,q2⟩:=S.obj f a _ ha;exact⟨b',lo,hi,c,T,z,(E.ren_b f a s).2.trans q1,q2⟩
     . rw[if_neg e] at ho;exact(S1.obj f s o ho).mono (X2 H1.length) hk (E.ren_o e).1 (E.ren_o e).2 fun _ _=>⟨rfl,fun _ h=>h⟩
   . intro f s m x hx;rw[hg2];by_cases e:f=fr/\s=b
     . obtain⟨rfl,rfl⟩:=e;rw[(E.ren_b f a s).2] at hx;have:=S.nreg f a m x hx;rw[ha] at this;rw[if_pos ⟨rfl,rfl⟩];exact this
     . rw[if_neg e];rw[(E.ren_o e).2] at hx;exact S1.nreg f s m x hx
   . have hbl:∀f s o,¬(f=fr/\s=b)->blk (E.ren fr a b) f s o=blk (E.drop (Jx fr a)) f s o:=by
      intro f s o e;cases o<;>simp only[blk,(E.ren_o e).1,(E.ren_o e).2]
     have hbb:∀m,blk (E.ren fr a b) fr b (.grow m)=blk E fr a (.grow m):=fun m=>by simp only[blk,(E.ren_b fr a b).2]
     have hbo:∀f s o,Jx fr a f s=false->blk (E.drop (Jx fr a)) f s o=blk E f s o:=by intro f s o e;cases o<;>simp only[blk,E.drop_mu e,E.drop_reg e]
     intro f s o f' s' o' bl g1 g2 k1 k2;rw[hg2] at g1 g2;by_cases e:f=fr/\s=b
     . by_cases e' :f' =fr/\s' =b
       . exact⟨e.1.trans e'.1.symm,e.2.trans e'.2.symm⟩
       . rw[if_pos e] at g1;rw[if_neg e'] at g2;cases g1;obtain⟨rfl,rfl⟩:=e;obtain⟨q,g2'⟩:=old _ _ _ g2;rw[hbb] at k1;rw[hbl _ _ _ e',hbo _ _ _ q] at k2;have:=S.inj f a _ f' s' o' bl ha g2' k1 k2;rw[Qcz.2 ⟨this.1.symm,this.2.symm⟩] at q;cases q
     . by_cases e' :f' =fr/\s' =b
       . rw[if_neg e] at g1;rw[if_pos e'] at g2;cases g2;obtain⟨rfl,rfl⟩:=e';obtain⟨q,g1'⟩:=old _ _ _ g1;rw[hbb] at k2;rw[hbl _ _ _ e,hbo _ _ _ q] at k1;have:=S.inj f s o f' a _ bl g1' ha k1 k2;rw[Qcz.2 this] at q;cases q
       . rw[if_neg e] at g1;rw[if_neg e'] at g2;rw[hbl _ _ _ e] at k1;rw[hbl _ _ _ e'] at k2;exact S1.inj f s o f' s' o' bl g1 g2 k1 k2
 . have one:∀(x:V) (v:Value),(Qql fr a b x).refs (Jx fr a)=false->Rel E x v->Rel (E.ren fr a b) (Qql fr a b x) v:=by
    intro x v q r;have other:Qql fr a b x=x->Rel (E.ren fr a b) (Qql fr a b x) v:=by intro e;rw[e] at q⊢;exact Rel.mono (X2 H1.length) hk x v (Rel.strike x v q r)
    cases x with
    |gS f s cs m e=>
     by_cases c:f=fr/\s=a
     . obtain⟨rfl,rfl⟩:=c;simp only[Qql,and_self,if_true];simp only[Rel,(E.ren_b f s b).1,(E.ren_b f s b).2] at r⊢;obtain⟨b',off,cap,vs,rfl,h1,hr,hl,hrest⟩:=r;simp only[Qql,and_self,if_true,V.refs,Zqe] at q;exact⟨b',off,cap,vs,rfl,h1,hr,Qe.mono (X2 H1.length) hk cs vs (Qe.strike cs vs q.2 hl),hrest⟩
     . exact other (by simp only[Qql,if_neg c])
    |_=>exact other rfl
   have all:∀(t:List V) (vs:List Value),Qh (Jx fr a) (t.map (Qql fr a b))=false->Qe E t vs->Qe (E.ren fr a b) (t.map (Qql fr a b)) vs:=by
    intro t
    induction t with
    |nil=>intro vs _ h;exact h
    |cons x t ih=>
     intro vs q h;simp only[Zp4,Qh,Zqe] at q;obtain⟨v,r,rfl,hv,hr⟩:=Qe.cons_iff.1 h;exact .cons (one x v q.1 hv) (ih r q.2 hr)
   exact all t vs (by simpa using h1) hr
theorem Sim.moveAll{fr b:Nat}{vs:List Value}:∀(ds:List Nat) {t t' :List V} {H H' :Heap} {E:Env},Sim B F H E->moveAll fr b ds t H=some (t',H')->Qe E t vs->
 ∃E',E'.w=E.w/\Ext fr B E E' /\Sim B F H' E' /\Qe E' t' vs/\H'.length=H.length
 |[],t,t',H,H',E,S,h,hr=>by
  simp only[AM.moveAll,Zss,Prod.mk.injEq] at h;obtain⟨rfl,rfl⟩:=h;exact⟨E,rfl,Ext.refl _ _ _,S,hr,rfl⟩
 |a::r,t,t',H,H',E,S,h,hr=>by
  simp only[AM.moveAll] at h;split at h
  . rename_i t1 H1 h1;obtain⟨E1,a1,a2,a3,a4,a5⟩:=S.moveOne h1 hr;obtain⟨E2,b1,b2,b3,b4,b5⟩:=Sim.moveAll r a3 h a4;exact⟨E2,b1.trans a1,a2.trans b2,b3,b4,b5.trans a5⟩
  . cases h
theorem Sim.forget(S:Sim B F H E){pol:Pol}{fn fr r:Nat}{t t' :List V}{H' :Heap}{vs:List Value}(h:forget pol fn fr r t H=some (t',H'))(hr:Qe E t vs):
 ∃E',E'.w=E.w/\Ext fr B E E' /\Sim B F H' E' /\Qe E' t' vs/\H'.length=H.length:=by
 unfold AM.forget at h;split at h
 . cases h
 rename_i t1 H1 h1;obtain⟨E1,a1,a2,a3,a4,a5⟩:=S.forgetK h1 hr;split at h
 . cases h;exact⟨E1,a1,a2,a3,a4,a5⟩
 rename_i ds c _;split at h
 . cases h
 rename_i H2 h2;obtain⟨E2,b1,b2,b3,b4,b5⟩:=Sim.dropAll _ a3 h2 a4;obtain⟨E3,c1,c2,c3,c4,c5⟩:=Sim.moveAll _ b3 h b4;exact⟨E3,c1.trans (b1.trans a1),(a2.trans b2).trans c2,c3,c4,c5.trans (b5.trans a5)⟩
end Go.AM
end
