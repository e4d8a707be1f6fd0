/- This file holds in one the texts An20, An21, An22; each says at its head what it proves. -/
import Derived.Test.YtidniacddkalaaaGreatDoorT8
set_option linter.unusedSimpArgs false
set_option linter.unusedVariables false
section
namespace Go.AM
def Ko(ops:Array Oper)(o:Oper):List Nat:=
 o.dst.toList++(o.op.operands.toList.filterMap fun| .tmp i=>some i|_=>none)++(match o.guard with|some (j,_)=>((ops[j]?).bind (·.dst)).toList|none=>[])
def Jt(ops:Array Oper)(a b:Oper):Bool:=
 (match a.dst with|some d=> !(Ko ops b).contains d|none=>true)&&(match b.dst with|some d=> !(Ko ops a).contains d|none=>true)
section
variable {P : Program} {pol : Pol} {C : Call} {fn fr : Nat} {ops : Array Oper}
theorem Qhe(t:List V)(dst:Option Nat)(v:V)(i:Nat)(h:dst≠some i):(Qu t dst v)[i]?=t[i]?:=by
 cases dst with
 |none=>rfl
 |some d=>
  simp only[Qu];rw[List.getElem?_set_ne];exact fun e=>h (by rw[e])
theorem Qtb(t:List V)(dst:Option Nat)(v:V)(x:Operand)(h:∀i,x= .tmp i->dst≠some i):rho (Qu t dst v) x=rho t x:=by
 cases x with
 |tmp i=>simp only[rho,List.getD,Qhe t dst v i (h i rfl)]
 |_=>rfl
theorem Qev{a b:Oper}(h:Jt ops a b=true){v:V}(t:List V):∀x∈b.op.operands,rho (Qu t a.dst v) x=rho t x:=by
 intro x hx;refine Qtb t a.dst v x ?_;intro i e hd;simp only[Jt,hd,Zr1,Zss] at h;have:i∈Ko ops b:=by subst e;simp only[Ko,Zr5,List.mem_filterMap];exact .inl (.inr ⟨.tmp i,by simpa using hx,rfl⟩)
 have h1:=h.1;simp at h1;exact h1 this
theorem Qgf{a b:Oper}(h:Jt ops a b=true){v:V}(t:List V):Zy ops (Qu t a.dst v) b=Zy ops t b:=by
 unfold Zy;cases hg:b.guard with
 |none=>rfl
 |some jw=>
  obtain⟨j,want⟩:=jw;simp only;cases hd:(ops[j]?).bind (·.dst) with
  |none=>rfl
  |some d=>
   simp only[Zrr];rw[Qhe];intro e;simp only[Jt,e,Zr1,Zss] at h;have:d∈Ko ops b:=by simp only[Ko,Zr5,hg,hd];exact .inr (by simp)
   have h1:=h.1;simp at h1;exact h1 this
theorem Qkd{a b:Oper}(h:Jt ops a b=true):Jt ops b a=true:=by simp only[Jt,Zr1] at h⊢;exact⟨h.2,h.1⟩
theorem J1{a b:Oper}(h:Jt ops a b=true)(t:List V)(v u:V):Qu (Qu t a.dst v) b.dst u=Qu (Qu t b.dst u) a.dst v:=by
 cases ha:a.dst with
 |none=>rfl
 |some d=>
  cases hb:b.dst with
  |none=>rfl
  |some e=>
   simp only[Qu];rw[List.set_comm];intro he;subst he;simp only[Jt,ha,hb,Zr1,Zss] at h;have:d∈Ko ops b:=by simp[Ko,hb]
   have h1:=h.1;simp at h1;exact h1 this
theorem Qmf(s s' :Nat)(o o' :O)(h:s≠s'):∀fr:Frame,Kf (Kf fr s o) s' o' =Kf (Kf fr s' o') s o
 |[]=>by
  simp only[Kf];by_cases h1:s' <s
  . have h2:¬s<s' :=by omega
    simp only[h,h.symm,h1,h2,if_true,if_false]
  . have h2:s<s' :=by omega
    simp only[h,h.symm,h1,h2,if_true,if_false]
 |(k,p)::r=>by
  simp only[Kf];by_cases e1:s=k
  . subst e1;simp only[if_true];by_cases e2:s' <s
    . have:¬s<s' :=by omega
      simp only[Kf,h,h.symm,e2,this,if_true,if_false]
    . simp only[Kf,h,h.symm,e2,if_true,if_false]
  . by_cases e2:s' =k
    . subst e2;simp only[if_true,e1,if_false];by_cases e3:s<s'
      . have:¬s' <s:=by omega
        simp only[Kf,h,h.symm,e3,this,if_true,if_false]
      . simp only[Kf,h,e3,if_true,if_false]
    . simp only[e1,e2,if_false];by_cases e3:s<k
      . by_cases e4:s' <k
        . simp only[e3,e4,if_true,Kf,h,h.symm,if_false];by_cases e5:s' <s
          . have:¬s<s' :=by omega
            simp only[e5,this,e3,e1,if_true,if_false]
          . have:s<s' :=by omega
            simp only[e5,this,e4,e2,if_true,if_false]
        . have:¬s' <s:=by omega
          simp only[e3,e4,if_true,if_false,Kf,h.symm,e1,e2,this]
      . by_cases e4:s' <k
        . have:¬s<s' :=by omega
          simp only[e3,e4,if_true,if_false,Kf,h,e1,e2,this]
        . simp only[e3,e4,if_false,Kf,e1,e2,Qmf s s' o o' h r]
theorem K5(H:Heap){f s f' s' :Nat}(o o' :O)(h:¬(f=f' /\s=s')):hset (hset H f s o) f' s' o' =hset (hset H f' s' o') f s o:=by
 unfold hset;apply Zs7;intro i;simp only[Zq9];by_cases e1:f=i
 . by_cases e2:f' =i
   . have hs:s≠s' :=fun e=>h ⟨e1.trans e2.symm,e⟩;simp only[e1,e2,if_true];cases H[i]? with
     |none=>rfl
     |some x=>simp[Qmf s s' o o' hs x]
   . simp only[e1,e2,if_true,if_false];cases H[i]?<;>rfl
 . by_cases e2:f' =i
   . simp only[e1,e2,if_true,if_false];cases H[i]?<;>rfl
   . simp only[e1,e2,if_false]
theorem Qa7(H:Heap){f s f' s' :Nat}(o:O)(h:¬(f' =f/\s' =s)):Qd (hset H f s o) f' s' =Qd H f' s' :=by
 unfold Qd hset;rw[Zq9];by_cases e:f=f'
 . subst e;cases H[f]? with
   |none=>rfl
   |some x=>simp[Qcx];exact fun h' =>absurd ⟨rfl,h'⟩ h
 . simp only[e,if_false];cases H[f']?<;>rfl
def Qd7:Option (Nat×Nat×O)->List (Nat×Nat)
 |none=>[]
 |some (f,s,_)=>[(f,s)]
theorem Qo5(t:List V)(H:Heap)(o:Oper){t1:List V}{H1:Heap}(h:Q7 P pol C fn fr t H o=some (.normal,t1,H1)):
 (Jk P pol fn fr t H o= .quiet/\∃v,t1=Qu t o.dst v/\H1=H/\∀(t' :List V) (H' :Heap),(∀x∈o.op.operands,rho t' x=rho t x)->Q7 P pol C fn fr t' H' o=some (.normal,Qu t' o.dst v,H')/\Jk P pol fn fr t' H' o= .quiet)\/
 (∃w v,Jk P pol fn fr t H o= .ids (Kp fr (rho t) o) (Qd7 w)/\t1=Qu t o.dst v/\H1=wr H w/\
   ∀(t' :List V) (H' :Heap),(∀x∈o.op.operands,rho t' x=rho t x)->(∀f s,(f,s)∈Kp fr (rho t) o->Qd H' f s=Qd H f s)->
    Q7 P pol C fn fr t' H' o=some (.normal,Qu t' o.dst v,wr H' w)/\Jk P pol fn fr t' H' o= .ids (Kp fr (rho t) o) (Qd7 w))\/
 (Jk P pol fn fr t H o= .all/\∃v,t1=Qu t o.dst v/\
   ∀(t' :List V),(∀x∈o.op.operands,rho t' x=rho t x)->Q7 P pol C fn fr t' H o=some (.normal,Qu t' o.dst v,H1)/\Jk P pol fn fr t' H o= .all):=by
 have hids:∀t' :List V,(∀x∈o.op.operands,rho t' x=rho t x)->Kp fr (rho t') o=Kp fr (rho t) o:=by
  intro t' ht;simp only[Kp];congr 1;have:∀l:List Operand,(∀x∈l,rho t' x=rho t x)->l.filterMap (fun x=>(rho t' x).id?)=l.filterMap fun x=>(rho t x).id?:=by
   intro l
   induction l with
   |nil=>intro _;rfl
   |cons x l ih=>intro hl;simp only[List.filterMap_cons];rw[hl x (by simp),ih (fun y hy=>hl y (by simp[hy]))]
  exact this _ (fun x hx=>ht x (by simpa using hx))
 unfold Q7 at h;by_cases hq:Q9 o.op=true
 . left;split at h
   . cases h
   . rename_i v w hev;obtain⟨v',hv'⟩:=Yg hq hev;cases hv';cases h;refine⟨by simp[Jk,hq],v,rfl,rfl,fun t' H' ht=>⟨?_,by simp[Jk,hq]⟩⟩;have e:Zr P (pol.mt fn) fr (Qd H') (rho t') o=some (.val v none):=by
      rw[B4 ht,Qki (g' :=Qd H) hq,hev]
     simp only[Q7,e,wr]
   . rename_i v hev;obtain⟨v',hv'⟩:=Yg hq hev;cases hv'
   . rename_i f args hev;obtain⟨v',hv'⟩:=Yg hq hev;cases hv'
   . rename_i f s args hev;obtain⟨v',hv'⟩:=Yg hq hev;cases hv'
 . split at h
   . cases h
   . rename_i v w hev;by_cases hfar:Y9 o.op=true
     . right;right;cases h;refine⟨by simp[Jk,hq,hfar],v,rfl,fun t' ht=>⟨?_,by simp[Jk,hq,hfar]⟩⟩;have e:Zr P (pol.mt fn) fr (Qd H) (rho t') o=some (.val v w):=by rw[B4 ht,hev]
       simp only[Q7,e]
     have hfar' :Y9 o.op=false:=by simpa using hfar
     right;left;cases h;have hfp:∀(t' :List V) (H' :Heap),Zr P (pol.mt fn) fr (Qd H') (rho t') o=some (.val v w)->Kp fr (rho t') o=Kp fr (rho t) o->Jk P pol fn fr t' H' o= .ids (Kp fr (rho t) o) (Qd7 w):=by
      intro t' H' e hi;simp only[Jk,hq,hfar',Zre,if_false,e];cases w with
      |none=>simp only[Qd7,hi]
      |some x=>obtain⟨f,s,q⟩:=x;simp only[Qd7,hi]
     refine⟨w,v,hfp t H hev rfl,rfl,rfl,fun t' H' ht hg=>?_⟩;have e:Zr P (pol.mt fn) fr (Qd H') (rho t') o=some (.val v w):=by rw[B4 ht,Qzs (g' :=Qd H) hfar' hg,hev]
     exact⟨by simp only[Q7,e],hfp t' H' e (hids t' ht)⟩
   . cases h
   . rename_i f args hev;have hfar' :Y9 o.op=false:=by
      cases ho:o.op<;>first|rfl|skip
      simp only[Zr,ho] at hev;cases hx:Qbn (Qd H) (rho t _) with
      |none=>rw[hx] at hev;cases hev
      |some y=>rw[hx] at hev;cases hev
     have hcall:∀(t' :List V) (H' :Heap),(∀x∈o.op.operands,rho t' x=rho t x)->Zr P (pol.mt fn) fr (Qd H') (rho t') o=some (.call f args):=by intro t' H' ht;rw[B4 ht];exact Qsd hev
     by_cases hp:((pol.prim f).isNone&&pol.pure fn f)=true
     . left;have hp' :=hp;simp only[Zr1,Option.isNone_iff_eq_none] at hp';have pureCall:∀(H' :Heap),callOp pol C fn fr o.dst f args H' =(callOp pol C fn fr o.dst f args H).map fun x=>(x.1,H'):=by
        intro H';simp only[callOp,hp'.1,hp'.2,if_true];split
        . split
          . rename_i v1 H2 _;cases frz (Qd H2) depth v1<;>rfl
          . rename_i v1 H2 _;cases frz (Qd H2) depth v1<;>rfl
          . rfl
        . rfl
       split at h
       . rename_i v H2 hc;cases h;have hH:H1=H:=by
          have:=pureCall H;rw[hc] at this;simp at this;exact this
         subst hH;refine⟨by simp only[Jk,hq,hfar',Zre,if_false,hev,hp,if_true],v,rfl,rfl,fun t' H' ht=>⟨?_,?_⟩⟩
         . have:=pureCall H';rw[hc] at this;simp only[Q7,hcall t' H' ht,this,Zrb]
         . simp only[Jk,hq,hfar',Zre,if_false,hcall t' H' ht,hp,if_true]
       . cases h
       . cases h
     . by_cases hl:((pol.prim f).isNone&&pol.lift fn f)=true
       . cases hd:o.dst with
         |none=>
          right;right;split at h
          . rename_i v H2 hc;cases h;refine⟨by simp only[Jk,hq,hfar',Zre,if_false,hev,hp,hl,if_true,hd],v,by rw[hd],fun t' ht=>⟨?_,?_⟩⟩
            . rw[hd] at hc;simp only[Q7,hcall t' H ht,hc,hd]
            . simp only[Jk,hq,hfar',Zre,if_false,hcall t' H ht,hp,hl,if_true,hd]
          . cases h
          . cases h
         |some d=>
          right;left;have hl' :=hl;simp only[Zr1,Option.isNone_iff_eq_none] at hl';have hpure:pol.pure fn f=false:=by
           cases hx:pol.pure fn f with
           |false=>rfl
           |true=>exact absurd (by simp[hl'.1,hx]) hp
          have liftCall:∀(H' :Heap),(Qd H' fr d=Qd H fr d)->callOp pol C fn fr (some d) f args H' =(callOp pol C fn fr (some d) f args H).bind fun x=>match x with
           |(.ret v,_)=>(match callOp pol C fn fr (some d) f args H with
            |some _=>(match Qt (frz (fun _ _=>none) depth) args with
             |some args=>(match C f args [] with
              |some (.ret v,H2)=>(Qcd H2 fr (some d) H v).map fun x=>(.ret x.1,wr H' (some (fr,x.2.1,x.2.2)))
              |_=>none)
             |none=>none)
            |none=>none)
           |_=>none:=by
           intro H' hg;simp only[callOp,hl'.1,hl'.2,hpure,Zre,if_false,if_true];cases Qt (frz (fun _ _=>none) depth) args with
           |none=>rfl
           |some ys=>
            simp only;cases C f ys [] with
            |none=>rfl
            |some q=>
             obtain⟨q,H2⟩:=q;cases q with
             |pan v=>rfl
             |ret v=>
              simp only;have:Qcd H2 fr (some d) H' v=Qcd H2 fr (some d) H v:=by unfold Qcd;cases v<;>simp only[hg]
              rw[this];cases Qcd H2 fr (some d) H v<;>rfl
          have hshape:∀v H2,callOp pol C fn fr (some d) f args H=some (.ret v,H2)->∃o',H2=wr H (some (fr,d,o'))/\∀H',Qd H' fr d=Qd H fr d->callOp pol C fn fr (some d) f args H' =some (.ret v,wr H' (some (fr,d,o'))):=by
           intro v H2 hc;have hc0:=hc;simp only[callOp,hl'.1,hl'.2,hpure,Zre,if_false,if_true] at hc;split at hc
           case h_2=>cases hc
           rename_i ys hys;split at hc
           case h_2=>cases hc
           rename_i v1 H1' hC;cases hL:Qcd H1' fr (some d) H v1 with
           |none=>rw[hL] at hc;cases hc
           |some x=>
            rw[hL] at hc;cases hc;have hx:x.2.1=d:=by
             unfold Qcd at hL;split at hL
             . rename_i hdd;split at hL
               . rename_i es bs clk _ _;cases hz:frzM (frz (Qd H1') depth) es with
                 |none=>rw[hz] at hL;cases hL
                 |some es' =>rw[hz] at hL;cases hL;cases hdd;rfl
               . cases hL
             . rename_i hdd;split at hL
               . split at hL
                 . cases hL;cases hdd;rfl
                 . cases hL
               . cases hL
             . rename_i hdd;split at hL
               . split at hL
                 . cases hL;cases hdd;rfl
                 . cases hL
               . cases hL
             . rename_i hdd;split at hL
               . cases hL;cases hdd;rfl
               . cases hL
             . cases hL
            rw[hx];refine⟨x.2.2,rfl,fun H' hg=>?_⟩;rw[liftCall H' hg,hc0];simp only[Zrr,hys,hC,hL,Zrb,hx]
          split at h
          . rename_i v H2 hc;rw[hd] at hc;cases h;obtain⟨o',rfl,hall⟩:=hshape v _ hc;have hfp:∀(t' :List V) (H' :Heap),(∀x∈o.op.operands,rho t' x=rho t x)->Jk P pol fn fr t' H' o= .ids (Kp fr (rho t) o) (Qd7 (some (fr,d,o'))):=by
             intro t' H' ht;simp only[Jk,hq,hfar',Zre,if_false,hcall t' H' ht,hp,hl,if_true,hd,Qd7,hids t' ht]
            refine⟨some (fr,d,o'),v,hfp t H (fun _ _=>rfl),by rw[hd],rfl,fun t' H' ht hg=>⟨?_,hfp t' H' ht⟩⟩;have hgd:=hg fr d (Qn5 hd);simp only[Q7,hcall t' H' ht,hd,hall H' hgd]
          . cases h
          . cases h
       . right;right;split at h
         . rename_i v H2 hc;cases h;refine⟨by simp only[Jk,hq,hfar',Zre,if_false,hev,hp,hl],v,rfl,fun t' ht=>⟨?_,?_⟩⟩
           . simp only[Q7,hcall t' H ht,hc]
           . simp only[Jk,hq,hfar',Zre,if_false,hcall t' H ht,hp,hl]
         . cases h
         . cases h
   . rename_i f s args hev;right;right;have he:∀t' :List V,(∀x∈o.op.operands,rho t' x=rho t x)->Zr P (pol.mt fn) fr (Qd H) (rho t') o=some (.round f s args):=fun t' ht=>by rw[B4 ht,hev]
     have hall:∀t' :List V,(∀x∈o.op.operands,rho t' x=rho t x)->Jk P pol fn fr t' H o= .all:=fun t' ht=>by simp only[Jk,hq,Zre,if_false,he t' ht];split<;>rfl
     split at h
     . rename_i v H2 hc;cases h;refine⟨hall t (fun _ _=>rfl),v,rfl,fun t' ht=>⟨?_,hall t' ht⟩⟩;simp only[Q7,he t' ht,hc]
     . cases h
def J4(P:Program)(pol:Pol)(C:Call)(fn fr:Nat)(ops:Array Oper)(T:List FP)(i:Nat)(t:List V)(H:Heap):Option (List V×Heap):=
 match ops[i]? with
 |none=>none
 |some o=>match Zy ops t o with
  |none=>none
  |some false=>if T.getD i .all= .quiet then some (Qu t o.dst nov,H) else none
  |some true=>if Jk P pol fn fr t H o=T.getD i .all then(match Q7 P pol C fn fr t H o with
   |some (.normal,t1,H1)=>some (t1,H1)
   |_=>none) else none
def Bk(P:Program)(pol:Pol)(C:Call)(fn fr:Nat)(ops:Array Oper)(T:List FP):List Nat->List V->Heap->Option (List V×Heap)
 |[],t,H=>some (t,H)
 |i::r,t,H=>match J4 P pol C fn fr ops T i t H with
  |some (t1,H1)=>Bk P pol C fn fr ops T r t1 H1
  |none=>none
end
section
variable {P : Program} {pol : Pol} {C : Call} {fn fr : Nat} {ops : Array Oper} {T : List FP}
def Qcc(ops:Array Oper)(o:Oper)(t' t:List V):Prop:=(∀x∈o.op.operands,rho t' x=rho t x)/\Zy ops t' o=Zy ops t o
theorem Qs{a b:Oper}(h:Jt ops a b=true)(v:V)(t:List V):Qcc ops b (Qu t a.dst v) t:=⟨Qev h t,Qgf h t⟩
theorem Qcc.symm{o:Oper}{t t' :List V}(h:Qcc ops o t t'):Qcc ops o t' t:=⟨fun x hx=>(h.1 x hx).symm,h.2.symm⟩
theorem Kr{i:Nat}{o:Oper}{t t1:List V}{H H1:Heap}(ho:ops[i]?=some o)(h:J4 P pol C fn fr ops T i t H=some (t1,H1)):
 (T.getD i .all= .quiet/\∃v,t1=Qu t o.dst v/\H1=H/\∀t' H',Qcc ops o t' t->J4 P pol C fn fr ops T i t' H' =some (Qu t' o.dst v,H'))\/
 (∃w v r,T.getD i .all= .ids r (Qd7 w)/\t1=Qu t o.dst v/\H1=wr H w/\
   ∀t' H',Qcc ops o t' t->(∀f s,(f,s)∈r->Qd H' f s=Qd H f s)->J4 P pol C fn fr ops T i t' H' =some (Qu t' o.dst v,wr H' w))\/
 (T.getD i .all= .all/\∃v,t1=Qu t o.dst v/\∀t',Qcc ops o t' t->J4 P pol C fn fr ops T i t' H=some (Qu t' o.dst v,H1)):=by
 simp only[J4,ho] at h⊢;split at h
 . cases h
 . rename_i hw;split at h
   . rename_i hT;cases h;left;refine⟨hT,nov,rfl,rfl,fun t' H' ha=>?_⟩;rw[ha.2,hw];simp only[hT,if_true]
   . cases h
 . rename_i hw;split at h
   case isFalse=>cases h
   rename_i hT;split at h
   case h_2=>cases h
   rename_i t2 H2 hop;cases h;rcases Qo5 t H o hop with⟨h1,v,h2,h3,h4⟩|⟨w,v,h1,h2,h3,h4⟩|⟨h1,v,h2,h3⟩
   . left;refine⟨hT.symm.trans h1,v,h2,h3,fun t' H' ha=>?_⟩;obtain⟨g1,g2⟩:=h4 t' H' ha.1;rw[ha.2,hw];simp only[g1,g2,<-hT,h1,if_true]
   . right;left;refine⟨w,v,_,hT.symm.trans h1,h2,h3,fun t' H' ha hg=>?_⟩;obtain⟨g1,g2⟩:=h4 t' H' ha.1 hg;rw[ha.2,hw];simp only[g1,g2,<-hT,h1,if_true]
   . right;right;refine⟨hT.symm.trans h1,v,h2,fun t' ha=>?_⟩;obtain⟨g1,g2⟩:=h3 t' ha.1;rw[ha.2,hw];simp only[g1,g2,<-hT,h1,if_true]
theorem Qc7{a b:List (Nat×Nat)}(h:(!Qd5 a b)=true){x:Nat×Nat}(hx:x∈a):x∉b:=by intro hb;simp only[Qd5,Zss,Ztg] at h;exact h x hx (by simpa using hb)
theorem Q9i{H:Heap}{w:Option (Nat×Nat×O)}{f s:Nat}(h:(f,s)∉Qd7 w):Qd (wr H w) f s=Qd H f s:=by
 cases w with
 |none=>rfl
 |some x=>
  obtain⟨f',s',q⟩:=x;simp only[wr];refine Qa7 H q ?_;rintro⟨rfl,rfl⟩;exact h (by simp[Qd7])
theorem Zdt{H:Heap}{w w' :Option (Nat×Nat×O)}(h:(!Qd5 (Qd7 w) (Qd7 w'))=true):wr (wr H w) w' =wr (wr H w') w:=by
 cases w with
 |none=>rfl
 |some x=>
  cases w' with
  |none=>rfl
  |some y=>
   obtain⟨f,s,q⟩:=x;obtain⟨f',s',q'⟩:=y;simp only[wr];refine K5 H q q' ?_;rintro⟨rfl,rfl⟩;exact Qc7 h (x:=(f,s)) (by simp[Qd7]) (by simp[Qd7])
theorem Qmk{i j:Nat}{oi oj:Oper}(hi:ops[i]?=some oi)(hj:ops[j]?=some oj)(ha:Jt ops oi oj=true)(hI:(T.getD i .all).indep (T.getD j .all)=true)
 {t t1 t2:List V}{H H1 H2:Heap}(h1:J4 P pol C fn fr ops T i t H=some (t1,H1))(h2:J4 P pol C fn fr ops T j t1 H1=some (t2,H2)):
 ∃t1' H1',J4 P pol C fn fr ops T j t H=some (t1',H1')/\J4 P pol C fn fr ops T i t1' H1' =some (t2,H2):=by
 have hs:=Qkd ha;rcases Kr hi h1 with⟨q1,v,rfl,rfl,g1⟩|⟨w,v,r,q1,rfl,rfl,g1⟩|⟨q1,v,rfl,g1⟩
 . rcases Kr hj h2 with⟨q2,u,rfl,rfl,g2⟩|⟨w',u,r',q2,rfl,rfl,g2⟩|⟨q2,u,rfl,g2⟩
   . refine⟨_,_,g2 t H2 (Qs ha v t).symm,?_⟩;rw[g1 _ _ (Qs hs u t),J1 ha]
   . refine⟨_,_,g2 t H1 (Qs ha v t).symm (fun _ _ _=>rfl),?_⟩;rw[g1 _ _ (Qs hs u t),J1 ha]
   . refine⟨_,_,g2 t (Qs ha v t).symm,?_⟩;rw[g1 _ _ (Qs hs u t),J1 ha]
 . rcases Kr hj h2 with⟨q2,u,rfl,rfl,g2⟩|⟨w',u,r',q2,rfl,rfl,g2⟩|⟨q2,u,rfl,g2⟩
   . refine⟨_,_,g2 t H (Qs ha v t).symm,?_⟩;rw[g1 _ _ (Qs hs u t) (fun _ _ _=>rfl),J1 ha]
   . rw[q1,q2] at hI;simp only[FP.indep,Zr1] at hI;obtain⟨⟨i1,i2⟩,i3⟩:=hI;refine⟨_,_,g2 t H (Qs ha v t).symm (fun f s hm=>?_),?_⟩
     . exact(Q9i (fun hw=>Qc7 i1 hw hm)).symm
     . rw[g1 _ _ (Qs hs u t) (fun f s hm=>Q9i (fun hw=>Qc7 i3 hw hm)),J1 ha,Zdt i2]
   . rw[q1,q2] at hI;cases hI
 . rcases Kr hj h2 with⟨q2,u,rfl,rfl,g2⟩|⟨w',u,r',q2,rfl,rfl,g2⟩|⟨q2,u,rfl,g2⟩
   . refine⟨_,_,g2 t H (Qs ha v t).symm,?_⟩;rw[g1 _ (Qs hs u t),J1 ha]
   . rw[q1,q2] at hI;cases hI
   . rw[q1,q2] at hI;cases hI
theorem Qb2{i:Nat}{l2:List Nat}{res:List V×Heap}(hi:i<ops.size):∀(l1:List Nat) (t:List V) (H:Heap),
 (∀j∈l1,j<ops.size/\Jt ops (ops.getD j default) (ops.getD i default)=true/\(T.getD j .all).indep (T.getD i .all)=true)->
 Bk P pol C fn fr ops T (l1++i::l2) t H=some res->Bk P pol C fn fr ops T (i::(l1++l2)) t H=some res
 |[],t,H,_,h=>h
 |j::l1,t,H,hl,h=>by
  obtain⟨hj,ha,hI⟩:=hl j (by simp);simp only[Zs0,Bk] at h;cases h1:J4 P pol C fn fr ops T j t H with
  |none=>rw[h1] at h;cases h
  |some x=>
   obtain⟨t1,H1⟩:=x;rw[h1] at h;have ih:=Qb2 hi l1 t1 H1 (fun k hk=>hl k (by simp[hk])) h;simp only[Bk] at ih;cases h2:J4 P pol C fn fr ops T i t1 H1 with
   |none=>rw[h2] at ih;cases ih
   |some y=>
    obtain⟨t2,H2⟩:=y;rw[h2] at ih;have e1:ops[j]?=some (ops.getD j default):=by simp[Array.getD,hj]
    have e2:ops[i]?=some (ops.getD i default):=by simp[Array.getD,hi]
    obtain⟨t1',H1',g1,g2⟩:=Qmk e1 e2 ha hI h1 h2;simp only[Zs0,Bk,g1,g2];exact ih
end
theorem Qg8(ops:Array Oper):(Region.before ops).size=ops.size/\∀i o j,ops[i]?=some o->((Region.before ops).getD i 0).testBit j=true->
 ∃e∈o.after,Region.binds .any e=true/\(e.on=j\/((Region.before ops).getD e.on 0).testBit j=true):=by
 have key:∀(l:List Oper) (acc:Array Nat) (pre:List Oper),acc.size=pre.length->
  (∀i o j,pre[i]?=some o->(acc.getD i 0).testBit j=true->∃e∈o.after,Region.binds .any e=true/\(e.on=j\/(acc.getD e.on 0).testBit j=true))->
  (l.foldl (fun acc o=>acc.push (o.after.foldl (fun s e=>if Region.binds .any e then s|||2^e.on|||acc.getD e.on 0 else s) 0)) acc).size=pre.length+l.length/\
  ∀i o j,(pre++l)[i]?=some o->((l.foldl (fun acc o=>acc.push (o.after.foldl (fun s e=>if Region.binds .any e then s|||2^e.on|||acc.getD e.on 0 else s) 0)) acc).getD i 0).testBit j=true->
   ∃e∈o.after,Region.binds .any e=true/\(e.on=j\/((l.foldl (fun acc o=>acc.push (o.after.foldl (fun s e=>if Region.binds .any e then s|||2^e.on|||acc.getD e.on 0 else s) 0)) acc).getD e.on 0).testBit j=true):=by
  intro l
  induction l with
  |nil=>intro acc pre hs h;simpa [hs] using h
  |cons o l ih=>
   intro acc pre hs h;simp only[Zr8];generalize hn:o.after.foldl (fun s e=>if Region.binds .any e then s|||2^e.on|||acc.getD e.on 0 else s) 0=n;have hgrow:∀k j,(acc.getD k 0).testBit j=true->((acc.push n).getD k 0).testBit j=true:=by
    intro k j hb;have hk:k<acc.size:=by
     rcases Zrc k acc.size with hk|hk
     . exact hk
     . simp[Array.getD,Nat.not_lt.2 hk] at hb
    have:(acc.push n).getD k 0=acc.getD k 0:=by simp only[Array.getD,hk,Zrk,Zrl hk,dif_pos,Zth];exact Array.getElem_push_lt hk
    rw[this];exact hb
   have hfold:∀(es:List Edge) (s j:Nat),((es.foldl (fun s e=>if Region.binds .any e then s|||2^e.on|||acc.getD e.on 0 else s) s)).testBit j=true->
    s.testBit j=true\/∃e∈es,Region.binds .any e=true/\(e.on=j\/(acc.getD e.on 0).testBit j=true):=by
    intro es
    induction es with
    |nil=>intro s j hb;exact .inl hb
    |cons e es ihe=>
     intro s j hb;simp only[Zr8] at hb;rcases ihe _ j hb with g|⟨e',he',g⟩
     . by_cases hbd:Region.binds .any e=true
       . rw[if_pos hbd] at g;simp only[Nat.testBit_or,Zs4,Nat.testBit_two_pow,decide_eq_true_eq] at g;rcases g with(g|g)|g
         . exact .inl g
         . exact .inr ⟨e,by simp,hbd,.inl g⟩
         . exact .inr ⟨e,by simp,hbd,.inr g⟩
       . rw[if_neg hbd] at g;exact .inl g
     . exact .inr ⟨e',by simp[he'],g⟩
   have:=ih (acc.push n) (pre++[o]) (by simp[hs]) (by
    intro i o' j hi hb;rcases Zrc i pre.length with hlt|hge
    . have hi' :pre[i]?=some o' :=by rw[Zsk hlt] at hi;exact hi
      have:(acc.push n).getD i 0=acc.getD i 0:=by
       have hk:i<acc.size:=by omega
       simp only[Array.getD,hk,Zrk,Zrl hk,dif_pos,Zth];exact Array.getElem_push_lt hk
      rw[this] at hb;obtain⟨e,h1,h2,h3⟩:=h i o' j hi' hb;exact⟨e,h1,h2,h3.imp_right (hgrow _ _)⟩
    . have hieq:i=pre.length:=by
       rcases Zrc i (pre++[o]).length with g|g
       . simp at g;omega
       . rw[Zrd g] at hi;cases hi
      subst hieq;have ho:o' =o:=by simpa using hi.symm
      subst ho;have hnv:(acc.push n).getD pre.length 0=n:=by rw[<-hs];simp[Array.getD]
      rw[hnv,<-hn,<-Zr9] at hb;rcases hfold _ _ _ hb with g|⟨e,h1,h2,h3⟩
      . simp at g
      . exact⟨e,by simpa using h1,h2,h3.imp_right (hgrow _ _)⟩)
   simpa [Zsg,Nat.add_comm 1] using this
 have:=key ops.toList #[] [] rfl (by intro i o j hi;simp at hi);simp only[Zs9,Zrm,Zti,Zsq] at this;have e:Region.before ops=ops.toList.foldl (fun acc o=>acc.push (o.after.foldl (fun s e=>if Region.binds .any e then s|||2^e.on|||acc.getD e.on 0 else s) 0)) #[]:=by unfold Region.before;rw[<-Zr9]
 rw[e];refine⟨this.1,fun i o j hi hb=>this.2 i o j (by simpa using hi) hb⟩
def Qbm(ops:Array Oper):Bool:=
 (List.range ops.size).all fun i=>
   ((ops.getD i default).after.all fun e=>!Region.binds .any e||decide (e.on<i))&&
   (List.range i).all fun j=>((Region.before ops).getD i 0).testBit j||Jt ops (ops.getD j default) (ops.getD i default)
section
variable {P : Program} {pol : Pol} {C : Call} {fn fr : Nat} {ops : Array Oper} {T : List FP}
theorem Qhv{bef:Array Nat}:∀{l:List (FP×Nat)},okT bef l=true->∀{l1 l2:List (FP×Nat)} {a b:FP} {i j:Nat},l=l1++(a,i)::l2->(b,j)∈l2->
 (bef.getD j 0).testBit i=true\/a.indep b=true
 |[],_,l1,l2,a,b,i,j,h,_=>by simp at h
 |(c,k)::r,h,l1,l2,a,b,i,j,he,hm=>by
  simp only[okT,Zr1,Zr2] at h;cases l1 with
  |nil=>
   simp only[Zti,List.cons.injEq,Prod.mk.injEq] at he;obtain⟨⟨rfl,rfl⟩,rfl⟩:=he;have:=h.1 (b,j) hm;simpa using this
  |cons x l1=>
   simp only[Zs0,List.cons.injEq] at he;exact Qhv h.2 he.2 hm
theorem Qmo{bef:Array Nat}(h:okT bef (loud T)=true){i j:Nat}(hij:i<j)(hj:j<T.length):
 (bef.getD j 0).testBit i=true\/(T.getD i .all).indep (T.getD j .all)=true:=by
 have hi:i<T.length:=Zrh hij hj;have ei:T.getD i .all=T[i]:=by simp[List.getD,hi]
 have ej:T.getD j .all=T[j]:=by simp[List.getD,hj]
 rw[ei,ej];by_cases qi:T[i]= .quiet
 . right;rw[qi];cases T[j]<;>rfl
 by_cases qj:T[j]= .quiet
 . right;rw[qj];cases T[i]<;>rfl
 have hsplit:T.zipIdx=(T.zipIdx.take i)++(T[i],i)::T.zipIdx.drop (i+1):=by
  have hl:i<T.zipIdx.length:=by simpa using hi
  have e:T.zipIdx[i]=(T[i],i):=by simp
  rw[<-e,List.getElem_cons_drop];exact(Zse _ _).symm
 have e:loud T=(T.zipIdx.take i).filter (fun x=>x.1.loud)++(T[i],i)::(T.zipIdx.drop (i+1)).filter (fun x=>x.1.loud):=by
  unfold loud
  conv=>lhs;rw[hsplit]
  rw[Ztj,Ztk];have:(T[i],i).1.loud=true:=by simp only;cases hq:T[i]<;>first|exact absurd hq qi|rfl
  rw[if_pos this]
 refine Qhv h e ?_;rw[Ztl];constructor
 . rw[Zsn];refine⟨j-(i+1),?_⟩;rw[Zta];have:i+1+(j-(i+1))=j:=by omega
   rw[this];simp[hj]
 . simp only;cases hq:T[j]<;>first|exact absurd hq qj|rfl
theorem Qh4(h:Qbm ops=true):∀i,i<ops.size->(∀e∈(ops.getD i default).after,Region.binds .any e=true->e.on<i)/\
 ∀j,j<i->((Region.before ops).getD i 0).testBit j=true\/Jt ops (ops.getD j default) (ops.getD i default)=true:=by
 simp only[Qbm,Zr1,Zr2,Zs8,Zs4] at h;intro i hi;obtain⟨h1,h2⟩:=h i hi;refine⟨fun e he hbd=>?_,h2⟩;have h3:=Ztm.1 h1 e he;simpa [hbd] using h3
def B0(n:Nat)(listed:Array Bool):List Nat:=(List.range n).filter fun i=>!listed.getD i true
theorem Qoa{n i:Nat}{listed:Array Bool}(hn:listed.size=n)(hi:i<n)(hu:listed.getD i true=false):
 B0 n listed=(List.range i).filter (fun k=>!listed.getD k true)++i::((List.range' (i+1) (n-(i+1))).filter fun k=>!listed.getD k true)/\
 B0 n (listed.setIfInBounds i true)=(List.range i).filter (fun k=>!listed.getD k true)++((List.range' (i+1) (n-(i+1))).filter fun k=>!listed.getD k true):=by
 have hr:List.range n=List.range i++i::List.range' (i+1) (n-(i+1)):=by
  have e:n=i+(n-i):=by omega
  have e2:n-i=(n-(i+1))+1:=by omega
  conv=>lhs;rw[e,Zru,<-List.range'_append_1]
  rw[<-Zru,Zrm,e2,Zrt]
 have hset:∀k,k≠i->(listed.setIfInBounds i true).getD k true=listed.getD k true:=by intro k hk;simp only[Zrp];rw[Zrv (fun e=>hk e.symm)]
 have hseti:(listed.setIfInBounds i true).getD i true=true:=by simp[Zrp,hn,hi]
 constructor
 . unfold B0;rw[hr,Ztj,Ztk,hu];rfl
 . unfold B0;rw[hr,Ztj,Ztk,hseti];simp only[Ztn,Zre,if_false];congr 1
   . refine List.filter_congr fun k hk=>?_;rw[hset k (by have:=Zs8.1 hk;omega)]
   . refine List.filter_congr fun k hk=>?_;rw[hset k (by have:=(List.mem_range'_1.1 hk).1;omega)]
def Q2f(ops:Array Oper)(listed:Array Bool):Prop:=∀i j,i<ops.size->listed.getD i false=true->((Region.before ops).getD i 0).testBit j=true->listed.getD j false=true
theorem Qf3(h:Qbm ops=true)(hT:T.length=ops.size)(hok:okT (Region.before ops) (loud T)=true){res:List V×Heap}:
 ∀(fuel tp:Nat) (listed:Array Bool) (acc:List Nat) (t:List V) (H:Heap),listed.size=ops.size->Q2f ops listed->(B0 ops.size listed).length=fuel->
  Bk P pol C fn fr ops T (B0 ops.size listed) t H=some res->
  ∃L,Region.linearise.go .any ops fuel tp listed acc=acc.reverse++L/\Bk P pol C fn fr ops T L t H=some res:=by
 have hsp:=Qh4 h;intro fuel
 induction fuel with
 |zero=>
  intro tp listed acc t H _ _ hl hr;have:B0 ops.size listed=[]:=List.length_eq_zero_iff.1 hl;rw[this] at hr;exact⟨[],by simp[Region.linearise.go],hr⟩
 |succ fuel ih=>
  intro tp listed acc t H hsz hcl hl hr;simp only[Region.linearise.go];generalize hrs:(List.range ops.size).filter (fun i=>!listed.getD i true&&((ops[i]?).map (·.after.all fun e=>!Region.binds .any e||listed.getD e.on false)).getD false)=rs;obtain⟨m,hm,hmin⟩:∃m,m∈B0 ops.size listed/\∀k∈B0 ops.size listed,m<=k:=by
   cases htd:B0 ops.size listed with
   |nil=>rw[htd] at hl;cases hl
   |cons m r=>
    refine⟨m,by simp,fun k hk=>?_⟩;have hp:(B0 ops.size listed).Pairwise (· < ·):=List.Pairwise.filter _ List.pairwise_lt_range;rw[htd] at hp;rcases Zrx.1 hk with rfl|hk
    . exact Zrf _
    . exact Zrq ((List.pairwise_cons.1 hp).1 k hk)
  have hm' :=hm;simp only[B0,Ztl,Zs8,Zss] at hm';have hrm:m∈rs:=by
   rw[<-hrs,Ztl];refine⟨Zs8.2 hm'.1,?_⟩;have eo:ops[m]?=some (ops.getD m default):=by simp[Array.getD,hm'.1]
   simp only[hm'.2,Zto,Zsy,eo,Zrb,Zs3];rw[Ztm];intro e he;cases hbd:Region.binds .any e with
   |false=>rfl
   |true=>
   have hlt:=(hsp m hm'.1).1 e he hbd;simp only[Ztn,Zs2];have hon:e.on<ops.size:=Zrh hlt hm'.1;cases hb:listed.getD e.on false with
   |true=>rfl
   |false=>
    have:e.on∈B0 ops.size listed:=by simp only[B0,Ztl,Zs8,Zss];refine⟨hon,?_⟩;simp only[Array.getD,hsz,hon,dif_pos] at hb⊢;exact hb
    have:=hmin _ this;omega
  have hpos:0<rs.length:=List.length_pos_of_mem hrm;have hlt:tp%rs.length<rs.length:=Nat.mod_lt _ hpos;rw[Zra hlt];generalize hi:rs[tp%rs.length]=i;have hir:i∈rs:=by rw[<-hi];exact Ztp hlt
  rw[<-hrs,Ztl] at hir;obtain⟨hin,hir⟩:=hir;have hin:=Zs8.1 hin;simp only[Zr1,Zss] at hir;obtain⟨hu,hir⟩:=hir;have eo:ops[i]?=some (ops.getD i default):=by simp[Array.getD,hin]
  simp only[eo,Zrb,Zs3] at hir;rw[Ztm] at hir;have hbefore:∀j,((Region.before ops).getD i 0).testBit j=true->listed.getD j false=true:=by
   intro j hb;obtain⟨e,he,hbd,hor⟩:=(Qg8 ops).2 i _ j eo hb;have:=hir e he;simp only[hbd,Ztn,Zs2] at this;rcases hor with rfl|hor
   . exact this
   . exact hcl e.on j (Zrh ((hsp i hin).1 e he hbd) hin) this hor
  obtain⟨e1,e2⟩:=Qoa hsz hin hu;rw[e1] at hr;have hb:=Qb2 hin _ t H (fun j hj=>by
   rw[Ztl] at hj;have hjl:=Zs8.1 hj.1;have hjn:j<ops.size:=Zrh hjl hin;have hnb:((Region.before ops).getD i 0).testBit j≠true:=by intro hb;have:=hbefore j hb;have hj2:=hj.2;simp only[Array.getD,hsz,hjn,dif_pos,Zss] at this hj2;rw[this] at hj2;cases hj2
   refine⟨hjn,?_,?_⟩
   . exact((hsp i hin).2 j hjl).resolve_left hnb
   . exact(Qmo hok hjl (by rw[hT];exact hin)).resolve_left hnb) hr
  simp only[Bk] at hb;cases hst:J4 P pol C fn fr ops T i t H with
  |none=>rw[hst] at hb;cases hb
  |some x=>
   obtain⟨t1,H1⟩:=x;rw[hst] at hb;simp only at hb;rw[<-e2] at hb;have hgs:∀k,(listed.setIfInBounds i true).getD k false=true↔(k=i\/listed.getD k false=true):=by
    intro k;by_cases hk:k=i
    . subst hk;simp[Zrp,hsz,hin]
    . simp only[hk,false_or,Zrp];rw[Zrv (fun e=>hk e.symm)]
   obtain⟨L,g1,g2⟩:=ih (tp/rs.length) (listed.setIfInBounds i true) (i::acc) t1 H1 (by simpa using hsz) (by
    intro k j hk hkl hkb;rw[hgs] at hkl⊢;rcases hkl with hki|hkl
    . rw[hki] at hkb;exact .inr (hbefore j hkb)
    . exact .inr (hcl k j hk hkl hkb)) (by
    have hl1:=hl;rw[e1] at hl1;rw[e2];simp only[Zsi,Zrs] at hl1⊢
    omega) hb
   refine⟨i::L,?_,?_⟩
   . simpa using g1
   . simp only[Bk,hst];exact g2
theorem Qds(h:Qbm ops=true)(hT:T.length=ops.size)(hok:okT (Region.before ops) (loud T)=true){res:List V×Heap}{t:List V}{H:Heap}
 (hr:Bk P pol C fn fr ops T (List.range ops.size) t H=some res){m:Bool}(hm:m=true)(tp:Nat):Bk P pol C fn fr ops T (Region.schedule m ops tp) t H=some res:=by
 subst hm;have e0:B0 ops.size (Array.replicate ops.size false)=List.range ops.size:=by unfold B0;rw[List.filter_eq_self];intro k hk;have:=Zs8.1 hk;simp[Array.getD,this]
 obtain⟨L,g1,g2⟩:=Qf3 (P:=P) (pol:=pol) (C:=C) (fn:=fn) (fr:=fr) h hT hok ops.size tp (Array.replicate ops.size false) [] t H (by simp) (by
  intro i j hi hl
  simp[Array.getD] at hl) (by rw[e0];simp) (by rw[e0];exact hr)
 have:Region.schedule true ops tp=L:=by simp only[Region.schedule,Bool.true_or,if_true,Region.linearise];simpa using g1
 rw[this];exact g2
theorem Qa6:∀(l pre:List Oper) (T0:List FP) (t:List V) (H:Heap) (t' :List V) (H' :Heap) (T1:List FP),ops.toList=pre++l->T0.length=pre.length->
 Q3 P pol C fn fr ops l t H=some (t',H',T1)->T1.length=l.length/\Bk P pol C fn fr ops (T0++T1) (List.range' pre.length l.length) t H=some (t',H')
 |[],pre,T0,t,H,t',H',T1,_,_,h=>by cases h;exact⟨rfl,rfl⟩
 |o::l,pre,T0,t,H,t',H',T1,he,hl,h=>by
  have ho:ops[pre.length]?=some o:=by
   have:ops.toList[pre.length]?=some o:=by rw[he];simp
   simpa using this
  have he' :ops.toList=(pre++[o])++l:=by rw[he];simp
  have main:∀(fp:FP) (t1:List V) (H1:Heap),(∀T2:List FP,J4 P pol C fn fr ops (T0++fp::T2) pre.length t H=some (t1,H1))->
   (match Q3 P pol C fn fr ops l t1 H1 with
   |some (t',H',T)=>some (t',H',fp::T)
   |none=>none)=some (t',H',T1)->T1.length=(o::l).length/\Bk P pol C fn fr ops (T0++T1) (List.range' pre.length (o::l).length) t H=some (t',H'):=by
   intro fp t1 H1 hst hm;split at hm
   case h_2=>cases hm
   rename_i t2 H2 T2 hrun;cases hm;obtain⟨g1,g2⟩:=Qa6 l (pre++[o]) (T0++[fp]) t1 H1 _ _ _ he' (by simp[hl]) hrun;refine⟨by simp[g1],?_⟩;simp only[Zrs,Zrt,Bk,hst];simpa using g2
  have Qd:∀(fp:FP) (T2:List FP),(T0++fp::T2).getD pre.length .all=fp:=by intro fp T2;simp[List.getD,<-hl]
  simp only[Q3] at h;split at h
  . cases h
  . rename_i hw;refine main .quiet (Qu t o.dst nov) H (fun T2=>?_) h;simp only[J4,ho,hw,Qd,if_true]
  . rename_i hw;split at h
    case h_2=>cases h
    rename_i t1 H1 hop;refine main (Jk P pol fn fr t H o) t1 H1 (fun T2=>?_) h;simp only[J4,ho,hw,Qd,if_true,hop]
end
end Go.AM
end
