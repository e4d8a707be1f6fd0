/- This file holds in one the texts Bx20, Bx21, Bx22, Bx16, Bx53; each says at its head what it proves. -/
import Derived.Test.YtjllfbejpjonnaaGreatDoorT6
import Derived.Test.YtjllfbejpjonnaaGreatDoorT13
set_option linter.unusedSimpArgs false
set_option linter.unusedVariables false
section
namespace Go.AM.BM
def Kj(ops:Array Oper)(o:Oper):List Nat:=
 o.dst.toList++(o.op.operands.toList.filterMap fun| .tmp i=>some i|_=>none)++(match o.guard with|some (j,_)=>((ops[j]?).bind (·.dst)).toList|none=>[])
def J0(ops:Array Oper)(a b:Oper):Bool:=
 (match a.dst with|some d=> !(Kj ops b).contains d|none=>true)&&(match b.dst with|some d=> !(Kj ops a).contains d|none=>true)
section
variable {P : Program} {pol : Pol} {C : Call} {ops : Array Oper}
theorem Qhq(t:List V)(dst:Option Nat)(v:V)(i:Nat)(h:dst≠some i):(Q1 t dst v)[i]?=t[i]?:=by
 cases dst with
 |none=>rfl
 |some d=>
  simp only[Q1];rw[List.getElem?_set_ne];exact fun e=>h (by rw[e])
theorem Quf(t:List V)(dst:Option Nat)(v:V)(x:Operand)(h:∀i,x= .tmp i->dst≠some i):rho (Q1 t dst v) x=rho t x:=by
 cases x with
 |tmp i=>simp only[rho,List.getD,Qhq t dst v i (h i rfl)]
 |_=>rfl
theorem Qes{a b:Oper}(h:J0 ops a b=true){v:V}(t:List V):∀x∈b.op.operands,rho (Q1 t a.dst v) x=rho t x:=by
 intro x hx;refine Quf t a.dst v x ?_;intro i e hd;simp only[J0,hd,Zok,Zoy] at h;have:i∈Kj ops b:=by subst e;simp only[Kj,Zog,List.mem_filterMap];exact .inl (.inr ⟨.tmp i,by simpa using hx,rfl⟩)
 have h1:=h.1;simp at h1;exact h1 this
theorem Qfr{a b:Oper}(h:J0 ops a b=true){v:V}(t:List V):Z1 ops (Q1 t a.dst v) b=Z1 ops t b:=by
 unfold Z1;cases hg:b.guard with
 |none=>rfl
 |some jw=>
  obtain⟨j,want⟩:=jw;simp only;cases hd:(ops[j]?).bind (·.dst) with
  |none=>rfl
  |some d=>
   simp only[Zow];rw[Qhq];intro e;simp only[J0,e,Zok,Zoy] at h;have:d∈Kj ops b:=by simp only[Kj,Zog,hg,hd];exact .inr (by simp)
   have h1:=h.1;simp at h1;exact h1 this
theorem Qjh{a b:Oper}(h:J0 ops a b=true):J0 ops b a=true:=by simp only[J0,Zok] at h⊢;exact⟨h.2,h.1⟩
theorem Z6{a b:Oper}(h:J0 ops a b=true)(t:List V)(v u:V):Q1 (Q1 t a.dst v) b.dst u=Q1 (Q1 t b.dst u) a.dst v:=by
 cases ha:a.dst with
 |none=>rfl
 |some d=>
  cases hb:b.dst with
  |none=>rfl
  |some e=>
   simp only[Q1];rw[List.set_comm];intro he;subst he;simp only[J0,ha,hb,Zok,Zoy] at h;have:d∈Kj ops b:=by simp[Kj,hb]
   have h1:=h.1;simp at h1;exact h1 this
theorem Qxu{g g' :Get}{nm:Nat}{t t2:TypeId}{s x:V}(hd:g 0 nm=g' 0 nm)(hs:∀f i,s.id?=some (f,i)->g f i=g' f i)(hx:∀f i,x.id?=some (f,i)->g f i=g' f i):
 Qhw P g nm t t2 s x=Qhw P g' nm t t2 s x:=by
 have h1:∀n b z,Ji P g t2 n b z x=Ji P g' t2 n b z x:=by
  intro n b z;unfold Ji;split
  . rfl
  . rfl
  . exact Bs hx
  . rfl
 unfold Qhw;simp only[h1,hd];split
 . rw[hs _ _ rfl]
 . rfl
theorem Q1m{g g' :Get}{ρ:Operand->V}{o:Oper}{nm:Nat}(h:∀f s,(f,s)∈Ka 0 ρ (atN o nm)->g f s=g' f s):J6 P g ρ nm o.op=J6 P g' ρ nm o.op:=by
 have own:g 0 nm=g' 0 nm:=h _ _ (Qoe rfl);have arg:∀x∈(atN o nm).op.operands,∀f s,(ρ x).id?=some (f,s)->g f s=g' f s:=fun x hx f s e=>h f s (Q3x hx e);unfold J6;split
 . rename_i t x lo hi hop;have hm:x∈(atN o nm).op.operands:=by
    simp only[atN,hop,Op.operands];simp
   unfold Qrs;split
   . rename_i hs _ _;rw[arg x hm _ _ (by rw[hs];rfl)]
   . rfl
 . rename_i c hop;split
   . rename_i s x t t2 ts hc ha ht;have hm:∀y∈([s,x]:List Operand),y∈(atN o nm).op.operands:=by
      intro y hy;simp only[atN,hop,Op.operands,Call.operands,hc];have:y∈c.args.toList:=by rw[ha];exact hy
      simpa using this
     exact Qxu own (arg s (hm s (by simp))) (arg x (hm x (by simp)))
   . rfl
 . rfl
theorem Qz5{g:Get}{ρ ρ' :Operand->V}{o:Op}{nm:Nat}(h:∀x∈o.operands,ρ x=ρ' x):J6 P g ρ nm o=J6 P g ρ' nm o:=by
 unfold J6;split
 . rename_i t x lo hi;rw[h x (by simp[Op.operands]),h lo (by simp[Op.operands]),h hi (by simp[Op.operands])]
 . rename_i c;split
   . rename_i s x t t2 ts hc ha ht;have hm:∀y∈([s,x]:List Operand),ρ y=ρ' y:=by
      intro y hy;refine h y ?_;simp only[Op.operands,Call.operands,hc];have:y∈c.args.toList:=by rw[ha];exact hy
      simpa using this
     rw[hm s (by simp),hm x (by simp)]
   . rfl
 . rfl
theorem Qlp{nm:Nat}{H:Heap}{ws:List (Nat×Nat×O)}(h:Qab nm H ws=true):∃o,ws=[(0,nm,o)]/\Qd H 0 nm=none:=by
 unfold Qab at h;split at h
 . rename_i f s o;simp only[Zok,Nat.beq_eq,Zpo] at h;obtain⟨⟨rfl,rfl⟩,h⟩:=h;exact⟨o,rfl,h⟩
 . cases h
theorem Qi7{nm:Nat}{H H' :Heap}(ws:List (Nat×Nat×O))(h:Qd H' 0 nm=Qd H 0 nm):Qab nm H' ws=Qab nm H ws:=by unfold Qab;split<;>simp only[h]
theorem Qvm{g:Get}{ρ:Operand->V}{o:Oper}{nm:Nat}{f:FuncId}{args:List V}(h:Zv P (fun _=>true) 0 g ρ (atN o nm)=some (.call f args)):Kf o.op=false:=by
 cases ho:o.op<;>first|rfl|skip
 simp only[Zv,atN,ho] at h;cases hx:Qbu g (ρ _) with
 |none=>rw[hx] at h;cases h
 |some y=>rw[hx] at h;cases h
theorem Qrz{g:Get}{ρ:Operand->V}{o:Oper}{nm:Nat}{f s:Nat}{args:List V}(h:Zv P (fun _=>true) 0 g ρ (atN o nm)=some (.round f s args)):Kf o.op=false:=by
 cases ho:o.op<;>first|rfl|skip
 simp only[Zv,atN,ho] at h;cases hx:Qbu g (ρ _) with
 |none=>rw[hx] at h;cases h
 |some y=>rw[hx] at h;cases h
theorem Qoz(hC:Xt C)(tm:Qkg pol)(lim nm:Nat)(t:List V)(H:Heap)(o:Oper){t1:List V}{H1:Heap}(h:Zi P pol C nm t H o=some (.normal,t1,H1)):
 (Jp P lim nm t H H1 o= .quiet/\∃v,t1=Q1 t o.dst v/\H1=H/\∀(t' :List V) (H' :Heap),(∀x∈o.op.operands,rho t' x=rho t x)->Zi P pol C nm t' H' o=some (.normal,Q1 t' o.dst v,H')/\∀H'',Jp P lim nm t' H' H'' o= .quiet)\/
 (∃ws v r fr,Jp P lim nm t H H1 o= .ids r (Qfl ws) fr/\t1=Q1 t o.dst v/\H1=wrL H ws/\(fr=true->∃o',ws=[(0,nm,o')]/\Qd H 0 nm=none)/\(0,nm)∈r/\
   ∀(t' :List V) (H' :Heap),(∀x∈o.op.operands,rho t' x=rho t x)->(∀f s,(f,s)∈r->Qd H' f s=Qd H f s)->
    Zi P pol C nm t' H' o=some (.normal,Q1 t' o.dst v,wrL H' ws)/\∀H'',Jp P lim nm t' H' H'' o= .ids r (Qfl ws) fr)\/
 (Jp P lim nm t H H1 o= .call (Qi1 lim H H1)/\∃v,t1=Q1 t o.dst v/\(∀(t' :List V) H0 H2,(∀x∈o.op.operands,rho t' x=rho t x)->Zi P pol C nm t' H0 o=some (.normal,Q1 t' o.dst v,H2)->Jp P lim nm t' H0 H2 o= .call (Qi1 lim H0 H2))/\
   ∀(t' :List V),(∀x∈o.op.operands,rho t' x=rho t x)->Zi P pol C nm t' H o=some (.normal,Q1 t' o.dst v,H1)/\
    ∀s x,Yw s H->nm≠s->Zi P pol C nm t' (hset H 0 s x) o=some (.normal,Q1 t' o.dst v,hset H1 0 s x)/\Yw s H1)\/
 (Jp P lim nm t H H1 o= .all/\∃v,t1=Q1 t o.dst v/\
   ∀(t' :List V),(∀x∈o.op.operands,rho t' x=rho t x)->Zi P pol C nm t' H o=some (.normal,Q1 t' o.dst v,H1)/\Jp P lim nm t' H H1 o= .all):=by
 have hids:∀t' :List V,(∀x∈o.op.operands,rho t' x=rho t x)->Ka 0 (rho t') (atN o nm)=Ka 0 (rho t) (atN o nm):=by
  intro t' ht;simp only[Ka,atN];congr 1;have:∀l:List Operand,(∀x∈l,rho t' x=rho t x)->l.filterMap (fun x=>(rho t' x).id?)=l.filterMap fun x=>(rho t x).id?:=by
   intro l
   induction l with
   |nil=>intro _;rfl
   |cons x l ih=>intro hl;simp only[List.filterMap_cons];rw[hl x (by simp),ih (fun y hy=>hl y (by simp[hy]))]
  exact this _ (fun x hx=>ht x (by simpa using hx))
 have own:(0,nm)∈Ka 0 (rho t) (atN o nm):=Qoe rfl;unfold Zi at h;by_cases hq:Zk o.op=true
 . left;have hq' :Zk (atN o nm).op=true:=hq;split at h
   . rename_i hev;split at h
     case h_2=>cases h
     rename_i v ws hm;exfalso;unfold J6 at hm;split at hm
     . rename_i hop;rw[hop] at hq;cases hq
     . rename_i c hop;rw[hop] at hq;cases hq
     . cases hm
   . rename_i v w hev;obtain⟨v',hv'⟩:=Yi hq' hev;cases hv';cases h;refine⟨by simp[Jp,hq],v,rfl,rfl,fun t' H' ht=>⟨?_,fun _=>by simp[Jp,hq]⟩⟩;have e:Zv P (fun _=>true) 0 (Qd H') (rho t') (atN o nm)=some (.val v none):=by
      rw[B4 (ρ' :=rho t) (o:=atN o nm) ht,Qka (g' :=Qd H) hq',hev]
     simp only[Zi,e,wr]
   . rename_i v hev;obtain⟨v',hv'⟩:=Yi hq' hev;cases hv'
   . rename_i f args hev;obtain⟨v',hv'⟩:=Yi hq' hev;cases hv'
   . rename_i f s args hev;obtain⟨v',hv'⟩:=Yi hq' hev;cases hv'
 . split at h
   . rename_i hev;split at h
     case h_2=>cases h
     rename_i v ws hm;cases h;have hfar:Kf o.op=false:=by
      unfold J6 at hm;split at hm
      . rename_i hop;rw[hop];rfl
      . rename_i c hop;rw[hop];rfl
      . cases hm
     right;left;have hmain:∀(t' :List V) (H' :Heap),(∀x∈o.op.operands,rho t' x=rho t x)->(∀f s,(f,s)∈Ka 0 (rho t) (atN o nm)->Qd H' f s=Qd H f s)->
      J6 P (Qd H') (rho t') nm o.op=some (v,ws)/\Zv P (fun _=>true) 0 (Qd H') (rho t') (atN o nm)=none:=by
      intro t' H' ht hg;have e:J6 P (Qd H') (rho t') nm o.op=some (v,ws):=by rw[Qz5 ht,Q1m (g' :=Qd H) hg,hm]
      exact⟨e,Qgu (nm:=nm) e⟩
     refine⟨ws,v,_,Qab nm H ws,?_,rfl,rfl,fun hf=>Qlp hf,own,fun t' H' ht hg=>?_⟩
     . simp only[Jp,hq,hfar,Zn5,if_false,hev,hm]
     . obtain⟨e1,e2⟩:=hmain t' H' ht hg;refine⟨by simp only[Zi,e1,e2],fun _=>?_⟩;simp only[Jp,hq,hfar,Zn5,if_false,e1,e2,hids t' ht,Qi7 ws (hg _ _ own)]
   . rename_i v w hev;by_cases hfar:Kf o.op=true
     . right;right;right;cases h;refine⟨by simp[Jp,hq,hfar],v,rfl,fun t' ht=>⟨?_,by simp[Jp,hq,hfar]⟩⟩;have e:Zv P (fun _=>true) 0 (Qd H) (rho t') (atN o nm)=some (.val v w):=by rw[B4 (ρ' :=rho t) (o:=atN o nm) ht,hev]
       simp only[Zi,e]
     have hfar' :Kf o.op=false:=by simpa using hfar
     right;left;cases h;refine⟨w.toList,v,_,Qab nm H w.toList,?_,rfl,Qk1 H w,fun hf=>Qlp hf,own,fun t' H' ht hg=>?_⟩
     . simp only[Jp,hq,hfar',Zn5,if_false,hev]
     . have e:Zv P (fun _=>true) 0 (Qd H') (rho t') (atN o nm)=some (.val v w):=by
        rw[B4 (ρ' :=rho t) (o:=atN o nm) ht,Qzw (g' :=Qd H) (o:=atN o nm) hfar' hg,hev]
       refine⟨by simp only[Zi,e,Qk1],fun _=>?_⟩;simp only[Jp,hq,hfar',Zn5,if_false,e,hids t' ht,Qi7 w.toList (hg _ _ own)]
   . cases h
   . rename_i f args hev;have hfar' :Kf o.op=false:=Qvm hev;have hcall:∀(t' :List V) (H' :Heap),(∀x∈o.op.operands,rho t' x=rho t x)->Zv P (fun _=>true) 0 (Qd H') (rho t') (atN o nm)=some (.call f args):=by
      intro t' H' ht;rw[B4 (ρ' :=rho t) (o:=atN o nm) ht];exact Qtr hev
     right;right;left;split at h
     . rename_i v H2 hc;cases h;refine⟨by simp only[Jp,hq,hfar',Zn5,if_false,hev],v,rfl,fun t' H0 H2 ht _=>?_,fun t' ht=>?_⟩
       . simp only[Jp,hq,hfar',Zn5,if_false,hcall t' H0 ht]
       . have e:Zi P pol C nm t' H o=some (.normal,Q1 t' o.dst v,H1):=by simp only[Zi,hcall t' H ht,hc]
         exact⟨e,fun s x sp hne=>Xp tm hC e sp hne⟩
     . cases h
     . cases h
   . rename_i f s args hev;right;right;right;have hfar' :Kf o.op=false:=Qrz hev;have he:∀t' :List V,(∀x∈o.op.operands,rho t' x=rho t x)->Zv P (fun _=>true) 0 (Qd H) (rho t') (atN o nm)=some (.round f s args):=fun t' ht=>by rw[B4 (ρ' :=rho t) (o:=atN o nm) ht,hev]
     have hall:∀t' :List V,(∀x∈o.op.operands,rho t' x=rho t x)->Jp P lim nm t' H H1 o= .all:=fun t' ht=>by simp only[Jp,hq,hfar',Zn5,if_false,he t' ht]
     split at h
     . rename_i v H2 hc;cases h;refine⟨hall t (fun _ _=>rfl),v,rfl,fun t' ht=>⟨?_,hall t' ht⟩⟩;simp only[Zi,he t' ht,hc]
     . cases h
def Ql2(lim:Nat)(T fp:FP)(H H1:Heap):Prop:=
 match T with
 | .call k=>fp= .call (Qi1 lim H H1)/\∀f s,k f s=true->Qd H f s=Qd H1 f s/\lim<=Zc H
 |x=>fp=x
open Classical in
noncomputable def J1(P:Program)(pol:Pol)(C:Call)(ops:Array Oper)(base lim:Nat)(T:List FP)(i:Nat)(t:List V)(H:Heap):Option (List V×Heap):=
 match ops[i]? with
 |none=>none
 |some o=>match Z1 ops t o with
  |none=>none
  |some false=>if T.getD i .all= .quiet then some (Q1 t o.dst nov,H) else none
  |some true=>match Zi P pol C (base+i) t H o with
   |some (.normal,t1,H1)=>if Ql2 lim (T.getD i .all) (Jp P lim (base+i) t H H1 o) H H1 then some (t1,H1) else none
   |_=>none
noncomputable def Bm(P:Program)(pol:Pol)(C:Call)(ops:Array Oper)(base lim:Nat)(T:List FP):List Nat->List V->Heap->Option (List V×Heap)
 |[],t,H=>some (t,H)
 |i::r,t,H=>match J1 P pol C ops base lim T i t H with
  |some (t1,H1)=>Bm P pol C ops base lim T r t1 H1
  |none=>none
end
section
variable {P : Program} {pol : Pol} {C : Call} {ops : Array Oper} {base lim : Nat} {T : List FP}
def Qb6(ops:Array Oper)(o:Oper)(t' t:List V):Prop:=(∀x∈o.op.operands,rho t' x=rho t x)/\Z1 ops t' o=Z1 ops t o
theorem Qq{a b:Oper}(h:J0 ops a b=true)(v:V)(t:List V):Qb6 ops b (Q1 t a.dst v) t:=⟨Qes h t,Qfr h t⟩
theorem Qb6.symm{o:Oper}{t t' :List V}(h:Qb6 ops o t t'):Qb6 ops o t' t:=⟨fun x hx=>(h.1 x hx).symm,h.2.symm⟩
theorem Y2(hC:Xt C)(tm:Qkg pol){i:Nat}{o:Oper}{t t1:List V}{H H1:Heap}(ho:ops[i]?=some o)(h:J1 P pol C ops base lim T i t H=some (t1,H1)):
 (T.getD i .all= .quiet/\∃v,t1=Q1 t o.dst v/\H1=H/\∀t' H',Qb6 ops o t' t->J1 P pol C ops base lim T i t' H' =some (Q1 t' o.dst v,H'))\/
 (∃ws v r fr,T.getD i .all= .ids r (Qfl ws) fr/\t1=Q1 t o.dst v/\H1=wrL H ws/\(fr=true->∃o',ws=[(0,base+i,o')]/\Qd H 0 (base+i)=none)/\(0,base+i)∈r/\
   ∀t' H',Qb6 ops o t' t->(∀f s,(f,s)∈r->Qd H' f s=Qd H f s)->J1 P pol C ops base lim T i t' H' =some (Q1 t' o.dst v,wrL H' ws))\/
 (∃k v,T.getD i .all= .call k/\t1=Q1 t o.dst v/\(∀f s,k f s=true->Qd H f s=Qd H1 f s/\lim<=Zc H)/\
   ∀t',Qb6 ops o t' t->J1 P pol C ops base lim T i t' H=some (Q1 t' o.dst v,H1)/\
    ∀s x,Yw s H->base+i≠s->J1 P pol C ops base lim T i t' (hset H 0 s x)=some (Q1 t' o.dst v,hset H1 0 s x))\/
 (T.getD i .all= .all/\∃v,t1=Q1 t o.dst v/\∀t',Qb6 ops o t' t->J1 P pol C ops base lim T i t' H=some (Q1 t' o.dst v,H1)):=by
 simp only[J1,ho] at h⊢;split at h
 . cases h
 . rename_i hw;split at h
   . rename_i hT;cases h;left;refine⟨hT,nov,rfl,rfl,fun t' H' ha=>?_⟩;rw[ha.2,hw];simp only[hT,if_true]
   . cases h
 . rename_i hw;split at h
   case h_2=>cases h
   rename_i t2 H2 hop;split at h
   case isFalse=>cases h
   rename_i hT;cases h;rcases Qoz hC tm lim (base+i) t H o hop with⟨h1,v,h2,h3,h4⟩|⟨ws,v,r,fr,h1,h2,h3,h5,h6,h4⟩|⟨h1,v,h2,h5,h3⟩|⟨h1,v,h2,h3⟩
   . left;rw[h1] at hT;have hq:T.getD i .all= .quiet:=by
      cases hx:T.getD i .all with
      |call k=>rw[hx] at hT;cases hT.1
      |_=>rw[hx] at hT;first|done|rfl|cases hT
     refine⟨hq,v,h2,h3,fun t' H' ha=>?_⟩;obtain⟨g1,g2⟩:=h4 t' H' ha.1;rw[ha.2,hw];simp only[g1,g2,hq,Ql2,if_true]
   . right;left;rw[h1] at hT;have hq:T.getD i .all= .ids r (Qfl ws) fr:=by
      cases hx:T.getD i .all with
      |call k=>rw[hx] at hT;cases hT.1
      |_=>rw[hx] at hT;exact hT.symm
     refine⟨ws,v,r,fr,hq,h2,h3,h5,h6,fun t' H' ha hg=>?_⟩;obtain⟨g1,g2⟩:=h4 t' H' ha.1 hg;rw[ha.2,hw];simp only[g1,g2,hq,Ql2,if_true]
   . right;right;left;rw[h1] at hT;obtain⟨k,hq⟩:∃k,T.getD i .all= .call k:=by
      cases hx:T.getD i .all with
      |call k=>exact⟨k,rfl⟩
      |_=>rw[hx] at hT;cases hT
     rw[hq] at hT;obtain⟨_,k1⟩:=hT;refine⟨k,v,hq,h2,k1,fun t' ha=>?_⟩;obtain⟨g1,g2⟩:=h3 t' ha.1;rw[ha.2,hw];refine⟨?_,fun s x sp hne=>?_⟩
     . have hcp:Ql2 lim (T.getD i .all) (Jp P lim (base+i) t' H H1 o) H H1:=by rw[hq];exact⟨h5 t' H _ ha.1 g1,k1⟩
       simp only[g1];rw[if_pos hcp]
     . obtain⟨g3,g4⟩:=g2 s x sp hne;have hk2:∀f s',k f s' =true->Qd (hset H 0 s x) f s' =Qd (hset H1 0 s x) f s' /\lim<=Zc (hset H 0 s x):=by
        intro f s' hk;refine⟨?_,Zn7 (k1 f s' hk).2 (Qsy _ _ _ _)⟩;by_cases e:f=0/\s' =s
        . obtain⟨rfl,rfl⟩:=e;have l0:0<H.length:=by have:=sp.1;cases H with|nil=>cases this|cons=>simp
          have l1:0<H1.length:=by have:=g4.1;cases H1 with|nil=>cases this|cons=>simp
          rw[Br _ _ _ _ l0,Br _ _ _ _ l1];simp
        . rw[sp.get x e,g4.get x e];exact(k1 f s' hk).1
       have hcp:Ql2 lim (T.getD i .all) (Jp P lim (base+i) t' (hset H 0 s x) (hset H1 0 s x) o) (hset H 0 s x) (hset H1 0 s x):=by rw[hq];refine⟨h5 t' _ _ ha.1 g3,?_⟩;exact hk2
       simp only[g3];rw[if_pos hcp]
   . right;right;right;rw[h1] at hT;have hq:T.getD i .all= .all:=by
      cases hx:T.getD i .all with
      |call k=>rw[hx] at hT;cases hT.1
      |_=>rw[hx] at hT;first|done|rfl|cases hT
     refine⟨hq,v,h2,fun t' ha=>?_⟩;obtain⟨g1,g2⟩:=h3 t' ha.1;rw[ha.2,hw];simp only[g1,g2,hq,Ql2,if_true]
theorem Qda{a b:List (Nat×Nat)}(h:(!Qd8 a b)=true){x:Nat×Nat}(hx:x∈a):x∉b:=by intro hb;simp only[Qd8,Zoy,Zpp] at h;exact h x hx (by simpa using hb)
theorem Qvo:∀{ws:List (Nat×Nat×O)} {H:Heap} {f s:Nat},(f,s)∉Qfl ws->Qd (wrL H ws) f s=Qd H f s
 |[],_,_,_,_=>rfl
 |(f',s',q)::r,H,f,s,h=>by
  simp only[Qfl,Zo4,Zph,not_or] at h;simp only[wrL];rw[Qvo (by exact h.2),Qax];rintro⟨rfl,rfl⟩;exact h.1 rfl
theorem Qw1:∀{ws:List (Nat×Nat×O)} {H:Heap} {f s:Nat} {o:O},(f,s)∉Qfl ws->wrL (hset H f s o) ws=hset (wrL H ws) f s o
 |[],_,_,_,_,_=>rfl
 |(f',s',q)::r,H,f,s,o,h=>by
  simp only[Qfl,Zo4,Zph,not_or] at h;simp only[wrL];rw[Xc H o q (fun e=>h.1 (by rw[e.1,e.2])),Qw1 (by exact h.2)]
theorem Qy4:∀{ws ws' :List (Nat×Nat×O)} {H:Heap},(!Qd8 (Qfl ws) (Qfl ws'))=true->wrL (wrL H ws) ws' =wrL (wrL H ws') ws
 |[],_,_,_=>rfl
 |(f,s,o)::r,ws',H,h=>by
  have hm:=Qda h (x:=(f,s)) (by simp[Qfl]);have hr:(!Qd8 (Qfl r) (Qfl ws'))=true:=by simp only[Qd8,Qfl,Zo4,List.any_cons,Bool.not_or,Zok] at h⊢;exact h.2
  simp only[wrL];rw[Qy4 hr,Qw1 hm]
theorem Qyw{ws:List (Nat×Nat×O)}(h:(Qfl ws).isEmpty=true):ws=[]:=by
 cases ws with
 |nil=>rfl
 |cons=>cases h
theorem Qlz(hC:Xt C)(tm:Qkg pol)(hlim:base+ops.size<=lim){i j:Nat}{oi oj:Oper}(hi:ops[i]?=some oi)(hj:ops[j]?=some oj)(ha:J0 ops oi oj=true)(hI:(T.getD i .all).indep (T.getD j .all)=true)
 {t t1 t2:List V}{H H1 H2:Heap}(h1:J1 P pol C ops base lim T i t H=some (t1,H1))(h2:J1 P pol C ops base lim T j t1 H1=some (t2,H2)):
 ∃t1' H1',J1 P pol C ops base lim T j t H=some (t1',H1')/\J1 P pol C ops base lim T i t1' H1' =some (t2,H2):=by
 have hs:=Qjh ha;have hjs:j<ops.size:=(Zoa.1 hj).1;rcases Y2 hC tm hi h1 with⟨q1,v,rfl,rfl,g1⟩|⟨w,v,r,fr,q1,rfl,rfl,f1,m1,g1⟩|⟨k,v,q1,rfl,k1,g1⟩|⟨q1,v,rfl,g1⟩
 . rcases Y2 hC tm hj h2 with⟨q2,u,rfl,rfl,g2⟩|⟨w',u,r',fr',q2,rfl,rfl,f2,m2,g2⟩|⟨k',u,q2,rfl,k2,g2⟩|⟨q2,u,rfl,g2⟩
   . refine⟨_,_,g2 t H2 (Qq ha v t).symm,?_⟩;rw[g1 _ _ (Qq hs u t),Z6 ha]
   . refine⟨_,_,g2 t H1 (Qq ha v t).symm (fun _ _ _=>rfl),?_⟩;rw[g1 _ _ (Qq hs u t),Z6 ha]
   . refine⟨_,_,(g2 t (Qq ha v t).symm).1,?_⟩;rw[g1 _ _ (Qq hs u t),Z6 ha]
   . refine⟨_,_,g2 t (Qq ha v t).symm,?_⟩;rw[g1 _ _ (Qq hs u t),Z6 ha]
 . rcases Y2 hC tm hj h2 with⟨q2,u,rfl,rfl,g2⟩|⟨w',u,r',fr',q2,rfl,rfl,f2,m2,g2⟩|⟨k',u,q2,rfl,k2,g2⟩|⟨q2,u,rfl,g2⟩
   . refine⟨_,_,g2 t H (Qq ha v t).symm,?_⟩;rw[g1 _ _ (Qq hs u t) (fun _ _ _=>rfl),Z6 ha]
   . rw[q1,q2] at hI;simp only[FP.indep,Zok] at hI;obtain⟨⟨i1,i2⟩,i3⟩:=hI;refine⟨_,_,g2 t H (Qq ha v t).symm (fun f s hm=>?_),?_⟩
     . exact(Qvo (fun hw=>Qda i1 hw hm)).symm
     . rw[g1 _ _ (Qq hs u t) (fun f s hm=>Qvo (fun hw=>Qda i3 hw hm)),Z6 ha,Qy4 i2]
   . rw[q1,q2] at hI;simp only[FP.indep,Zok,Zor] at hI;obtain⟨i1,i2⟩:=hI;have:=Qyw i1;subst this;simp only[wrL] at*;refine⟨_,_,(g2 t (Qq ha v t).symm).1,?_⟩;rw[g1 _ _ (Qq hs u t) (fun f s hm=>(k2 f s (i2 (f,s) hm)).1.symm),Z6 ha]
   . rw[q1,q2] at hI;cases hI
 . rcases Y2 hC tm hj h2 with⟨q2,u,rfl,rfl,g2⟩|⟨w',u,r',fr',q2,rfl,rfl,f2,m2,g2⟩|⟨k',u,q2,rfl,k2,g2⟩|⟨q2,u,rfl,g2⟩
   . refine⟨_,_,g2 t H (Qq ha v t).symm,?_⟩;rw[(g1 _ (Qq hs u t)).1,Z6 ha]
   . rw[q1,q2] at hI;simp only[FP.indep,Zok,Zor,Zpd] at hI;obtain⟨i1,i2⟩:=hI;have hkeep:∀f s,(f,s)∈r' ->Qd H f s=Qd H1 f s:=fun f s hm=>(k1 f s (i2 (f,s) hm)).1;refine⟨_,_,g2 t H (Qq ha v t).symm hkeep,?_⟩;rcases i1 with i1|i1
     . have:=Qyw i1;subst this;simp only[wrL];rw[(g1 _ (Qq hs u t)).1,Z6 ha]
     . obtain⟨o',rfl,hn⟩:=f2 i1;have hn0:Qd H 0 (base+j)=none:=(hkeep _ _ m2).trans hn;have hl:=(k1 _ _ (i2 _ m2)).2;have sp:Yw (base+j) H:=⟨by omega,hn0⟩;have hne:base+i≠base+j:=by
        intro e;have:i=j:=by omega
        subst this;rw[q1] at q2;cases q2
       simp only[wrL];rw[(g1 _ (Qq hs u t)).2 (base+j) o' sp hne,Z6 ha]
   . rw[q1,q2] at hI;cases hI
   . rw[q1,q2] at hI;cases hI
 . rcases Y2 hC tm hj h2 with⟨q2,u,rfl,rfl,g2⟩|⟨w',u,r',fr',q2,rfl,rfl,f2,m2,g2⟩|⟨k',u,q2,rfl,k2,g2⟩|⟨q2,u,rfl,g2⟩
   . refine⟨_,_,g2 t H (Qq ha v t).symm,?_⟩;rw[g1 _ (Qq hs u t),Z6 ha]
   . rw[q1,q2] at hI;cases hI
   . rw[q1,q2] at hI;cases hI
   . rw[q1,q2] at hI;cases hI
theorem Qcg(hC:Xt C)(tm:Qkg pol)(hlim:base+ops.size<=lim){i:Nat}{l2:List Nat}{res:List V×Heap}(hi:i<ops.size):∀(l1:List Nat) (t:List V) (H:Heap),
 (∀j∈l1,j<ops.size/\J0 ops (ops.getD j default) (ops.getD i default)=true/\(T.getD j .all).indep (T.getD i .all)=true)->
 Bm P pol C ops base lim T (l1++i::l2) t H=some res->Bm P pol C ops base lim T (i::(l1++l2)) t H=some res
 |[],t,H,_,h=>h
 |j::l1,t,H,hl,h=>by
  obtain⟨hj,ha,hI⟩:=hl j (by simp);simp only[Zo8,Bm] at h;cases h1:J1 P pol C ops base lim T j t H with
  |none=>rw[h1] at h;cases h
  |some x=>
   obtain⟨t1,H1⟩:=x;rw[h1] at h;have ih:=Qcg hC tm hlim hi l1 t1 H1 (fun k hk=>hl k (by simp[hk])) h;simp only[Bm] at ih;cases h2:J1 P pol C ops base lim T i t1 H1 with
   |none=>rw[h2] at ih;cases ih
   |some y=>
    obtain⟨t2,H2⟩:=y;rw[h2] at ih;have e1:ops[j]?=some (ops.getD j default):=by simp[Array.getD,hj]
    have e2:ops[i]?=some (ops.getD i default):=by simp[Array.getD,hi]
    obtain⟨t1',H1',g1,g2⟩:=Qlz hC tm hlim e1 e2 ha hI h1 h2;simp only[Zo8,Bm,g1,g2];exact ih
end
theorem Qgy(ops:Array Oper):(Region.before ops).size=ops.size/\∀i o j,ops[i]?=some o->((Region.before ops).getD i 0).testBit j=true->
 ∃e∈o.after,Region.binds .any e=true/\(e.on=j\/((Region.before ops).getD e.on 0).testBit j=true):=by
 have key:∀(l:List Oper) (acc:Array Nat) (pre:List Oper),acc.size=pre.length->
  (∀i o j,pre[i]?=some o->(acc.getD i 0).testBit j=true->∃e∈o.after,Region.binds .any e=true/\(e.on=j\/(acc.getD e.on 0).testBit j=true))->
  (l.foldl (fun acc o=>acc.push (o.after.foldl (fun s e=>if Region.binds .any e then s|||2^e.on|||acc.getD e.on 0 else s) 0)) acc).size=pre.length+l.length/\
  ∀i o j,(pre++l)[i]?=some o->((l.foldl (fun acc o=>acc.push (o.after.foldl (fun s e=>if Region.binds .any e then s|||2^e.on|||acc.getD e.on 0 else s) 0)) acc).getD i 0).testBit j=true->
   ∃e∈o.after,Region.binds .any e=true/\(e.on=j\/((l.foldl (fun acc o=>acc.push (o.after.foldl (fun s e=>if Region.binds .any e then s|||2^e.on|||acc.getD e.on 0 else s) 0)) acc).getD e.on 0).testBit j=true):=by
  intro l
  induction l with
  |nil=>intro acc pre hs h;simpa [hs] using h
  |cons o l ih=>
   intro acc pre hs h;simp only[Zpq];generalize hn:o.after.foldl (fun s e=>if Region.binds .any e then s|||2^e.on|||acc.getD e.on 0 else s) 0=n;have hgrow:∀k j,(acc.getD k 0).testBit j=true->((acc.push n).getD k 0).testBit j=true:=by
    intro k j hb;have hk:k<acc.size:=by
     rcases Zn3 k acc.size with hk|hk
     . exact hk
     . simp[Array.getD,Nat.not_lt.2 hk] at hb
    have:(acc.push n).getD k 0=acc.getD k 0:=by simp only[Array.getD,hk,Zob,Zoc hk,dif_pos,Zpr];exact Array.getElem_push_lt hk
    rw[this];exact hb
   have hfold:∀(es:List Edge) (s j:Nat),((es.foldl (fun s e=>if Region.binds .any e then s|||2^e.on|||acc.getD e.on 0 else s) s)).testBit j=true->
    s.testBit j=true\/∃e∈es,Region.binds .any e=true/\(e.on=j\/(acc.getD e.on 0).testBit j=true):=by
    intro es
    induction es with
    |nil=>intro s j hb;exact .inl hb
    |cons e es ihe=>
     intro s j hb;simp only[Zpq] at hb;rcases ihe _ j hb with g|⟨e',he',g⟩
     . by_cases hbd:Region.binds .any e=true
       . rw[if_pos hbd] at g;simp only[Nat.testBit_or,Zpd,Nat.testBit_two_pow,decide_eq_true_eq] at g;rcases g with(g|g)|g
         . exact .inl g
         . exact .inr ⟨e,by simp,hbd,.inl g⟩
         . exact .inr ⟨e,by simp,hbd,.inr g⟩
       . rw[if_neg hbd] at g;exact .inl g
     . exact .inr ⟨e',by simp[he'],g⟩
   have:=ih (acc.push n) (pre++[o]) (by simp[hs]) (by
    intro i o' j hi hb;rcases Zn3 i pre.length with hlt|hge
    . have hi' :pre[i]?=some o' :=by rw[Zoo hlt] at hi;exact hi
      have:(acc.push n).getD i 0=acc.getD i 0:=by
       have hk:i<acc.size:=by omega
       simp only[Array.getD,hk,Zob,Zoc hk,dif_pos,Zpr];exact Array.getElem_push_lt hk
      rw[this] at hb;obtain⟨e,h1,h2,h3⟩:=h i o' j hi' hb;exact⟨e,h1,h2,h3.imp_right (hgrow _ _)⟩
    . have hieq:i=pre.length:=by
       rcases Zn3 i (pre++[o]).length with g|g
       . simp at g;omega
       . rw[Zn4 g] at hi;cases hi
      subst hieq;have ho:o' =o:=by simpa using hi.symm
      subst ho;have hnv:(acc.push n).getD pre.length 0=n:=by rw[<-hs];simp[Array.getD]
      rw[hnv,<-hn,<-Zps] at hb;rcases hfold _ _ _ hb with g|⟨e,h1,h2,h3⟩
      . simp at g
      . exact⟨e,by simpa using h1,h2,h3.imp_right (hgrow _ _)⟩)
   simpa [Zoj,Nat.add_comm 1] using this
 have:=key ops.toList #[] [] rfl (by intro i o j hi;simp at hi);simp only[Zpt,Zod,Zpu,Zov] at this;have e:Region.before ops=ops.toList.foldl (fun acc o=>acc.push (o.after.foldl (fun s e=>if Region.binds .any e then s|||2^e.on|||acc.getD e.on 0 else s) 0)) #[]:=by unfold Region.before;rw[<-Zps]
 rw[e];refine⟨this.1,fun i o j hi hb=>this.2 i o j (by simpa using hi) hb⟩
def Qbo(ops:Array Oper):Bool:=
 (List.range ops.size).all fun i=>
   ((ops.getD i default).after.all fun e=>!Region.binds .any e||decide (e.on<i))&&
   (List.range i).all fun j=>((Region.before ops).getD i 0).testBit j||J0 ops (ops.getD j default) (ops.getD i default)
section
variable {P : Program} {pol : Pol} {C : Call} {ops : Array Oper} {base lim : Nat} {T : List FP}
theorem Qhe{bef:Array Nat}:∀{l:List (FP×Nat)},okT bef l=true->∀{l1 l2:List (FP×Nat)} {a b:FP} {i j:Nat},l=l1++(a,i)::l2->(b,j)∈l2->
 (bef.getD j 0).testBit i=true\/a.indep b=true
 |[],_,l1,l2,a,b,i,j,h,_=>by simp at h
 |(c,k)::r,h,l1,l2,a,b,i,j,he,hm=>by
  simp only[okT,Zok,Zor] at h;cases l1 with
  |nil=>
   simp only[Zpu,List.cons.injEq,Prod.mk.injEq] at he;obtain⟨⟨rfl,rfl⟩,rfl⟩:=he;have:=h.1 (b,j) hm;simpa using this
  |cons x l1=>
   simp only[Zo8,List.cons.injEq] at he;exact Qhe h.2 he.2 hm
theorem Qlt{bef:Array Nat}(h:okT bef (loud T)=true){i j:Nat}(hij:i<j)(hj:j<T.length):
 (bef.getD j 0).testBit i=true\/(T.getD i .all).indep (T.getD j .all)=true:=by
 have hi:i<T.length:=Zn8 hij hj;have ei:T.getD i .all=T[i]:=by simp[List.getD,hi]
 have ej:T.getD j .all=T[j]:=by simp[List.getD,hj]
 rw[ei,ej];by_cases qi:T[i]= .quiet
 . right;rw[qi];cases T[j]<;>rfl
 by_cases qj:T[j]= .quiet
 . right;rw[qj];cases T[i]<;>rfl
 have hsplit:T.zipIdx=(T.zipIdx.take i)++(T[i],i)::T.zipIdx.drop (i+1):=by
  have hl:i<T.zipIdx.length:=by simpa using hi
  have e:T.zipIdx[i]=(T[i],i):=by simp
  rw[<-e,List.getElem_cons_drop];exact(Zoi _ _).symm
 have e:loud T=(T.zipIdx.take i).filter (fun x=>x.1.loud)++(T[i],i)::(T.zipIdx.drop (i+1)).filter (fun x=>x.1.loud):=by
  unfold loud
  conv=>lhs;rw[hsplit]
  rw[Zpv,Zpw];have:(T[i],i).1.loud=true:=by simp only;cases hq:T[i]<;>first|exact absurd hq qi|rfl
  rw[if_pos this]
 refine Qhe h e ?_;rw[Zpx];constructor
 . rw[Zos];refine⟨j-(i+1),?_⟩;rw[Zpy];have:i+1+(j-(i+1))=j:=by omega
   rw[this];simp[hj]
 . simp only;cases hq:T[j]<;>first|exact absurd hq qj|rfl
theorem Qhs(h:Qbo ops=true):∀i,i<ops.size->(∀e∈(ops.getD i default).after,Region.binds .any e=true->e.on<i)/\
 ∀j,j<i->((Region.before ops).getD i 0).testBit j=true\/J0 ops (ops.getD j default) (ops.getD i default)=true:=by
 simp only[Qbo,Zok,Zor,Zpz,Zpd] at h;intro i hi;obtain⟨h1,h2⟩:=h i hi;refine⟨fun e he hbd=>?_,h2⟩;have h3:=Zp0.1 h1 e he;simpa [hbd] using h3
def B0(n:Nat)(listed:Array Bool):List Nat:=(List.range n).filter fun i=>!listed.getD i true
theorem Qop{n i:Nat}{listed:Array Bool}(hn:listed.size=n)(hi:i<n)(hu:listed.getD i true=false):
 B0 n listed=(List.range i).filter (fun k=>!listed.getD k true)++i::((List.range' (i+1) (n-(i+1))).filter fun k=>!listed.getD k true)/\
 B0 n (listed.setIfInBounds i true)=(List.range i).filter (fun k=>!listed.getD k true)++((List.range' (i+1) (n-(i+1))).filter fun k=>!listed.getD k true):=by
 have hr:List.range n=List.range i++i::List.range' (i+1) (n-(i+1)):=by
  have e:n=i+(n-i):=by omega
  have e2:n-i=(n-(i+1))+1:=by omega
  conv=>lhs;rw[e,Zp1,<-List.range'_append_1]
  rw[<-Zp1,Zod,e2,Zp2]
 have hset:∀k,k≠i->(listed.setIfInBounds i true).getD k true=listed.getD k true:=by intro k hk;simp only[Zp3];rw[Zp4 (fun e=>hk e.symm)]
 have hseti:(listed.setIfInBounds i true).getD i true=true:=by simp[Zp3,hn,hi]
 constructor
 . unfold B0;rw[hr,Zpv,Zpw,hu];rfl
 . unfold B0;rw[hr,Zpv,Zpw,hseti];simp only[Zp5,Zn5,if_false];congr 1
   . refine List.filter_congr fun k hk=>?_;rw[hset k (by have:=Zpz.1 hk;omega)]
   . refine List.filter_congr fun k hk=>?_;rw[hset k (by have:=(List.mem_range'_1.1 hk).1;omega)]
def Q2s(ops:Array Oper)(listed:Array Bool):Prop:=∀i j,i<ops.size->listed.getD i false=true->((Region.before ops).getD i 0).testBit j=true->listed.getD j false=true
theorem Qf7(hC:Xt C)(tm:Qkg pol)(hlim:base+ops.size<=lim)(h:Qbo ops=true)(hT:T.length=ops.size)(hok:okT (Region.before ops) (loud T)=true){res:List V×Heap}:
 ∀(fuel tp:Nat) (listed:Array Bool) (acc:List Nat) (t:List V) (H:Heap),listed.size=ops.size->Q2s ops listed->(B0 ops.size listed).length=fuel->
  Bm P pol C ops base lim T (B0 ops.size listed) t H=some res->
  ∃L,Region.linearise.go .any ops fuel tp listed acc=acc.reverse++L/\Bm P pol C ops base lim T L t H=some res:=by
 have hsp:=Qhs h;intro fuel
 induction fuel with
 |zero=>
  intro tp listed acc t H _ _ hl hr;have:B0 ops.size listed=[]:=List.length_eq_zero_iff.1 hl;rw[this] at hr;exact⟨[],by simp[Region.linearise.go],hr⟩
 |succ fuel ih=>
  intro tp listed acc t H hsz hcl hl hr;simp only[Region.linearise.go];generalize hrs:(List.range ops.size).filter (fun i=>!listed.getD i true&&((ops[i]?).map (·.after.all fun e=>!Region.binds .any e||listed.getD e.on false)).getD false)=rs;obtain⟨m,hm,hmin⟩:∃m,m∈B0 ops.size listed/\∀k∈B0 ops.size listed,m<=k:=by
   cases htd:B0 ops.size listed with
   |nil=>rw[htd] at hl;cases hl
   |cons m r=>
    refine⟨m,by simp,fun k hk=>?_⟩;have hp:(B0 ops.size listed).Pairwise (· < ·):=List.Pairwise.filter _ List.pairwise_lt_range;rw[htd] at hp;rcases Zph.1 hk with rfl|hk
    . exact Zn6 _
    . exact Zp6 ((List.pairwise_cons.1 hp).1 k hk)
  have hm' :=hm;simp only[B0,Zpx,Zpz,Zoy] at hm';have hrm:m∈rs:=by
   rw[<-hrs,Zpx];refine⟨Zpz.2 hm'.1,?_⟩;have eo:ops[m]?=some (ops.getD m default):=by simp[Array.getD,hm'.1]
   simp only[hm'.2,Zp7,Zo5,eo,Zn2,Zpb];rw[Zp0];intro e he;cases hbd:Region.binds .any e with
   |false=>rfl
   |true=>
   have hlt:=(hsp m hm'.1).1 e he hbd;simp only[Zp5,Zpa];have hon:e.on<ops.size:=Zn8 hlt hm'.1;cases hb:listed.getD e.on false with
   |true=>rfl
   |false=>
    have:e.on∈B0 ops.size listed:=by simp only[B0,Zpx,Zpz,Zoy];refine⟨hon,?_⟩;simp only[Array.getD,hsz,hon,dif_pos] at hb⊢;exact hb
    have:=hmin _ this;omega
  have hpos:0<rs.length:=List.length_pos_of_mem hrm;have hlt:tp%rs.length<rs.length:=Nat.mod_lt _ hpos;rw[Zn1 hlt];generalize hi:rs[tp%rs.length]=i;have hir:i∈rs:=by rw[<-hi];exact Zp8 hlt
  rw[<-hrs,Zpx] at hir;obtain⟨hin,hir⟩:=hir;have hin:=Zpz.1 hin;simp only[Zok,Zoy] at hir;obtain⟨hu,hir⟩:=hir;have eo:ops[i]?=some (ops.getD i default):=by simp[Array.getD,hin]
  simp only[eo,Zn2,Zpb] at hir;rw[Zp0] at hir;have hbefore:∀j,((Region.before ops).getD i 0).testBit j=true->listed.getD j false=true:=by
   intro j hb;obtain⟨e,he,hbd,hor⟩:=(Qgy ops).2 i _ j eo hb;have:=hir e he;simp only[hbd,Zp5,Zpa] at this;rcases hor with rfl|hor
   . exact this
   . exact hcl e.on j (Zn8 ((hsp i hin).1 e he hbd) hin) this hor
  obtain⟨e1,e2⟩:=Qop hsz hin hu;rw[e1] at hr;have hb:=Qcg hC tm hlim hin _ t H (fun j hj=>by
   rw[Zpx] at hj;have hjl:=Zpz.1 hj.1;have hjn:j<ops.size:=Zn8 hjl hin;have hnb:((Region.before ops).getD i 0).testBit j≠true:=by intro hb;have:=hbefore j hb;have hj2:=hj.2;simp only[Array.getD,hsz,hjn,dif_pos,Zoy] at this hj2;rw[this] at hj2;cases hj2
   refine⟨hjn,?_,?_⟩
   . exact((hsp i hin).2 j hjl).resolve_left hnb
   . exact(Qlt hok hjl (by rw[hT];exact hin)).resolve_left hnb) hr
  simp only[Bm] at hb;cases hst:J1 P pol C ops base lim T i t H with
  |none=>rw[hst] at hb;cases hb
  |some x=>
   obtain⟨t1,H1⟩:=x;rw[hst] at hb;simp only at hb;rw[<-e2] at hb;have hgs:∀k,(listed.setIfInBounds i true).getD k false=true↔(k=i\/listed.getD k false=true):=by
    intro k;by_cases hk:k=i
    . subst hk;simp[Zp3,hsz,hin]
    . simp only[hk,false_or,Zp3];rw[Zp4 (fun e=>hk e.symm)]
   obtain⟨L,g1,g2⟩:=ih (tp/rs.length) (listed.setIfInBounds i true) (i::acc) t1 H1 (by simpa using hsz) (by
    intro k j hk hkl hkb;rw[hgs] at hkl⊢;rcases hkl with hki|hkl
    . rw[hki] at hkb;exact .inr (hbefore j hkb)
    . exact .inr (hcl k j hk hkl hkb)) (by
    have hl1:=hl;rw[e1] at hl1;rw[e2];simp only[Zom,Zp9] at hl1⊢
    omega) hb
   refine⟨i::L,?_,?_⟩
   . simpa using g1
   . simp only[Bm,hst];exact g2
theorem Qdp(hC:Xt C)(tm:Qkg pol)(hlim:base+ops.size<=lim)(h:Qbo ops=true)(hT:T.length=ops.size)(hok:okT (Region.before ops) (loud T)=true){res:List V×Heap}{t:List V}{H:Heap}
 (hr:Bm P pol C ops base lim T (List.range ops.size) t H=some res){m:Bool}(hm:m=true)(tp:Nat):Bm P pol C ops base lim T (Region.schedule m ops tp) t H=some res:=by
 subst hm;have e0:B0 ops.size (Array.replicate ops.size false)=List.range ops.size:=by unfold B0;rw[List.filter_eq_self];intro k hk;have:=Zpz.1 hk;simp[Array.getD,this]
 obtain⟨L,g1,g2⟩:=Qf7 hC tm hlim h hT hok ops.size tp (Array.replicate ops.size false) [] t H (by simp) (by
  intro i j hi hl
  simp[Array.getD] at hl) (by rw[e0];simp) (by rw[e0];exact hr)
 have:Region.schedule true ops tp=L:=by simp only[Region.schedule,Bool.true_or,if_true,Region.linearise];simpa using g1
 rw[this];exact g2
theorem Qa4:∀(l pre:List Oper) (T0:List FP) (t:List V) (H:Heap) (t' :List V) (H' :Heap) (T1:List FP),ops.toList=pre++l->T0.length=pre.length->
 Zb P pol C ops lim (base+pre.length) l t H=some (t',H',T1)->T1.length=l.length/\Bm P pol C ops base lim (T0++T1) (List.range' pre.length l.length) t H=some (t',H')
 |[],pre,T0,t,H,t',H',T1,_,_,h=>by cases h;exact⟨rfl,rfl⟩
 |o::l,pre,T0,t,H,t',H',T1,he,hl,h=>by
  have ho:ops[pre.length]?=some o:=by
   have:ops.toList[pre.length]?=some o:=by rw[he];simp
   simpa using this
  have he' :ops.toList=(pre++[o])++l:=by rw[he];simp
  have main:∀(fp:FP) (t1:List V) (H1:Heap),(∀T2:List FP,J1 P pol C ops base lim (T0++fp::T2) pre.length t H=some (t1,H1))->
   (match Zb P pol C ops lim (base+pre.length+1) l t1 H1 with
   |some (t',H',T)=>some (t',H',fp::T)
   |none=>none)=some (t',H',T1)->T1.length=(o::l).length/\Bm P pol C ops base lim (T0++T1) (List.range' pre.length (o::l).length) t H=some (t',H'):=by
   intro fp t1 H1 hst hm;split at hm
   case h_2=>cases hm
   rename_i t2 H2 T2 hrun;cases hm;obtain⟨g1,g2⟩:=Qa4 l (pre++[o]) (T0++[fp]) t1 H1 _ _ _ he' (by simp[hl]) (by rw[Zom];exact hrun);refine⟨by simp[g1],?_⟩;simp only[Zp9,Zp2,Bm,hst];simpa using g2
  have Qd:∀(fp:FP) (T2:List FP),(T0++fp::T2).getD pre.length .all=fp:=by intro fp T2;simp[List.getD,<-hl]
  simp only[Zb] at h;split at h
  . cases h
  . rename_i hw;refine main .quiet (Q1 t o.dst nov) H (fun T2=>?_) h;simp only[J1,ho,hw,Qd,if_true]
  . rename_i hw;split at h
    case h_2=>cases h
    rename_i t1 H1 hop;refine main (Jp P lim (base+pre.length) t H H1 o) t1 H1 (fun T2=>?_) h;simp only[J1,ho,hw,hop];rw[if_pos];rw[Qd];have hcall:∀k,Jp P lim (base+pre.length) t H H1 o= .call k->k=Qi1 lim H H1:=by
     intro k e;unfold Jp at e
     (repeat' split at e)<;>first|(cases e;done)|(cases e;rfl)
    cases hx:Jp P lim (base+pre.length) t H H1 o with
    |call k=>
     have:=hcall k hx;subst this;refine⟨rfl,fun f s hk=>?_⟩;simp only[Qi1,Zok] at hk;exact⟨(Qzg _ _).1 hk.2,Zqa hk.1⟩
    |_=>rfl
end
variable {P : Program} {E : Env} {B : Nat} {F : Nat -> Nat -> Prop} {H : Heap}
abbrev Q88:Frame:=[]
theorem Qg5(f s:Nat):Qd [Q88] f s=none:=by
 unfold Qd;cases f with
 |zero=>rfl
 |succ f=>rfl
theorem _root_.Go.AM.Sim.first(S:Sim B F [] E):Sim B F [Q88] E where
 dom:=fun f s=>by rw[Qg5];exact S.dom f s
 bsz:=S.bsz
 fb:=S.fb
 fmod:=S.fmod
 modsz:=S.modsz
 obj:=fun f s o h=>by rw[Qg5] at h;cases h
 nreg:=fun f s n x h=>by have:=S.nreg f s n x h;cases this
 inj:=fun f s o f' s' o' b h1=>by rw[Qg5] at h1;cases h1
theorem _root_.Go.AM.Sim.kill(S:Sim B F H E){f0 s0:Nat}{o:O}(ho:Qd H f0 s0=some o)(hg:∀n,o≠ .grow n):Sim B F (hset H f0 s0 .dead) E:=by
 refine S.step f0 s0 .dead (Ys ho) (Ext.refl _ _ _) (fun f s e=>rfl) ?_ (fun f s e=>rfl) ?_ (fun f s o b e h1 h2=>⟨rfl,fun i h=>h⟩) S.fmod S.modsz trivial ?_
 . have:=S.dom f0 s0;rw[ho] at this;exact this.symm
 . intro n x h;have:=S.nreg f0 s0 n x h;rw[ho] at this;cases this;exact absurd rfl (hg n)
 . intro f s o b e h1 h2 h3;cases h3
theorem _root_.Go.AM.Sim.spend(S:Sim B F H E){s0:Nat}(hl:0<H.length)(hn:Qd H 0 s0=none):
 Ext H.length B E {E with mu:=upd E.mu 0 s0 (some 0)}/\Sim B F (hset H 0 s0 .dead) {E with mu:=upd E.mu 0 s0 (some 0)}:=by
 have hmn:=S.mu_none hn;have X:Ext H.length B E {E with mu:=upd E.mu 0 s0 (some 0)}:=by
  refine⟨Zn6 _,fun _ _ _ h=>h,fun _ _ _ _ h=>h,fun _ _ _ _ h=>h,?_,fun f s n b lo hi _ _ h=>⟨n,b,lo,hi,h,.inr ⟨rfl,rfl,rfl,rfl⟩⟩,fun _ _=>rfl,⟨rfl,rfl,rfl⟩,rfl,fun _ h=>h⟩;intro f s b' _ h;by_cases e:f=0/\s=s0
  . rw[e.1,e.2,hmn] at h;cases h
  . exact(Zh _ _ e).trans h
 refine⟨X,S.step 0 s0 .dead hl X (fun f s e=>Zh _ _ e) (by simp[Qs]) (fun f s e=>rfl) ?_ (fun f s o b e h1 h2=>⟨rfl,fun i h=>h⟩) S.fmod S.modsz trivial ?_⟩
 . intro n x h;have:=S.reg_none hn;simp only at h;rw[this] at h;cases h
 . intro f s o b e h1 h2 h3;cases h3
theorem Qfp(S:Sim B F H E){v v' :V}{w:Option (Nat×Nat×O)}{c:Value}(h:Qiq (Qd H) v=some (v',w))(hr:Rel E v c):
 ∃E',E'.w=E.w/\Ext H.length B E E' /\Sim B F (wr H w) E' /\Rel E' v' c:=by
 unfold Qiq at h;split at h
 . rename_i f s o len cap esz;split at h
   case h_2=>cases h
   rename_i xs hg;split at h
   case isFalse=>cases h
   rename_i hc;cases h;simp only[Rel] at hr;obtain⟨b,c',T',n',hmu,rfl,h1,h2,h3,h4,_⟩:=hr;obtain⟨b',c,T,vs,rest,g1,g2,g3,g4,g5,g6,g7⟩:=S.obj f s _ hg;rw[hmu] at g1;cases g1;obtain⟨X,S'⟩:=S.die hg hmu g3 g2 E.w rfl (fun _ _=>rfl) g3 ⟨rfl,rfl,rfl⟩;refine⟨{E with w:=E.w,mod:=fun b' i=>E.mod b' i/\b' ≠b},rfl,X,S',?_⟩;simp only[Rel];refine⟨⟨b,o,none⟩,c',(vs.drop o).take (len*esz),rfl,h1,?_,.inr ⟨rfl,fun i v hv=>⟨?_,fun hm=>hm.2 rfl⟩⟩,?_,?_⟩
   . intro hcap;exact h2 len (by simpa using hcap)
   . have hv2:vs[o+i]?=some v:=by
      rw[Zoe] at hv;split at hv
      . rw[Zpy] at hv;exact hv
      . cases hv
     have hcl:c[o+i]?=some v:=by rw[<-Zot,g4,Zoo (Zoq.1 hv2).1];exact hv2
     simp only[World.cell?,g3];simpa using hcl
   . exact Qh.mono X S.lt _ _ ((g5.drop o).take _)
   . have pd:∀(l:List V) (n:Nat),Qu l=true->Qu (l.drop n)=true:=by
      intro l
      induction l with
      |nil=>intro n _;simp[Qu]
      |cons x l ih=>intro n h;cases n with
       |zero=>exact h
       |succ n=>simp only[Qu,Zok] at h;exact ih n h.2
     have pt:∀(l:List V) (n:Nat),Qu l=true->Qu (l.take n)=true:=by
      intro l
      induction l with
      |nil=>intro n _;simp[Qu]
      |cons x l ih=>intro n h;cases n with
       |zero=>rfl
       |succ n=>simp only[Qu,Zok] at h;simp only[Zqb,Qu,h.1,ih n h.2,Zqc]
     exact pt _ _ (pd _ _ hc.2)
 . cases h;exact⟨E,rfl,Ext.refl _ _ _,S,hr⟩
theorem Q2i(S:Sim B F H E){v v' :V}{w:Option (Nat×Nat×O)}{c:Value}(h:Qzo (Qd H) v=some (v',w))(hr:Rel E v c):
 ∃E',E'.w=E.w/\Ext H.length B E E' /\Sim B F (wr H w) E' /\Rel E' v' c:=by
 unfold Qzo at h;split at h
 . rename_i x r;cases hx:Qiq (Qd H) x with
   |none=>rw[hx] at h;cases h
   |some y=>
    rw[hx] at h;cases h;simp only[Rel] at hr;obtain⟨vs,rfl,hl⟩:=hr;obtain⟨u,us,rfl,h1,h2⟩:=Qh.cons_iff.1 hl;obtain⟨E',e,X,S',h3⟩:=Qfp S hx h1;exact⟨E',e,X,S',by simp only[Rel];exact⟨_,rfl,.cons h3 (Qh.mono X S.lt _ _ h2)⟩⟩
 . exact Qfp S h hr
theorem Qym(S:Sim B F H E){i:Option Nat}{args as:List V}{w:Option (Nat×Nat×O)}{cs:List Value}(h:Qk2 (Qd H) i args=some (as,w))(hr:Qh E args cs):
 ∃E',E'.w=E.w/\Ext H.length B E E' /\Sim B F (wr H w) E' /\Qh E' as cs:=by
 unfold Qk2 at h;split at h
 . cases h;exact⟨E,rfl,Ext.refl _ _ _,S,hr⟩
 . rename_i i;split at h
   case h_2=>cases h
   rename_i x hx;split at h
   case h_2=>cases h
   rename_i y w' hy;cases h;obtain⟨c,hc,hxc⟩:=hr.get hx;obtain⟨E',e,X,S',h1⟩:=Qfp S hy hxc;refine⟨E',e,X,S',?_⟩;have:=(Qh.mono X S.lt _ _ hr).set i h1;have e2:cs.set i c=cs:=by
    apply Zpi;intro j;rw[Zqd];by_cases e:i=j
    . subst e;rw[if_pos rfl,if_pos (Zoq.1 hc).1,hc]
    . rw[if_neg e]
   rwa[e2] at this
theorem wr_length(H:Heap)(w:Option (Nat×Nat×O)):(wr H w).length=H.length:=by
 cases w with
 |none=>rfl
 |some x=>obtain⟨f,s,o⟩:=x;exact Jo H f s o
theorem Qri:∀(ws:List (Nat×Nat×O)) (H:Heap),(wrL H ws).length=H.length
 |[],_=>rfl
 |(f,s,o)::r,H=>by rw[wrL,Qri r,Jo]
end Go.AM.BM
namespace Go.AM.BM
variable {P : Program} {E : Env} {B : Nat} {F : Nat -> Nat -> Prop} {H : Heap}
theorem _root_.Go.AM.Sim.adoptCells(S:Sim B F H E){f0 s0:Nat}(hf:f0<H.length)(hn:Qd H f0 s0=none){b:Nat}{c0:Array Value}{T:TypeId}(hb:E.w.heap[b]?=some (.cells c0 T (0,0)))(hB:B<=b)(hmod:∀i,E.mod b i)
 (hfree:∀f s o,Qd H f s=some o->blk E f s o≠some b){xs:List V}{vs rest:List Value}(hr:Qh E xs vs)(hx:xs.all V.scalar=true)(hl:(vs++rest).length=c0.size):
 Ext H.length B E {E.setRow b (vs++rest) with mu:=upd E.mu f0 s0 (some b)}/\Sim B F (hset H f0 s0 (.cells xs)) {E.setRow b (vs++rest) with mu:=upd E.mu f0 s0 (some b)}:=by
 have hmn:=S.mu_none hn;have X1:Ext H.length B E (E.setRow b (vs++rest)):=Qj1 hb hB _ hl (fun i h=>absurd (hmod i) h);have X:Ext H.length B E {E.setRow b (vs++rest) with mu:=upd E.mu f0 s0 (some b)}:=by
  refine⟨X1.size,X1.shape,X1.cell,X1.mod,?_,X1.reg,X1.old,X1.rest,X1.tab,X1.dfr⟩;intro f s b' _ h;by_cases e:f=f0/\s=s0
  . rw[e.1,e.2,hmn] at h;cases h
  . exact(Zh _ _ e).trans h
 refine⟨X,S.step f0 s0 _ hf X (fun f s e=>Zh _ _ e) (by simp[Qs]) (fun f s e=>rfl) ?_ ?_ ?_ ?_ ?_ ?_⟩
 . intro n x h;have:=S.reg_none hn;simp only[Env.setRow] at h;rw[this] at h;cases h
 . intro f s o b' e ho hb';refine⟨?_,fun i h=>h⟩;have hne:b' ≠b:=fun e' =>hfree f s o ho (e' ▸hb');simp only[Env.setRow];exact setRow_other E.w b b' _ hne
 . exact fun b i h=>S.fmod b i h
 . intro b' i h;simp only[Env.setRow,Qgo];exact S.modsz b' i h
 . exact⟨b,⟨vs++rest⟩,T,vs,rest,Qs _ _ _ _,hB,setRow_heap E.w b c0 _ T (0,0) hb,rfl,Qh.mono X S.lt _ _ hr,hmod,hx⟩
 . intro f s o b' e ho hb' h;simp only[blk,Qs,Zrd] at h;subst h;exact hfree f s o ho hb'
theorem Qs2(hl:0<H.length){f0 s0:Nat}{o0:O}(ho:Qd H f0 s0=some o0):∀f s o,Qd (hset H f0 s0 .dead) f s=some o->(f=f0/\s=s0/\o= .dead)\/(¬(f=f0/\s=s0)/\Qd H f s=some o):=by
 intro f s o h;rw[Br _ _ _ _ (Ys ho)] at h;by_cases e:f=f0/\s=s0
 . rw[if_pos e] at h;cases h;exact .inl ⟨e.1,e.2,rfl⟩
 . rw[if_neg e] at h;exact .inr ⟨e,h⟩
theorem Qyb(S:Sim B F H E)(hlt:0<H.length){nm:Nat}{ts:Array TypeId}{t t2:TypeId}(ty:TypeId){s x:V}{cs cx:Value}{v:V}{ws:List (Nat×Nat×O)}
 (ht:ts[0]?=some t)(ht2:ts[1]?=some t2)(h:Qhw P (Qd H) nm t t2 s x=some (v,ws))(rs:Rel E s cs)(rx:Rel E x cx):
 ∃E' cv,Ext H.length B E E' /\Sim B F (wrL H ws) E' /\Rel E' v cv/\(Builtin.append_ ts ty #[cs,cx]).run P E.w= .ok cv E'.w:=by
 unfold Qhw at h;split at h<;>try (cases h;done)
 rename_i e f sl len e' hu;split at h<;>try (cases h;done)
 rename_i n by_ z hn hb hzc;split at h<;>try (cases h;done)
 rename_i hcond;obtain⟨hzl,rfl,hn0⟩:=hcond;split at h<;>try (cases h;done)
 rename_i xs new m hg hnn hsrc;split at h<;>try (cases h;done)
 rename_i hh;obtain⟨hxl,hr,hsc⟩:=hh;cases h;obtain⟨zv,zvs,hzrun,hzcells,hzrel,_⟩:=Js hzc E.w;have hz:zer P e=some zv:=by
  unfold zeroCells at hzc;cases hq:zer P e with
  |none=>rw[hq] at hzc;cases hzc
  |some q=>
   have:=B8 hq E.w;rw[this] at hzrun;simp only[Result.ok.injEq,and_true] at hzrun;rw[hzrun]
 obtain⟨news,hs,hrel,hl⟩:=Qft S hz hzc hzl hsrc rx
 replace hl:news.length=(m+1)*e' :=hl
 have hne:¬(f=0/\sl=nm):=by rintro⟨rfl,rfl⟩;rw[hg] at hnn;cases hnn
 have hzl2:∀k,(zerosN zv.cells.toList k).length=k*e' :=by
  intro k;have:zv.cells.toList.length=e' :=by rw[<-hzl,hzcells];exact((hzrel E).length).symm
  induction k with
  |zero=>simp[zerosN]
  |succ k ih=>simp only[zerosN,Zom,ih,this,Zpn];omega
 have rs' :=rs;simp only[Rel] at rs;obtain⟨b,c',T',n',hmu,rfl,g1,g2,g3,g4,g5⟩:=rs;have q0:=S.lies hg;obtain⟨b2,c,T,vs,rest,q1,q2,q3,q4,q5,q6,q7,q8⟩:=S.lies hg;rw[hmu] at q1;cases q1;have hvl:=q5.length;have hcs:c.size=vs.length+rest.length:=by have:=congrArg List.length q4;simpa using this
 have hn' :n' =c.size:=by simp only[World.shape?,q3,Zrd,Prod.mk.injEq] at g3;exact g3.2.symm
 have hend:=g5 trivial;have hadd:(len+(m+1))*e' =len*e' +(m+1)*e' :=by rw[Zpn]
 have S1:Sim B F (hset H f sl .dead) E:=S.kill hg (fun n h=>by cases h);have hlen1:(hset H f sl .dead).length=H.length:=Jo _ _ _ _;have hn1:Qd (hset H f sl .dead) 0 nm=none:=by rw[Br _ _ _ _ (Ys hg),if_neg (fun e=>hne ⟨e.1.symm,e.2.symm⟩)];exact hnn
 by_cases hfit:len+(m+1)<=c'
 .
  have hle:(len+(m+1))*e' <=c' *e' :=Zo3 _ hfit;have hnl:0+len*e' +news.length<=c.size:=by rw[hl];omega
  have hrun:=Qci (ty:=ty) ht ht2 hu hn hb hs hfit q3 hnl (Qbn hrel hsc);have hsp:splice c.toList (0+len*e') news=(vs++news)++rest.drop news.length:=by
   have e1:vs.length=len*e' :=by omega
   unfold splice;rw[q4,Zod,<-e1,List.take_left',List.drop_append,Zqe (by omega)]
   . simp
   . rfl
  have hlen2:((vs++news)++rest.drop news.length).length=c.size:=by simp only[Zom,Zo2];omega
  obtain⟨X,S2⟩:=S1.adoptCells (f0:=0) (s0:=nm) (by rw[hlen1];exact hlt) hn1 q3 q2 q6 (fun f' s' o' ho' hb' =>by
   rcases Qs2 hlt hg f' s' o' ho' with⟨_,_,rfl⟩|⟨h1,h2⟩
   . cases hb'
   . exact h1 (S.inj f' s' o' f sl _ b h2 hg hb' hmu)) (q5.append hrel) (by simp only[Zqf,q7,hsc,Zo9]) hlen2
  rw[hlen1] at X;refine⟨_,.slice (some ⟨b,0,none⟩) (len+(m+1)) c',X,S2,?_,?_⟩
  . simp only[Rel];exact⟨b,c',T',n',Qs _ _ _ _,rfl,hfit,(fun k hk=>by cases hk),X.shape _ _ _ g3,g4,fun _=>hend⟩
  . rw[hrun];simp only[Env.setRow];rw[hsp]
 . have hxs:(xs.drop 0).take (len*e')=xs:=by rw[Zpe,<-hxl,Zqg]
   obtain⟨_,_,vs',he,_,k3,k4,k5⟩:=Y1 (P:=P) (esz:=e') (n:=len) (cs:=xs) S (by
    have:0+len*e' <=xs.length:=by omega
    simp only[Qk,hg,true_and,this,if_true,hxs]) rs'
   have hold:∀w' :World,w'.heap=E.w.heap->(Builtin.firstCells e' len (.slice (some ⟨b,0,none⟩) len c')).run P w' = .ok ⟨vs'⟩ w' :=by intro w' hw;have:=k5 w' len hw (Zn6 _);rw[<-k4,Zqg] at this;exact this
   obtain⟨newCap,hcap,hrun⟩:=Xv (ty:=ty) ht ht2 hu hn hb hz rfl hs hold (by omega) hr;have hrl:=hzl2 (newCap-(len+(m+1)));have htot:newCap*e' =(len+(m+1))*e' +(newCap-(len+(m+1)))*e' :=by rw[<-Zpn];congr 1;omega
   obtain⟨X,S2⟩:=S1.newCells (f0:=0) (s0:=nm) (by rw[hlen1];exact hlt) hn1 (xs++new) (vs' ++news) (zerosN zv.cells.toList (newCap-(len+(m+1)))) e (E.w.drawn+1) (k3.append hrel) (by simp only[Zqf,q7,hsc,Zo9]);rw[hlen1] at X;refine⟨_,.slice (some ⟨E.w.heap.size,0,none⟩) (len+(m+1)) newCap,X,S2,?_,hrun⟩;have htl:(vs' ++news++zerosN zv.cells.toList (newCap-(len+(m+1)))).length=newCap*e' :=by simp only[Zom,hrl,k4,hl];omega
   simp only[Rel];refine⟨E.w.heap.size,newCap,e,newCap*e',Qs _ _ _ _,rfl,hcap,(fun k hk=>by cases hk),?_,?_,?_⟩
   . have:=Yq E (.cells ⟨vs' ++news++zerosN zv.cells.toList (newCap-(len+(m+1)))⟩ e) (E.w.drawn+1);simp only[Env.newCells,World.shape?,this];simpa using htl
   . omega
   . intro _;omega
end Go.AM.BM
end
