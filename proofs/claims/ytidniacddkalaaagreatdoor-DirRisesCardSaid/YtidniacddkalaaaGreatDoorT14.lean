/- This file holds in one the texts An25, An26, An27, An28; each says at its head what it proves. -/
import Derived.Test.YtidniacddkalaaaGreatDoorT13
import Derived.ProofKit
import Derived.OpenShut
set_option linter.unusedSimpArgs false
set_option linter.unusedVariables false
section
namespace Go.AM
def Xt(R:TypeId->List V->Prop):List TypeId->List V->Prop
 |[],xs=>xs=[]
 |t::ts,xs=>∃y r,R t y/\Xt R ts r/\xs=y++r
def Z2(P:Program):Nat->TypeId->List V->Prop
 |0,_,_=>False
 |n+1,t,xs=>match P.underlying t with
  |some .bool=>∃b,xs=[.bool b]
  |some (.int k)=>∃m,xs=[.int k m]/\(Lit.int k m).wf=true
  |some .string=>∃s:List UInt8,xs=[.str s]/\s.length<=maxLen
  |some (.slice e)=>xs=[.nS]\/∃ys:List (List V),xs=[.iS ys.flatten ys.length false]/\ys.length<=maxLen/\∀y∈ys,Z2 P n e y
  |some (.struct fs)=>Xt (Z2 P n) (fs.toList.map (·.type)) xs
  |some (.array k e)=>Xt (Z2 P n) (List.replicate k e) xs
  |_=>False
def Qe6(P:Program):Nat->List Field->Nat->Bool
 |o,[],n=>o==n
 |o,f::r,n=>f.offset==o&&Qe6 P (o+P.cellsOf f.type) r n
def Q2x(P:Program)(book:List TypeId):Bool:=
 book.all fun t=>match P.underlying t with
  |some .bool|some (.int _)|some .string=>true
  |some (.slice e)=>book.contains e
  |some (.struct fs)=>Qe6 P 0 fs.toList (P.cellsOf t)&&fs.toList.all fun f=>book.contains f.type
  |some (.array k e)=>P.cellsOf t==k*P.cellsOf e&&book.contains e
  |_=>false
abbrev Qk3(P:Program)(W:World):Env:=bare (Qo P) W fun _ _=>False
theorem Zej(a:Addr)(m j:Nat):(a.add m).add j=a.add (m+j):=by
 unfold Addr.add;by_cases hj:j=0
 . subst hj;simp
 . by_cases hm:m=0
   . subst hm;simp[hj]
   . have:m+j≠0:=by omega
     simp[hj,hm,Zsg]
section
variable {H : Type} {enc : TypeId × Value -> H} {P : Program} {W : World} {book : List TypeId}
theorem Zab{a:Addr}{vs:List Value}(h:∀i v,vs[i]?=some v->W.cell? (a.add i)=some v):Qff (Qk3 P W) a vs:=by
 cases vs with
 |nil=>exact .inl rfl
 |cons v r=>
  right;have h0:=h 0 v rfl;have hs:a.spot=none:=by
   have e:a.add 0=a:=by simp[Addr.add]
   rw[e] at h0;unfold World.cell? at h0;split at h0
   . cases hs:a.spot with
     |none=>rfl
     |some s=>simp[hs] at h0
   . cases h0
  refine⟨hs,fun i v hv=>⟨?_,fun hm=>hm⟩⟩;have:=h i v hv;have e:a.add i=⟨a.block,a.off+i,none⟩:=by obtain⟨b,o,s⟩:=a;simp only at hs;subst hs;unfold Addr.add;split<;>simp_all
  rw[e] at this;exact this
def Qou(P:Program)(W:World)(n:Nat)(t:TypeId)(cs:List Value):Prop:=∃xs,Z2 P n t xs/\Qe (Qk3 P W) xs cs/\Qx xs=true
theorem Qh3{n:Nat}{cs:List Value}:∀(fs:List Field) (o:Nat),Qe6 P o fs cs.length=true->(∀f∈fs,Qou P W n f.type ((cs.drop f.offset).take (P.cellsOf f.type)))->
 ∃xs,Xt (Z2 P n) (fs.map (·.type)) xs/\Qe (Qk3 P W) xs (cs.drop o)/\Qx xs=true
 |[],o,ht,_=>by
  simp only[Qe6,beq_iff_eq] at ht;subst ht;exact⟨[],rfl,by rw[List.drop_length];exact .nil,rfl⟩
 |f::r,o,ht,h=>by
  simp only[Qe6,Zr1,beq_iff_eq] at ht;obtain⟨rfl,ht⟩:=ht;obtain⟨y,h1,h2,h3⟩:=h f (by simp);obtain⟨xs,g1,g2,g3⟩:=Qh3 r _ ht (fun g hg=>h g (by simp[hg]));refine⟨y++xs,⟨y,xs,h1,g1,rfl⟩,?_,Qfn h3 g3⟩;have e:cs.drop f.offset=(cs.drop f.offset).take (P.cellsOf f.type)++cs.drop (f.offset+P.cellsOf f.type):=by rw[<-Zsh,Zse]
  rw[e];exact h2.append g2
theorem Qhs{n c:Nat}{e:TypeId}{cs:List Value}:∀(k i:Nat),(∀j,i<=j->j<i+k->Qou P W n e ((cs.drop (j*c)).take c))->cs.length=(i+k)*c->
 ∃xs,Xt (Z2 P n) (List.replicate k e) xs/\Qe (Qk3 P W) xs (cs.drop (i*c))/\Qx xs=true
 |0,i,_,hl=>by
  refine⟨[],rfl,?_,rfl⟩;rw[List.drop_of_length_le (by rw[hl];simp)];exact .nil
 |k+1,i,h,hl=>by
  obtain⟨y,h1,h2,h3⟩:=h i (Zrf _) (by omega);obtain⟨xs,g1,g2,g3⟩:=Qhs k (i+1) (fun j hj hj' =>h j (by omega) (by omega)) (by rw[hl];congr 1;omega);refine⟨y++xs,⟨y,xs,h1,g1,rfl⟩,?_,Qfn h3 g3⟩;have e:cs.drop (i*c)=(cs.drop (i*c)).take c++cs.drop ((i+1)*c):=by rw[Nat.succ_mul,<-Zsh,Zse]
  rw[e];exact h2.append g2
theorem Qm5{n c:Nat}{e:TypeId}{a:Addr}:∀(len:Nat),(∀i,i<len->∃cs,W.cells? 0 (a.add (i*c)) c=some cs/\Qou P W n e cs)->
 ∃(ys:List (List V)) (vs:List Value),ys.length=len/\(∀y∈ys,Z2 P n e y)/\Qe (Qk3 P W) ys.flatten vs/\Qx ys.flatten=true/\vs.length=len*c/\∀i v,vs[i]?=some v->W.cell? (a.add i)=some v
 |0,_=>⟨[],[],rfl,(fun _ h=>by cases h),.nil,rfl,by simp,fun i v h=>by simp at h⟩
 |len+1,h=>by
  obtain⟨ys,vs,h1,h2,h3,h4,h5,h6⟩:=Qm5 len (fun i hi=>h i (by omega));obtain⟨cs,hc,y,g1,g2,g3⟩:=h len (by omega);obtain⟨_,hl,hcell⟩:=World.cells?_some hc;refine⟨ys++[y],vs++cs,by simp[h1],?_,?_,?_,by rw[Zsi,h5,hl,Nat.succ_mul],?_⟩
  . intro z hz;rcases Zr5.1 hz with hz|hz
    . exact h2 z hz
    . rw[Zr0] at hz;subst hz;exact g1
  . rw[Zsj];simpa using h3.append g2
  . rw[Zsj];exact Qfn h4 (by simpa using g3)
  . intro i v hv;rcases Zrc i vs.length with hi|hi
    . exact h6 i v (by rwa[Zsk hi] at hv)
    . rw[Zsl hi] at hv;have hlt:i-vs.length<cs.length:=(Zsm.1 hv).1;have:=hcell (i-vs.length) (by omega);rw[Zej,hv] at this;have e1:len*c+(i-vs.length)=i:=by omega
      rwa[e1] at this
theorem Qi3(hb:Q2x P book=true):∀(fuel:Nat) (t:TypeId) (cs:List Value) (x:DataW H×List MemPlace),t∈book->
 DataW.trod enc P W 0 (fun _=>true) true fuel t cs=some x->Qou P W fuel t cs
 |0,t,cs,x,_,h=>by cases h
 |fuel+1,t,cs,x,ht,h=>by
  have ih:=fun t cs x=>Qi3 hb fuel t cs x;have hbt:=Zr2.1 hb t ht;unfold Qou;unfold Z2;cases hu:P.underlying t with
  |none=>rw[hu] at hbt;cases hbt
  |some d=>
   rw[hu] at hbt;cases d with
   |bool=>
    obtain⟨b,rfl,_⟩:=DataW.trod_bool hu h;exact⟨[.bool b],⟨b,rfl⟩,.cons (by simp[Rel]) .nil,rfl⟩
   |int k=>
    obtain⟨m,rfl,_,hw⟩:=DataW.trod_int hu h;exact⟨[.int k m],⟨m,rfl,hw⟩,.cons (by simp[Rel]) .nil,rfl⟩
   |string=>
    obtain⟨s,rfl,_,hs⟩:=DataW.trod_string hu h;refine⟨[.str s.data.toList],⟨s.data.toList,rfl,by rw[<-Lib.size_eq];exact hs⟩,.cons (by simp[Rel]) .nil,rfl⟩
   |slice e=>
    have he:e∈book:=by simpa using hbt
    rcases DataW.trod_slice hu h with⟨rfl,_⟩|⟨a,len,cap,elems,rest,n,hn,rfl,_,_,hlc,hcm,hel,hread,_⟩
    . exact⟨[.nS],.inl rfl,.cons (by simp[Rel]) .nil,rfl⟩
    . cases hn;obtain⟨ys,vs,h1,h2,h3,h4,h5,h6⟩:=Qm5 (P:=P) (W:=W) (n:=fuel) (c:=P.cellsOf e) (e:=e) (a:=a) len (fun i hi=>by
       have:=hread i hi;have hx:elems[i]?=some elems[i]:=Zra (by omega);rw[hx] at this;cases hc:W.cells? 0 (a.add (i*P.cellsOf e)) (P.cellsOf e) with
       |none=>rw[hc] at this;cases this
       |some cs=>rw[hc] at this;exact⟨cs,rfl,ih e cs _ he this⟩)
      refine⟨[.iS ys.flatten ys.length false],.inr ⟨ys,rfl,by omega,h2⟩,.cons ?_ .nil,rfl⟩;simp only[Rel];exact⟨a,cap,vs,by rw[h1],by omega,(fun h=>by cases h),Zab h6,h3,h4⟩
   |struct fs=>
    simp only[Zr1,Zr2] at hbt;obtain⟨xs,n,hn,_,hl,hxl,hread⟩:=DataW.trod_struct hu h;cases hn;obtain⟨ys,g1,g2,g3⟩:=Qh3 (P:=P) (W:=W) (n:=fuel) (cs:=cs) fs.toList 0 (by rw[hl];exact hbt.1) (fun f hf=>by
     obtain⟨i,hi⟩:=Zsn.1 hf;have hi' :fs[i]?=some f:=by simpa using hi
     have hil:i<fs.size:=(Zrj.1 hi').1;have:=hread i f hi';have hx:xs[i]?=some xs[i]:=Zra (by omega);rw[hx] at this
     exact ih _ _ _ (by simpa using hbt.2 f hf) this)
    exact⟨ys,g1,by simpa using g2,g3⟩
   |array k e=>
    simp only[Zr1,beq_iff_eq] at hbt;obtain⟨xs,n,hn,_,hl,hxl,hread⟩:=DataW.trod_array hu h;cases hn;obtain⟨ys,g1,g2,g3⟩:=Qhs (P:=P) (W:=W) (n:=fuel) (c:=P.cellsOf e) (e:=e) (cs:=cs) k 0 (fun j _ hj=>by
     have:=hread j (by omega);have hx:xs[j]?=some xs[j]:=Zra (by omega);rw[hx] at this
     exact ih _ _ _ (by simpa using hbt.2) this) (by rw[hl,hbt.1];simp)
    exact⟨ys,g1,by simpa using g2,g3⟩
   |_=>cases hbt
def Qcq(P:Program)(n:Nat)(t:TypeId)(x:V):Prop:=
 match P.underlying t with
 |some (.struct _)|some (.array _ _)=>∃cs,x= .agg cs/\Z2 P n t cs
 |_=>Z2 P n t [x]
def Qk4(P:Program):List TypeId->List V->Prop
 |[],xs=>xs=[]
 |t::ts,xs=>∃n y r,Qcq P n t y/\Qk4 P ts r/\xs=y::r
theorem Qsh(hb:Q2x P book=true):∀{ts:List TypeId} {vs:List Value} {ds:List (DataW H)} {ps:List MemPlace},(∀t∈ts,t∈book)->
 DataW.TrodAll enc P W 0 (fun _=>true) true ts vs ds ps->(∀(j:Nat) t v,ts[j]?=some t->vs[j]?=some v->∃w r base,Value.okWide P w r base t v)->
 ∃xs,Qk4 P ts xs/\Qe (Qk3 P W) xs vs
 |[],[],[],_,_,_,_=>⟨[],rfl,.nil⟩
 |[],_::_,_,_,_,h,_=>h.elim
 |[],[],_::_,_,_,h,_=>h.elim
 |_::_,[],_,_,_,h,_=>h.elim
 |_::_,_::_,[],_,_,h,_=>h.elim
 |t::ts,v::vs,d::ds,ps,ht,h,hok=>by
  obtain⟨p,q,⟨fuel,h1⟩,h2,_⟩:=h;obtain⟨ys,g1,g2,g3⟩:=Qi3 hb fuel t _ _ (ht t (by simp)) h1;obtain⟨xs,k1,k2⟩:=Qsh hb (fun u hu=>ht u (by simp[hu])) h2 (fun j u x hu hx=>hok (j+1) u x hu hx);obtain⟨w,r,base,hw⟩:=hok 0 t v rfl rfl;by_cases hagg:∃cs:Array Value,v= .agg cs/\(match P.underlying t with|some (.struct _)|some (.array _ _)=>True|_=>False)
  . obtain⟨cs,rfl,hm⟩:=hagg;refine⟨.agg ys::xs,⟨fuel,_,_,?_,k1,rfl⟩,.cons ?_ k2⟩
    . unfold Qcq;split
      . exact⟨ys,rfl,g1⟩
      . exact⟨ys,rfl,g1⟩
      . rename_i q1 q2;split at hm
        . rename_i fs hh;exact absurd hh (q1 fs)
        . rename_i k e hh;exact absurd hh (q2 k e)
        . exact hm.elim
    . simp only[Rel];exact⟨cs.toList,rfl,g2⟩
  . have hne:∀fs,P.underlying t≠some (.struct fs):=by
     intro fs hu;unfold Value.okWide at hw;rw[hu] at hw;obtain⟨cs,rfl,_⟩:=hw;exact hagg ⟨cs,rfl,by rw[hu];trivial⟩
    have hne2:∀k e,P.underlying t≠some (.array k e):=by intro k e hu;unfold Value.okWide at hw;rw[hu] at hw;obtain⟨cs,rfl,_⟩:=hw;exact hagg ⟨cs,rfl,by rw[hu];trivial⟩
    have hv:v.cells.toList=[v]:=by
     cases v with
     |agg cs=>
      exfalso;have hbt:=Zr2.1 hb t (ht t (by simp));cases hu:P.underlying t with
      |none=>rw[hu] at hbt;cases hbt
      |some d=>cases d<;>first
       |(rw[hu] at hbt;cases hbt;done)
       |exact hne _ hu
       |exact hne2 _ _ hu
       |(simp[Value.okWide,hu,Cell.okWide,Cell.ok] at hw;done)
     |_=>rfl
    rw[hv] at g2;cases ys with
    |nil=>exact absurd g2 (by simp[Qe])
    |cons y r=>
     obtain⟨v',r',e,q1,q2⟩:=Qe.cons_iff.1 g2;cases e;cases r with
     |cons z r=>exact absurd q2 (by intro h;have:=h.length;simp at this)
     |nil=>
      refine⟨y::xs,⟨fuel,_,_,?_,k1,rfl⟩,.cons q1 k2⟩;unfold Qcq;split
      . rename_i fs hh;exact absurd hh (hne fs)
      . rename_i k e hh;exact absurd hh (hne2 k e)
      . exact g1
end
section
variable {P : Program} {pol : Pol}
theorem Sim.start(W:World):Sim W.heap.size (fun _ _=>False) [] (Qk3 P W) where
 dom:=fun f s=>rfl
 bsz:=Zrf _
 fb:=fun _ _ h=>h.elim
 fmod:=fun _ _ h=>h
 modsz:=fun _ _ h=>h.elim
 obj:=fun f s o h=>by simp[Qd] at h
 nreg:=fun f s n x h=>by cases h
 inj:=fun f s o _ _ _ _ h=>by simp[Qd] at h
theorem Qpk(ok:Okay P pol){f:FuncId}{xs:List V}{args:Array Value}{W:World}{b:Bool}{H' :Heap}(h:Qp P pol f xs []=some (.ret (.bool b),H'))
 (hr:Qe (Qk3 P W) xs args.toList):Calls P f args W fun e W' =>e= .returned (.bool b)/\RowKit.Below W.heap.size W W' :=by
 have:=((Qd9 ok).1 f xs [] _ H' h).2 W.heap.size (fun _ _=>False) (Qk3 P W) args.toList (Sim.start W) rfl hr;refine this.mono ?_;rintro e w' ⟨E',rfl,⟨c,rfl,hc⟩,S',X,_⟩;simp only[Rel] at hc;subst hc;exact⟨rfl,X.rest.2.1,X.rest.1,X.rest.2.2,X.size,X.old⟩
theorem Qix{H:Type}{enc:TypeId×Value->H}(hl:laidOutB P=true){W W' :World}(hb:RowKit.Below W.heap.size W W'):∀{ts:List TypeId} {vs:List Value} {ds:List (DataW H)} {ps:List MemPlace},
 (∀t∈ts,P.readableRec t=true/\t<P.types.size)->DataW.TrodAll enc P W 0 (fun _=>true) true ts vs ds ps->(∀x∈ps,x.block<W.heap.size)->DataW.TrodAll enc P W' 0 (fun b=>decide (b<W.heap.size)) true ts vs ds ps
 |[],[],[],_,_,h,_=>h
 |[],_::_,_,_,_,h,_=>h.elim
 |[],[],_::_,_,_,h,_=>h.elim
 |_::_,[],_,_,_,h,_=>h.elim
 |_::_,_::_,[],_,_,h,_=>h.elim
 |t::ts,v::vs,d::ds,ps,ht,h,hlt=>by
  obtain⟨p,q,h1,h2,rfl⟩:=h;exact⟨p,q,RowKit.Below.trod hl (ht t (by simp)).1 (ht t (by simp)).2 h1 hb (fun x hx=>hlt x (by simp[hx])),Qix hl hb (fun u hu=>ht u (by simp[hu])) h2 (fun x hx=>hlt x (by simp[hx])),rfl⟩
theorem Qhq{H:Type}{enc:TypeId×Value->H}{W:World}{base:Nat}{sp:Nat->Bool}{hd:Bool}:∀{ts:List TypeId} {vs:List Value} {ds:List (DataW H)} {ps:List MemPlace},
 DataW.TrodAll enc P W base sp hd ts vs ds ps->ds.length=ts.length
 |[],[],[],_,_=>rfl
 |[],_::_,_,_,h=>h.elim
 |[],[],_::_,_,h=>h.elim
 |_::_,[],_,_,h=>h.elim
 |_::_,_::_,[],_,h=>h.elim
 |t::ts,v::vs,d::ds,ps,h=>by
  obtain⟨p,q,h1,h2,rfl⟩:=h;simp[Qhq h2]
theorem Qtj{H:Type}{enc:TypeId×Value->H}(ok:Okay P pol)(hl:laidOutB P=true){f:FuncId}{fn:Func}{ts book:List TypeId}{tb:TypeId}(hts:fn.params.toList=ts)(hrt:fn.resultTypes.toList=[tb])
 (htb:P.underlying tb=some .bool)(hbook:Q2x P book=true)(hin:ts.all (fun t=>book.contains t&&P.readableRec t&&decide (t<P.types.size))=true)
 {s:ChangeSpec}(hv:s.vars=[])(hs:∀ds:List (DataW H),ds.length=ts.length->(s.fn H ds).results=[.lit (.bool true)]/\(s.fn H ds).args=ds/\(s.fn H ds).vars=[])
 (hlaw:∀xs,Qk4 P ts xs->∃H',Qp P pol f xs []=some (.ret (.bool true),H')){apart fresh handsOn:Bool}
 {W:World}{base:Nat}{args:Array Value}{ds gs:List (DataW H)}{before:List MemPlace}
 (hval:∀(j:Nat) t v,fn.params[j]?=some t->args[j]?=some v->Value.okWide P W .any base t v)
 (hW:DataW.Whole enc P fn.params.toList s.vars apart W args.toList ds gs before):
 Calls P f args W fun e W' =>∃v,e= .returned v/\s.post enc P fn apart fresh handsOn false W args v W' :=by
 have hin' :∀t∈ts,t∈book/\P.readableRec t=true/\t<P.types.size:=by intro t ht;have:=Zr2.1 hin t ht;simp only[Zr1,decide_eq_true_eq] at this;exact⟨by simpa using this.1.1,this.1.2,this.2⟩
 have hW' :=hW;have hlt:=hW.lt;obtain⟨p,q,hA,hV,rfl,hfz,hnd⟩:=hW;rw[hv] at hV;have hg:gs=[]/\q=[]:=by
  cases gs with
  |nil=>exact⟨rfl,hV⟩
  |cons g gs=>exact hV.elim
 obtain⟨rfl,rfl⟩:=hg;rw[hts] at hA;obtain⟨xs,h1,h2⟩:=Qsh hbook (fun t ht=>(hin' t ht).1) hA (fun j t v ht hv=>⟨W,.any,base,hval j t v (by rw[<-Zso,hts];exact ht) (by simpa using hv)⟩);obtain⟨H',hc⟩:=hlaw xs h1;refine(Qpk ok hc h2).mono ?_;rintro e W' ⟨rfl,hb⟩;refine⟨_,rfl,?_⟩;obtain⟨k1,k2,k3⟩:=hs ds (Qhq hA);refine⟨ds,[],p++[],[],p,[],hW',?_,?_,?_,?_,fun h=>by cases h⟩
 . rw[Zsp,k1,hrt];have hsz:fn.resultTypes.size=1:=by rw[<-Zsq,hrt];rfl
   rw[hsz];exact ChangeShapes.trodAll_mk1 (RowKit.shut_bool htb true)
 . rw[Zsp,k2,hts];exact Qix hl hb (fun t ht=>(hin' t ht).2) hA (fun x hx=>hlt x (by simpa using hx))
 . rw[Zsp,k3,hv];rfl
 . exact hb.frame _
end
section
variable {P : Program} {pol : Pol} {C : Call} {L : Ka -> Kw} {fn fr : Nat} {ops : Array Oper} {r : List Oper} {t : List V} {H : Heap} {d : Option Nat} {ty u : TypeId} {ps : String} {af : Array Edge} {x y z : Operand}
theorem Qlc{op:Op}{j:Nat}{want:Bool}:Zi P pol C fn fr ops ({dst:=d,op:=op,type:=ty,pos:=ps,after:=af,guard:=some (j,want)}::r) t H=
 match((ops[j]?).bind (·.dst)).bind (t[·]?) with
 |some (.bool b)=>if b==want then Zi P pol C fn fr ops ({dst:=d,op:=op,type:=ty,pos:=ps,after:=af,guard:=none}::r) t H else Zi P pol C fn fr ops r (Qu t d nov) H
 |some (.tuple [])=>Zi P pol C fn fr ops r (Qu t d nov) H
 |_=>none:=by
 have e:Zy ops t {dst:=d,op:=op,type:=ty,pos:=ps,after:=af,guard:=some (j,want)}=match((ops[j]?).bind (·.dst)).bind (t[·]?) with
  |some (.bool b)=>some (b==want)
  |some (.tuple [])=>some false
  |_=>none:=rfl
 simp only[Zi,e];generalize((ops[j]?).bind (·.dst)).bind (t[·]?)=s;cases s with
 |none=>rfl
 |some v=>
  cases v with
  |bool b=>cases b<;>cases want<;>rfl
  |tuple l=>cases l<;>rfl
  |_=>rfl
theorem Q8g{op:Op}:Zi P pol C fn fr ops ({dst:=d,op:=op,type:=ty,pos:=ps,after:=af,guard:=none}::r) t H=
 match Zr P (pol.mt fn) fr (Qd H) (rho t) {dst:=d,op:=op,type:=ty,pos:=ps,after:=af,guard:=none} with
 |some (.val v w)=>Zi P pol C fn fr ops r (Qu t d v) (wr H w)
 |some (.panic v)=>some (.panic v,t,H)
 |some (.call f args)=>(match callOp pol C fn fr d f args H with
  |some (.ret v,H')=>Zi P pol C fn fr ops r (Qu t d v) H'
  |some (.pan v,H')=>some (.panic v,t,H')
  |none=>none)
 |some (.round f s args)=>(match C none (.yield f s::args) H with
  |some (.ret v,H')=>Zi P pol C fn fr ops r (Qu t d v) H'
  |_=>none)
 |none=>none:=by
 simp only[Zi,Zy,Q7];cases Zr P (pol.mt fn) fr (Qd H) (rho t) {dst:=d,op:=op,type:=ty,pos:=ps,after:=af,guard:=none} with
 |none=>rfl
 |some s=>
  cases s with
  |val v w=>rfl
  |panic v=>rfl
  |call f args=>
   simp only;cases callOp pol C fn fr d f args H with
   |none=>rfl
   |some q=>obtain⟨q,H'⟩:=q;cases q<;>rfl
  |round f s args=>
   simp only;cases C none (.yield f s::args) H with
   |none=>rfl
   |some q=>obtain⟨q,H'⟩:=q;cases q<;>rfl
inductive It where
 |code(c:Code)
 |ops(a:Array Oper)(l:List Oper)
 |opsT(a:Array Oper)(l:List Oper)(T:List FP)
 |block(id:Nat)
def U(P:Program)(pol:Pol)(C:Call)(L:Ka->Kw)(fn fr:Nat):List It->Ex->List V->Heap->Out
 |[],e,t,H=>some (e,t,H)
 | .code c::k,e,t,H=>(match e with
   | .normal=>(Q5 P pol C L fn fr c t H).bind fun x=>U P pol C L fn fr k x.1 x.2.1 x.2.2
   |e=>U P pol C L fn fr k e t H)
 | .ops a l::k,e,t,H=>(match e with
   | .normal=>(Zi P pol C fn fr a l t H).bind fun x=>U P pol C L fn fr k x.1 x.2.1 x.2.2
   |e=>U P pol C L fn fr k e t H)
 | .opsT a l T::k,e,t,H=>(match e with
   | .normal=>(Q3 P pol C fn fr a l t H).bind fun x=>if okT (Region.before a) (loud (T.reverse++x.2.2)) then U P pol C L fn fr k .normal x.1 x.2.1 else none
   |e=>U P pol C L fn fr k e t H)
 | .block id::k,e,t,H=>(match e with
   | .exit i=>if i=id then U P pol C L fn fr k .normal t H else U P pol C L fn fr k (.exit i) t H
   |e=>U P pol C L fn fr k e t H)
section
variable {k : List It}
theorem Qu7(c:Code):Q5 P pol C L fn fr c t H=U P pol C L fn fr [.code c] .normal t H:=by
 simp only[U];cases Q5 P pol C L fn fr c t H with
 |none=>rfl
 |some x=>rfl
theorem u_nil{e:Ex}:U P pol C L fn fr [] e t H=some (e,t,H):=rfl
theorem u_seq{a b:Code}:U P pol C L fn fr (.code (.seq a b)::k) .normal t H=U P pol C L fn fr (.code a:: .code b::k) .normal t H:=by
 simp only[U,Q5];cases Q5 P pol C L fn fr a t H with
 |none=>rfl
 |some x=>obtain⟨e,t1,H1⟩:=x;cases e<;>rfl
theorem Q9r{id:Nat}{l:List Oper}:U P pol C L fn fr (.code (.region id l.toArray false)::k) .normal t H=U P pol C L fn fr (.ops l.toArray l::k) .normal t H:=by simp only[U,Q5,Zre,if_false]
theorem u_draw{id:Nat}{l:List Oper}:U P pol C L fn fr (.code (.region id l.toArray true)::k) .normal t H=U P pol C L fn fr (.opsT l.toArray l []::k) .normal t H:=by
 simp only[U,Q5,if_true];cases Q3 P pol C fn fr l.toArray l t H with
 |none=>rfl
 |some x=>
  obtain⟨t1,H1,T1⟩:=x;by_cases h:okT (Region.before l.toArray) (loud T1)=true
  . simp[h]
  . simp[h]
theorem Q7u{a:Array Oper}:U P pol C L fn fr (.ops a []::k) .normal t H=U P pol C L fn fr k .normal t H:=rfl
theorem Q2e{a:Array Oper}{T:List FP}:U P pol C L fn fr (.opsT a [] T::k) .normal t H=if okT (Region.before a) (loud T.reverse) then U P pol C L fn fr k .normal t H else none:=by simp only[U,Q3,Zrr,Zsp]
theorem u_skip:U P pol C L fn fr (.code .skip::k) .normal t H=U P pol C L fn fr k .normal t H:=rfl
theorem u_ret:U P pol C L fn fr (.code .ret::k) .normal t H=U P pol C L fn fr k .ret t H:=rfl
theorem u_exit{id:Nat}:U P pol C L fn fr (.code (.exit id)::k) .normal t H=U P pol C L fn fr k (.exit id) t H:=rfl
theorem Q2r{c:Code}:U P pol C L fn fr (.code c::k) .ret t H=U P pol C L fn fr k .ret t H:=rfl
theorem Qy2{c:Code}{i:Nat}:U P pol C L fn fr (.code c::k) (.exit i) t H=U P pol C L fn fr k (.exit i) t H:=rfl
theorem Qvb{c:Code}{v:V}:U P pol C L fn fr (.code c::k) (.panic v) t H=U P pol C L fn fr k (.panic v) t H:=rfl
theorem Qo4{i:Nat}:U P pol C L fn fr (.block i::k) .normal t H=U P pol C L fn fr k .normal t H:=rfl
theorem Qw2{i:Nat}:U P pol C L fn fr (.block i::k) .ret t H=U P pol C L fn fr k .ret t H:=rfl
theorem Qrq{i:Nat}{v:V}:U P pol C L fn fr (.block i::k) (.panic v) t H=U P pol C L fn fr k (.panic v) t H:=rfl
theorem Qvu{i j:Nat}:U P pol C L fn fr (.block i::k) (.exit j) t H=if j=i then U P pol C L fn fr k .normal t H else U P pol C L fn fr k (.exit j) t H:=rfl
theorem Zd1{id:Nat}{b:Code}:U P pol C L fn fr (.code (.block id b)::k) .normal t H=U P pol C L fn fr (.code b:: .block id::k) .normal t H:=by
 simp only[U,Q5];cases Q5 P pol C L fn fr b t H with
 |none=>rfl
 |some x=>
  obtain⟨e,t1,H1⟩:=x;cases e<;>first|rfl|(simp only[Zrr];split<;>rfl)
def round(P:Program)(pol:Pol)(C:Call)(L:Ka->Kw)(fn fr:Nat)(b:Code):Ka:=fun t H=>match forget pol fn fr (Zn b) t H with
 |some (t,H)=>(match Zx b with
  |none=>[Q5 P pol C L fn fr b t H]
  |some x=>(match Y5 (Qd H) (rho t x) with
   |some cs=>cs.map fun c=>Z5 P pol C L fn fr b c.1 c.2 t H
   |none=>[none]))
 |none=>[none]
theorem Zc5{a:Array Oper}{op:Op}{j:Nat}{want b:Bool}(h:((a[j]?).bind (·.dst)).bind (t[·]?)=some (.bool b)):
 U P pol C L fn fr (.ops a ({dst:=d,op:=op,type:=ty,pos:=ps,after:=af,guard:=some (j,want)}::r)::k) .normal t H=
   if b=want then U P pol C L fn fr (.ops a ({dst:=d,op:=op,type:=ty,pos:=ps,after:=af,guard:=none}::r)::k) .normal t H else U P pol C L fn fr (.ops a r::k) .normal (Qu t d nov) H:=by
 simp only[U];rw[Qlc,h];simp only;cases b<;>cases want<;>rfl
theorem Zc1{a:Array Oper}{op:Op}:U P pol C L fn fr (.ops a ({dst:=d,op:=op,type:=ty,pos:=ps,after:=af,guard:=none}::r)::k) .normal t H=
 match Zr P (pol.mt fn) fr (Qd H) (rho t) {dst:=d,op:=op,type:=ty,pos:=ps,after:=af,guard:=none} with
 |some (.val v w)=>U P pol C L fn fr (.ops a r::k) .normal (Qu t d v) (wr H w)
 |some (.panic v)=>U P pol C L fn fr k (.panic v) t H
 |some (.call f args)=>(match callOp pol C fn fr d f args H with
  |some (.ret v,H')=>U P pol C L fn fr (.ops a r::k) .normal (Qu t d v) H'
  |some (.pan v,H')=>U P pol C L fn fr k (.panic v) t H'
  |none=>none)
 |some (.round f s args)=>(match C none (.yield f s::args) H with
  |some (.ret v,H')=>U P pol C L fn fr (.ops a r::k) .normal (Qu t d v) H'
  |_=>none)
 |none=>none:=by
 simp only[U];rw[Q8g];cases Zr P (pol.mt fn) fr (Qd H) (rho t) {dst:=d,op:=op,type:=ty,pos:=ps,after:=af,guard:=none} with
 |none=>rfl
 |some s=>
  cases s with
  |val v w=>rfl
  |panic v=>rfl
  |call f args=>
   simp only;cases callOp pol C fn fr d f args H with
   |none=>rfl
   |some q=>obtain⟨q,H'⟩:=q;cases q<;>rfl
  |round f s args=>
   simp only;cases C none (.yield f s::args) H with
   |none=>rfl
   |some q=>obtain⟨q,H'⟩:=q;cases q<;>rfl
theorem u_if{c:Operand}{a b:Code}:U P pol C L fn fr (.code (.cond c a b)::k) .normal t H=
 match rho t c with
 | .bool v=>if v=true then U P pol C L fn fr (.code a::k) .normal t H else U P pol C L fn fr (.code b::k) .normal t H
 |_=>none:=by
 simp only[U,Q5];cases rho t c with
 |bool v=>cases v<;>rfl
 |_=>rfl
theorem u_when{a:Array Oper}{op:Op}{j:Nat}{want:Bool}:
 U P pol C L fn fr (.ops a ({dst:=d,op:=op,type:=ty,pos:=ps,after:=af,guard:=some (j,want)}::r)::k) .normal t H=
   match((a[j]?).bind (·.dst)).bind (t[·]?) with
   |some (.bool b)=>if b=want then U P pol C L fn fr (.ops a ({dst:=d,op:=op,type:=ty,pos:=ps,after:=af,guard:=none}::r)::k) .normal t H else U P pol C L fn fr (.ops a r::k) .normal (Qu t d nov) H
   |some (.tuple [])=>U P pol C L fn fr (.ops a r::k) .normal (Qu t d nov) H
   |_=>none:=by
 cases h:((a[j]?).bind (·.dst)).bind (t[·]?) with
 |none=>simp only[U];rw[Qlc,h];rfl
 |some v=>
  cases v with
  |bool b=>exact Zc5 h
  |tuple l=>simp only[U];rw[Qlc,h];cases l<;>rfl
  |_=>simp only[U];rw[Qlc,h];rfl
end
end
section
variable {P : Program} {pol : Pol} {C : Call} {fn fr : Nat} {t : List V} {H : Heap} {u : TypeId} {x y : Operand} {k : IntKind} {m n : Int} {g : Get} {mt : Nat -> Bool}
theorem b_add:Zp P .add u x y (.int k m) (.int k n)=some (.int k (k.wrap (m+n))):=by simp only[Zp,Qfa,if_true]
theorem b_sub:Zp P .sub u x y (.int k m) (.int k n)=some (.int k (k.wrap (m-n))):=by simp only[Zp,Qfa,if_true]
theorem b_mul:Zp P .mul u x y (.int k m) (.int k n)=some (.int k (k.wrap (m*n))):=by simp only[Zp,Qfa,if_true]
theorem b_eql:Zp P .eql u x y (.int k m) (.int k n)=some (.bool (m==n)):=by simp only[Zp,Qfa,if_true]
theorem b_neq:Zp P .neq u x y (.int k m) (.int k n)=some (.bool (m !=n)):=by simp only[Zp,Qfa,if_true]
theorem b_lss:Zp P .lss u x y (.int k m) (.int k n)=some (.bool (decide (m<n))):=by simp only[Zp,Qfa,if_true]
theorem b_leq:Zp P .leq u x y (.int k m) (.int k n)=some (.bool (decide (m<=n))):=by simp only[Zp,Qfa,if_true]
theorem b_gtr:Zp P .gtr u x y (.int k m) (.int k n)=some (.bool (decide (m>n))):=by simp only[Zp,Qfa,if_true]
theorem b_geq:Zp P .geq u x y (.int k m) (.int k n)=some (.bool (decide (m>=n))):=by simp only[Zp,Qfa,if_true]
theorem b_sadd{a b:List UInt8}:Zp P .add u x y (.str a) (.str b)=binS .add a b:=rfl
theorem b_seql{a b:List UInt8}:Zp P .eql u x y (.str a) (.str b)=some (.bool (a==b)):=rfl
theorem b_sneq{a b:List UInt8}:Zp P .neq u x y (.str a) (.str b)=some (.bool (!(a==b))):=rfl
theorem oc_int:Z0 (.int k n)= .int k n:=rfl
theorem Zcz{b:Bool}:Z0 (.bool b)= .bool b:=rfl
theorem oc_str{s:ByteArray}:Z0 (.string s)= .str s.data.toList:=rfl
theorem Qwy:Z0 (.slice none 0 0)= .nS:=rfl
theorem Q6a:Z0 (.pointer none)= .nP:=rfl
theorem Q7j:Z0 (.map none)= .nM:=rfl
theorem Q0z:Z0 .nilFunc= .nF:=rfl
theorem Q3b:Z0 .nilIface= .nI:=rfl
theorem Ku{d:TypeDesc}{q:Nat}(h:P.underlying u=some d)(hs:sz P u=some q)(ha:Qk1 d=false)(cs:List V)(o:Nat):Qn P u cs o=cs[o]?:=by simp only[Qn,h,hs,ha,Zre,if_false]
theorem ia_of{e:TypeId}{q:Nat}(h:P.underlying u=some (.slice e))(hs:sz P e=some q)(cs:List V)(len:Nat)(full:Bool):
 Qm P u (.iS cs len full) (.int k n)=if 0<=n/\n<len/\cs.length=len*q/\0<q then some (.iptr cs (n.toNat*q)) else none:=by
 simp only[Qm,h,hs]
theorem Bx{e:TypeId}(h:P.underlying u=some (.slice e))(cs:List V)(len:Nat)(full:Bool):Y4 P g u (.iS cs len full)=some (.int .i64 len):=by simp only[Y4,h]
theorem Qeo{e:TypeId}(h:P.underlying u=some (.slice e)):Y4 P g u .nS=some (.int .i64 0):=by simp only[Y4,h]
theorem ln_str(h:P.underlying u=some .string)(s:List UInt8):Y4 P g u (.str s)=some (.int .i64 s.length):=by simp only[Y4,h]
theorem bi_len{ts:List TypeId}{d:Option Nat}{v:V}:builtinV P mt fr g d .len (u::ts).toArray [v]=(Y4 P g u v).map fun v=> .val v none:=rfl
theorem bi_max{ts:Array TypeId}{d:Option Nat}{v:V}{l:List V}:builtinV P mt fr g d .max ts (v::l)=(Qiu true v l).map fun v=> .val v none:=by cases l<;>rfl
theorem bi_min{ts:Array TypeId}{d:Option Nat}{v:V}{l:List V}:builtinV P mt fr g d .min ts (v::l)=(Qiu false v l).map fun v=> .val v none:=by cases l<;>rfl
theorem mx_nil{v:V}{b:Bool}:Qiu b v []=some v:=rfl
theorem mx_one{b:Bool}{l:List V}:Qiu b (.int k m) (.int k n::l)=Qiu b (.int k (if b then(if n>m then n else m) else(if n<m then n else m))) l:=rfl
theorem Qs1:∀(v:V),v.refs (fun _ _=>false)=false:=by intro v;refine V.rec (motive_1:=fun v=>v.refs (fun _ _=>false)=false) (motive_2:=fun l=>Qi (fun _ _=>false) l=false) ?_ ?_ ?_ ?_ ?_ ?_ ?_ ?_ ?_ ?_ ?_ ?_ ?_ ?_ ?_ ?_ ?_ ?_ ?_ ?_ ?_ ?_ ?_ ?_ v<;>intros<;>simp_all[V.refs,Qi]
end
theorem Qj8:∀(l:List V),Qi (fun _ _=>false) l=false
 |[]=>rfl
 |x::l=>by simp[Qi,Qs1 x,Qj8 l]
theorem Qqm:∀(l:List (V×V)),Qgm (fun _ _=>false) l=false
 |[]=>rfl
 |(a,b)::l=>by simp[Qgm,Qs1,Qqm l]
theorem Q2g(o:O):o.refs (fun _ _=>false)=false:=by
 cases o with
 |iter m a b c=>cases m<;>rfl
 |_=>simp[O.refs,Qj8,Qqm]
theorem Qnq:∀(f:Frame),Zb (fun _ _=>false) f=true
 |[]=>rfl
 |(a,o)::r=>by simp[Zb,Q2g,Qnq r]
theorem Qnh:∀(H:Heap),Qz (fun _ _=>false) H=true
 |[]=>rfl
 |f::r=>by simp[Qz,Qnq,Qnh r]
theorem Qsa:∀(f:Frame),Jb (fun _=>false) f=f
 |[]=>rfl
 |(a,o)::r=>by simp[Jb,Qsa r]
theorem Qm8{α:Type}(f:α->α)(h:∀x,f x=x):∀(l:List α) (i:Nat),l.modify i f=l
 |[],i=>by simp
 |x::l,0=>by simp[h]
 |x::l,i+1=>by simp[Qm8 f h l i]
theorem Ji{pol:Pol}{fn fr r:Nat}{kt:List Nat}{t:List V}{H:Heap}(h:pol.keep fn r=some (kt,[]))(hm:pol.move fn r=none:=by rfl):forget pol fn fr r t H=some (Yf kt t 0,H):=by
 have e:(fun f s:Nat=>f==fr&&([]:List Nat).contains s)=fun _ _=>false:=by funext f s;simp
 have e2:(fun s:Nat=>([]:List Nat).contains s)=fun _=>false:=by funext s;simp
 unfold forget forgetK;rw[h];simp only[e,e2];rw[Qj8,Qm8 _ Qsa,Qnh];simp only[Zre,if_false,if_true,hm]
theorem Jh{pol:Pol}{fn fr r:Nat}{kt ds:List Nat}{t:List V}{H:Heap}(hk:pol.keep fn r=some (kt,ds))(h1:Qi (fun f s=>f==fr&&ds.contains s) (Yf kt t 0)=false)(h2:Qz (fun f s=>f==fr&&ds.contains s) (H.modify fr (Jb fun s=>ds.contains s))=true)(hm:pol.move fn r=none:=by rfl):
 forget pol fn fr r t H=some (Yf kt t 0,H.modify fr (Jb fun s=>ds.contains s)):=by
 simp only[forget,forgetK,hk,h1,h2,if_true,Zre,if_false,hm]
section
variable {P : Program} {pol : Pol} {C : Call} {L : Ka -> Kw} {fn fr : Nat} {t : List V} {H : Heap}
theorem Zbd{b:Code}{t1:List V}{H1:Heap}(hn:Zx b=none)(h:forget pol fn fr (Zn b) t H=some (t1,H1)):round P pol C L fn fr b t H=[U P pol C L fn fr [.code b] .normal t1 H1]:=by simp only[round,h,hn];rw[Qu7]
def Qqk(P:Program)(F:Func)(b:Nat):Out->Option (Rt×Heap)
 |some (.normal,t,H)|some (.ret,t,H)=>(match Xn P F t H with
  |some v=>some (.ret v,Bb b v H)
  |none=>none)
 |some (.panic v,_,H)=>some (.pan v,Bb b v H)
 |_=>none
theorem Zbi{f:FuncId}{F:Func}{c:Code}{args:List V}{r:Rt×Heap}(hF:P.funcs[f]?=some F)(hc:F.body=some c)
 (h:Qqk P F H.length (Qeb (pol.settle f) (U P pol (Qp P pol) Zz f H.length [.code c] .normal (args++List.replicate (F.ntmps-args.length) .bad) (H++[[]])))=some r):Qp P pol f args H=some r:=by
 refine Zba ?_;show Qbc P pol (Qp P pol) Zz f args H=some r;unfold Qbc;rw[hF];simp only[hc,Qu7];rw[<-h];rfl
theorem Ze1{f:FuncId}{F:Func}{c:Code}{args:List V}{r:Rt×Heap}(hF:P.funcs[f]?=some F)(hc:F.body=some c)
 (h:Qqk P F H.length (U P pol (Qp P pol) Zz f H.length [.code c] .normal (args++List.replicate (F.ntmps-args.length) .bad) (H++[[]]))=some r)(hs:pol.settle f=[]:=by rfl):Qp P pol f args H=some r:=
 Zbi hF hc (by rw[hs,Qzb];exact h)
theorem Q0m{g:Get}{cs:List V}{n:Nat}{b:Bool}:frz g depth (.iS cs n b)=some (.iS cs n b):=rfl
theorem Qvl{g:Get}:frz g depth .nS=some .nS:=rfl
theorem Zd6{g:Get}{k:IntKind}{n:Int}:frz g depth (.int k n)=some (.int k n):=rfl
theorem Zbv{g:Get}{b:Bool}:frz g depth (.bool b)=some (.bool b):=rfl
theorem Zcn{g:Get}{s:List UInt8}:frz g depth (.str s)=some (.str s):=rfl
theorem Qa{f:V->Option V}{x y:V}{l m:List V}(h:f x=some y)(h2:Qt f l=some m):Qt f (x::l)=some (y::m):=by simp only[Qt,h,h2]
theorem Qna{dst:Option Nat}{f:FuncId}{args args' :List V}{v v' :V}{H' :Heap}(hp:pol.prim f=none)(hq:pol.pure fn f=true)(ha:Qt (frz (fun _ _=>none) depth) args=some args')
 (h:C f args' []=some (.ret v,H'))(hv:frz (Qd H') depth v=some v'):callOp pol C fn fr dst f args H=some (.ret v',H):=by
 simp only[callOp,hp,hq,if_true,ha,h,hv,Zrb]
end
section
variable {P : Program} {pol : Pol} {C : Call} {L : Ka -> Kw} {fn fr : Nat} {t : List V} {H : Heap} {k : List It} {r : List Oper} {d : Option Nat} {ty : TypeId} {ps : String} {af : Array Edge} {x y : Operand}
def gd(a:Array Oper)(t:List V)(j:Nat):Option V:=((a[j]?).bind (·.dst)).bind (t[·]?)
end
end Go.AM
end
