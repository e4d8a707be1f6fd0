/- This file holds in one the texts An19, An20, An21, An22; each says at its head what it proves. -/
import Derived.Test.YtpdimkonjmoadaaGreatDoorT6
set_option linter.unusedSimpArgs false
set_option linter.unusedVariables false
section
namespace Go.AM
section
variable {P : Program} {mt : Nat -> Bool} {fr : Nat}
theorem Xu{α β:Type}{f g:α->β}:∀{l:List α},(∀x∈l,f x=g x)->l.map f=l.map g
 |[],_=>rfl
 |x::l,h=>by simp only[Zp4];rw[h x (by simp),Xu (fun y hy=>h y (by simp[hy]))]
theorem Qj9{g g' :Get}{ρ:Operand->V}{o:Oper}(h:Q9 o.op=true):Zm P mt fr g ρ o=Zm P mt fr g' ρ o:=by unfold Zm;cases ho:o.op<;>rw[ho] at h<;>simp only[Q9,Zpo] at h<;>rfl
theorem Yc{g:Get}{ρ:Operand->V}{o:Oper}(h:Q9 o.op=true){st:Zg}(he:Zm P mt fr g ρ o=some st):∃v,st= .val v none:=by
 have one:∀(x:Option V),x.map (fun v=>Zg.val v none)=some st->∃v,st= .val v none:=by
  intro x hx;cases x with
  |none=>cases hx
  |some v=>cases hx;exact⟨v,rfl⟩
 unfold Zm at he;cases ho:o.op<;>rw[ho] at h he<;>simp only[Q9,Zpo] at h<;>simp only at he
 case move=>cases he;exact⟨_,rfl⟩
 case assign=>cases he;exact⟨_,rfl⟩
 case pick=>split at he<;>first|(cases he;exact⟨_,rfl⟩)|cases he
 case build=>exact one _ he
 case nilCheck=>split at he<;>first|(cases he;exact⟨_,rfl⟩)|cases he
 case binOp=>exact one _ he
 case unOp=>exact one _ he
 case makeInterface=>split at he<;>first|(cases he;exact⟨_,rfl⟩)|cases he
 case makeFunc=>cases he;exact⟨_,rfl⟩
 case fieldAddr=>(repeat' split at he)<;>first|(cases he;exact⟨_,rfl⟩)|cases he
 case field=>(repeat' split at he)<;>first|exact one _ he|cases he
 case indexAddr=>exact one _ he
 case index=>exact one _ he
 case extract=>split at he<;>first|exact one _ he|cases he
 case typeAssert=>(repeat' split at he)<;>first|(cases he;exact⟨_,rfl⟩)|cases he
 case sliceToArrayPointer=>(repeat' split at he)<;>first|(cases he;exact⟨_,rfl⟩)|cases he
theorem Bg{g:Get}{ρ ρ' :Operand->V}{o:Oper}(h:∀x∈o.op.operands,ρ x=ρ' x):Zm P mt fr g ρ o=Zm P mt fr g ρ' o:=by
 unfold Zm;cases ho:o.op<;>rw[ho] at h<;>simp only[Op.operands] at h<;>simp only
 case move x=>rw[h x (by simp)]
 case assign x=>rw[h x (by simp)]
 case pick c a b=>rw[h c (by simp),h a (by simp),h b (by simp)]
 case box t x=>rw[h x (by simp)]
 case build t ps=>
  have:(ps.toList.map fun p=>(p.1,ρ p.2))=ps.toList.map fun p=>(p.1,ρ' p.2):=
   Xu fun p hp=>by rw[h p.2 (by simp;exact⟨p.1,by simpa using hp⟩)]
  rw[this]
 case buildSlice t n ps=>
  have:(ps.toList.map fun p=>(p.1,ρ p.2))=ps.toList.map fun p=>(p.1,ρ' p.2):=
   Xu fun p hp=>by rw[h p.2 (by simp;exact⟨p.1,by simpa using hp⟩)]
  rw[this]
 case load t a=>rw[h a (by simp)]
 case store t a x=>rw[h a (by simp),h x (by simp)]
 case nilCheck x=>rw[h x (by simp)]
 case binOp op t x y _=>rw[h x (by simp),h y (by simp)]
 case unOp op t x=>rw[h x (by simp)]
 case convert s d x=>rw[h x (by simp)]
 case sliceToArrayPointer t x=>rw[h x (by simp)]
 case makeInterface t x=>rw[h x (by simp)]
 case makeFunc fn a c=>have h1:a.toList.map ρ=a.toList.map ρ' :=Xu fun x hx=>h x (by simp;exact .inl (by simpa using hx));have h2:c.toList.map ρ=c.toList.map ρ' :=Xu fun x hx=>h x (by simp;exact .inr (by simpa using hx));rw[h1,h2]
 case range t x=>rw[h x (by simp)]
 case next x b=>rw[h x (by simp)]
 case entry x=>rw[h x (by simp)]
 case mapEntry t m k=>rw[h m (by simp),h k (by simp)]
 case entryStore t m s x=>rw[h m (by simp),h s (by simp),h x (by simp)]
 case makeMap t r=>
  cases P.underlying t with
  |none=>cases r<;>rfl
  |some d=>
   cases r with
   |none=>cases d<;>rfl
   |some x=>cases d<;>first|rfl|(simp only;rw[h x (by simp)])
 case makeSlice t l c=>rw[h l (by simp),h c (by simp)]
 case slice t x lo hi mx=>
  have h1:lo.map ρ=lo.map ρ' :=by cases lo with|none=>rfl|some y=>simp only[Zpl];rw[h y (by simp)]
  have h2:hi.map ρ=hi.map ρ' :=by cases hi with|none=>rfl|some y=>simp only[Zpl];rw[h y (by simp)]
  have h3:mx.map ρ=mx.map ρ' :=by cases mx with|none=>rfl|some y=>simp only[Zpl];rw[h y (by simp)]
  rw[h x (by simp),h1,h2,h3]
 case fieldAddr t x i=>rw[h x (by simp)]
 case field t x i=>rw[h x (by simp)]
 case indexAddr t x i=>rw[h x (by simp),h i (by simp)]
 case index t x i=>rw[h x (by simp),h i (by simp)]
 case lookup t m k ok=>rw[h m (by simp),h k (by simp)]
 case mapUpdate t m k x=>rw[h m (by simp),h k (by simp),h x (by simp)]
 case insert t m k x=>rw[h m (by simp),h k (by simp),h x (by simp)]
 case extract t i=>rw[h t (by simp)]
 case typeAssert x a b ok=>rw[h x (by simp)]
 case panic x=>rw[h x (by simp)]
 case call c=>
  have h1:c.args.toList.map ρ=c.args.toList.map ρ' :=Xu fun x hx=>h x (by simp only[Call.operands];cases c.callee<;>simp<;>(try right)<;>simpa using hx);cases hc:c.callee with
  |value f=>simp only[h1];rw[h f (by simp[Call.operands,hc])]
  |invoke r m=>rfl
  |builtin b=>simp only[h1]
theorem Q27{ρ:Operand->V}{o:Oper}{x:Operand}{f s:Nat}(hx:x∈o.op.operands)(h:(ρ x).id?=some (f,s)):(f,s)∈Yp fr ρ o:=by simp only[Yp,Zp8,List.mem_filterMap];exact .inr ⟨x,by simpa using hx,h⟩
theorem Qoh{ρ:Operand->V}{o:Oper}{d:Nat}(h:o.dst=some d):(fr,d)∈Yp fr ρ o:=by simp[Yp,h]
theorem Bq{g g' :Get}{esz:Nat}{x:V}(h:∀f s,x.id?=some (f,s)->g f s=g' f s):Qj g esz x=Qj g' esz x:=by cases x<;>simp only[Qj];rw[h _ _ rfl]
theorem Y2{g g' :Get}{dst:Option Nat}{o:O}{v:Nat->V}(h:∀d,dst=some d->g fr d=g' fr d):new g fr dst o v=new g' fr dst o v:=by
 cases dst with
 |none=>rfl
 |some d=>simp only[new];rw[h d rfl]
theorem Qd7{g g' :Get}{dst:Option Nat}{cs chk:List V}{n esz:Nat}(h:∀d,dst=some d->g fr d=g' fr d):grown mt g fr dst cs chk n esz=grown mt g' fr dst cs chk n esz:=by
 cases dst with
 |none=>rfl
 |some d=>simp only[grown];rw[Y2 h,Y2 h]
theorem Qsr{g g' :Get}{dst:Option Nat}{t t2:TypeId}{s x:V}(hd:∀d,dst=some d->g fr d=g' fr d)(hs:∀f i,s.id?=some (f,i)->g f i=g' f i)(hx:∀f i,x.id?=some (f,i)->g f i=g' f i):
 Qp P mt fr g dst t t2 s x=Qp P mt fr g' dst t t2 s x:=by
 have h1:∀n b z,Jp P g t2 n b z x=Jp P g' t2 n b z x:=by
  intro n b z;unfold Jp;split
  . rfl
  . rfl
  . exact Bq hx
  . rfl
 have h2:∀n b new m,appendTo mt fr g dst n b s new m=appendTo mt fr g' dst n b s new m:=by
  intro n b new m;unfold appendTo;cases s<;>try rfl
  case nS=>simp only;rw[Qd7 hd]
  case iS cs len full=>
   cases full
   . rfl
   . simp only;rw[Qd7 hd]
  case gS=>simp only;rw[hs _ _ rfl]
  case mS=>
   simp only;rw[hs _ _ rfl];split
   . split
     . split
       . split
         . rfl
         . rw[Qd7 hd]
       . rfl
     . rfl
   . rfl
 unfold Qp;simp only[h1,h2]
theorem Qq8{g g' :Get}{ρ:Operand->V}{o:Oper}(hfar:Yy o.op=false)(h:∀f s,(f,s)∈Yp fr ρ o->g f s=g' f s):Zm P mt fr g ρ o=Zm P mt fr g' ρ o:=by
 by_cases hq:Q9 o.op=true
 . exact Qj9 hq
 have own:∀d,o.dst=some d->g fr d=g' fr d:=fun d hd=>h _ _ (Qoh hd);have opd:∀x,x∈o.op.operands->∀f s,(ρ x).id?=some (f,s)->g f s=g' f s:=fun x hx f s hi=>h f s (Q27 hx hi);unfold Zm;cases ho:o.op<;>rw[ho] at hq opd hfar<;>simp only[Op.operands] at opd<;>simp only[Q9] at hq<;>first|exact absurd rfl hq|skip
 all_goals try simp only
 case alloc t=>cases zeroCells P t<;>simp only[Option.bind_none,Zqc];exact Y2 own
 case box t x=>
  cases(ρ x).cells<;>simp only[Option.bind_none,Zqc];split
  . split
    . exact Y2 own
    . rfl
  . rfl
 case buildSlice t n ps=>
  split
  . split
    . split
      . split
        . split
          . rename_i d hd;split
            . rw[hd];exact Y2 (fun d' hd' =>own d' (hd.trans hd'))
            . rfl
          . rfl
        . rfl
      . rfl
    . rfl
  . rfl
 case load t a=>
  have:=opd a (by simp);cases hx:ρ a<;>try rfl
  simp only;rw[this _ _ (by rw[hx];rfl)]
 case store t a x=>
  have:=opd a (by simp);cases hx:ρ a with
  |ptr f s q=>
   have e:=this f s (by rw[hx];rfl);cases(ρ x).cells<;>cases sz P t<;>first|rfl|(simp only;rw[e])
  |_=>first|rfl|(cases(ρ x).cells<;>cases sz P t<;>rfl)
 case convert s d x=>
  have:=opd x (by simp);split
  . exact Y2 own
  unfold convertV;split
  . rfl
  . rfl
  . rfl
  . simp only[Bq this]
  . rename_i e0 e f s' n m hu1 hu2 hx;rw[this f s' (by rw[hx];rfl)]
  . rfl
 case entry x=>cases hfar
 case next x b=>
  have:=opd x (by simp);congr 1;unfold nextS;split
  . rename_i f s hx;rw[this f s (by rw[hx];rfl)]
  . rfl
 case range t x=>
  have:=opd x (by simp);unfold rangeV;split
  . exact Y2 own
  . exact Y2 own
  . rename_i f s hu hx;rw[this f s (by rw[hx];rfl)];split
    . exact Y2 own
    . rfl
  . rfl
 case mapEntry t m k=>
  have:=opd m (by simp);unfold mapEntryV;cases hx:ρ m<;>try rfl
  simp only;rw[this _ _ (by rw[hx];rfl)]
 case entryStore t m s x=>
  have:=opd m (by simp);unfold entryStoreV;split
  . rename_i f sl k b hx hs;rw[this f sl (by rw[hx];rfl)]
  . rfl
 case makeMap t r=>
  split
  . exact Y2 own
  . split
    . exact Y2 own
    . rfl
  . rfl
 case makeSlice t l c=>
  split
  . split
    . split
      . exact Y2 own
      . rfl
    . rfl
  . rfl
 case slice t x lo hi mx=>
  have:=opd x (by simp);congr 1;unfold Z9;cases hx:ρ x<;>try rfl
  simp only;rw[this _ _ (by rw[hx];rfl)]
 case lookup t m k ok=>
  have:=opd m (by simp);congr 1;unfold Qcs;cases hx:ρ m<;>try rfl
  simp only;rw[this _ _ (by rw[hx];rfl)]
 case mapUpdate t m k x=>
  have:=opd m (by simp);unfold updateV;cases hx:ρ m<;>try rfl
  simp only;rw[this _ _ (by rw[hx];rfl)]
 case insert t m k x=>
  have:=opd m (by simp);unfold updateV;cases hx:ρ m<;>try rfl
  simp only;rw[this _ _ (by rw[hx];rfl)]
 case call c=>
  split
  . rename_i b hb;have arg:∀x∈c.args.toList,∀f s,(ρ x).id?=some (f,s)->g f s=g' f s:=fun x hx=>opd x (by simp only[Call.operands,hb];simpa using hx);have arg' :∀v∈c.args.toList.map ρ,∀f s,v.id?=some (f,s)->g f s=g' f s:=by
     intro v hv;obtain⟨x,hx,rfl⟩:=Zp3.1 hv;exact arg x hx
    generalize c.args.toList.map ρ=args at arg';unfold builtinV;split
    . split
      . exact Qsr own (arg' _ (by simp)) (arg' _ (by simp))
      . rfl
    . split
      . congr 1;rename_i x _ t _;have:=arg' x (by simp);unfold B0;cases x with
        |map f s=>
         have e:=this f s rfl;cases P.underlying t with
         |none=>rfl
         |some d=>cases d<;>first|rfl|(simp only;rw[e])
        |_=>cases P.underlying t with
         |none=>rfl
         |some d=>cases d<;>rfl
      . rfl
    . rfl
    . split
      . rename_i d s _ t _;have hd:=arg' d (by simp);have hs:=arg' s (by simp);have e1:∀n,Ba g n s=Ba g' n s:=by
         intro n;cases s<;>first|rfl|exact Bq hs
        have e2:∀n cs m,Qau g n d cs m=Qau g' n d cs m:=by
         intro n cs m;cases d<;>try rfl
         simp only[Qau];rw[hd _ _ rfl]
        unfold Qa3;simp only[e1,e2]
      . rfl
    . split
      . rename_i m k _ t _;have:=arg' m (by simp);unfold Qbx;cases m<;>try rfl
        simp only;rw[this _ _ rfl]
      . rfl
    . split
      . rename_i d _ t _;have:=arg' d (by simp);unfold clearV;cases d<;>try rfl
        simp only;rw[this _ _ rfl]
      . rfl
    . rfl
    . rfl
    . rfl
  . rfl
  . rfl
def NC(x:Option Zg):Prop:=∀f args,x≠some (.call f args)
theorem NC.no:NC none:=fun _ _ h=>by cases h
theorem NC.val(v:V)(w:Option (Nat×Nat×O)):NC (some (.val v w)):=fun _ _ h=>by cases h
theorem NC.panic(v:V):NC (some (.panic v)):=fun _ _ h=>by cases h
theorem NC.map{α:Type}(x:Option α)(k:α->V):NC (x.map fun v=> .val (k v) none):=by cases x<;>first|exact NC.no|exact NC.val _ _
theorem NC.new(g:Get)(dst:Option Nat)(o:O)(v:Nat->V):NC (new g fr dst o v):=by unfold AM.new;(repeat' split)<;>first|exact NC.no|exact NC.val _ _
theorem NC.grown(g:Get)(dst:Option Nat)(cs chk:List V)(n esz:Nat):NC (grown mt g fr dst cs chk n esz):=by unfold AM.grown;(repeat' split)<;>first|exact NC.no|exact NC.new _ _ _ _
theorem NC.appendTo(g:Get)(dst:Option Nat)(n b:Nat)(s:V)(nw:List V)(m:Nat):NC (appendTo mt fr g dst n b s nw m):=by unfold AM.appendTo;(repeat' split)<;>first|exact NC.no|exact NC.val _ _|exact NC.grown _ _ _ _ _ _
theorem NC.bind{α:Type}(x:Option α)(k:α->Option Zg)(h:∀a,NC (k a)):NC (x.bind k):=by cases x<;>first|exact NC.no|exact h _
theorem NC.convertV(g:Get)(s d:TypeId)(x:V):NC (convertV P g s d x):=by unfold AM.convertV;(repeat' split)<;>first|exact NC.no|exact NC.val _ _|exact NC.map _ _
theorem NC.updateV(g:Get)(t:TypeId)(m k x:V):NC (updateV P g t m k x):=by unfold AM.updateV;(repeat' split)<;>first|exact NC.no|exact NC.val _ _
theorem NC.builtinV(g:Get)(dst:Option Nat)(b:Builtin)(ts:Array TypeId)(args:List V):NC (builtinV P mt fr g dst b ts args):=by
 unfold AM.builtinV
 (repeat' split)<;>first|exact NC.no|exact NC.map _ _|(unfold Qp;(repeat' split)<;>first|exact NC.no|exact NC.val _ _|exact NC.appendTo _ _ _ _ _ _ _)|
   (unfold Qa3 Qau;(repeat' split)<;>first|exact NC.no|exact NC.val _ _)|(unfold Qbx;(repeat' split)<;>first|exact NC.no|exact NC.val _ _)|(unfold clearV;(repeat' split)<;>first|exact NC.no|exact NC.val _ _)
theorem NC.rangeV(g:Get)(dst:Option Nat)(t:TypeId)(x:V):NC (rangeV P g fr dst t x):=by unfold AM.rangeV;(repeat' split)<;>first|exact NC.no|exact NC.new _ _ _ _
theorem NC.nextS(g:Get)(x:V):NC (nextS g x):=by unfold AM.nextS;(repeat' split)<;>first|exact NC.no|exact NC.val _ _
theorem NC.mapEntryV(g:Get)(t:TypeId)(m k:V):NC (mapEntryV P g t m k):=by unfold AM.mapEntryV;(repeat' split)<;>first|exact NC.no|exact NC.val _ _
theorem NC.mapB{α:Type}(x:Option α)(k:α->Option (Nat×Nat×O)):NC (x.map fun v=> .val .bad (k v)):=by cases x<;>first|exact NC.no|exact NC.val _ _
theorem NC.entryStoreV(g:Get)(m s x:V):NC (entryStoreV g m s x):=by unfold AM.entryStoreV;(repeat' split)<;>first|exact NC.no|exact NC.mapB _ _
theorem Qum{g g' :Get}{ρ:Operand->V}{o:Oper}{f:FuncId}{args:List V}(h:Zm P mt fr g ρ o=some (.call f args)):Zm P mt fr g' ρ o=some (.call f args):=by
 by_cases hc:∃c,o.op= .call c
 . obtain⟨c,hc⟩:=hc;unfold Zm at h⊢;rw[hc] at h⊢;simp only at h⊢;split at h
   . exact absurd h (NC.builtinV _ _ _ _ _ _ _)
   . exact h
   . cases h
 . have nc:NC (Zm P mt fr g ρ o):=?_
   . exact absurd h (nc _ _)
   unfold Zm;cases ho:o.op
   case call c=>exact absurd ⟨c,ho⟩ hc
   all_goals simp only
   all_goals first
    |exact NC.no|exact NC.val _ _|exact NC.map _ _|exact NC.convertV _ _ _ _|exact NC.updateV _ _ _ _ _
    |exact NC.bind _ _ fun _=>NC.new _ _ _ _|exact NC.bind _ _ fun _=>(by(repeat' split)<;>first|exact NC.no|exact NC.val _ _|exact NC.new _ _ _ _)|exact NC.rangeV _ _ _ _|exact NC.mapEntryV _ _ _ _|exact NC.entryStoreV _ _ _ _
    |((repeat' split)<;>first|exact NC.no|exact NC.val _ _|exact NC.panic _|exact NC.map _ _|exact NC.new _ _ _ _|exact NC.convertV _ _ _ _|exact NC.nextS _ _)
end
def Kn(ops:Array Oper)(o:Oper):List Nat:=
 o.dst.toList++(o.op.operands.toList.filterMap fun| .tmp i=>some i|_=>none)++(match o.guard with|some (j,_)=>((ops[j]?).bind (·.dst)).toList|none=>[])
def Ju(ops:Array Oper)(a b:Oper):Bool:=
 (match a.dst with|some d=> !(Kn ops b).contains d|none=>true)&&(match b.dst with|some d=> !(Kn ops a).contains d|none=>true)
section
variable {P : Program} {pol : Pol} {C : Call} {fn fr : Nat} {ops : Array Oper}
theorem Qhm(t:List V)(dst:Option Nat)(v:V)(i:Nat)(h:dst≠some i):(Qs t dst v)[i]?=t[i]?:=by
 cases dst with
 |none=>rfl
 |some d=>
  simp only[Qs];rw[List.getElem?_set_ne];exact fun e=>h (by rw[e])
theorem Qut(t:List V)(dst:Option Nat)(v:V)(x:Operand)(h:∀i,x= .tmp i->dst≠some i):rho (Qs t dst v) x=rho t x:=by
 cases x with
 |tmp i=>simp only[rho,List.getD,Qhm t dst v i (h i rfl)]
 |_=>rfl
theorem Qen{a b:Oper}(h:Ju ops a b=true){v:V}(t:List V):∀x∈b.op.operands,rho (Qs t a.dst v) x=rho t x:=by
 intro x hx;refine Qut t a.dst v x ?_;intro i e hd;simp only[Ju,hd,Zqf,Zqg] at h;have:i∈Kn ops b:=by subst e;simp only[Kn,Zp8,List.mem_filterMap];exact .inl (.inr ⟨.tmp i,by simpa using hx,rfl⟩)
 have h1:=h.1;simp at h1;exact h1 this
theorem Qff{a b:Oper}(h:Ju ops a b=true){v:V}(t:List V):Zw ops (Qs t a.dst v) b=Zw ops t b:=by
 unfold Zw;cases hg:b.guard with
 |none=>rfl
 |some jw=>
  obtain⟨j,want⟩:=jw;simp only;cases hd:(ops[j]?).bind (·.dst) with
  |none=>rfl
  |some d=>
   simp only[Zqc];rw[Qhm];intro e;simp only[Ju,e,Zqf,Zqg] at h;have:d∈Kn ops b:=by simp only[Kn,Zp8,hg,hd];exact .inr (by simp)
   have h1:=h.1;simp at h1;exact h1 this
theorem Qju{a b:Oper}(h:Ju ops a b=true):Ju ops b a=true:=by simp only[Ju,Zqf] at h⊢;exact⟨h.2,h.1⟩
theorem Zh{a b:Oper}(h:Ju ops a b=true)(t:List V)(v u:V):Qs (Qs t a.dst v) b.dst u=Qs (Qs t b.dst u) a.dst v:=by
 cases ha:a.dst with
 |none=>rfl
 |some d=>
  cases hb:b.dst with
  |none=>rfl
  |some e=>
   simp only[Qs];rw[List.set_comm];intro he;subst he;simp only[Ju,ha,hb,Zqf,Zqg] at h;have:d∈Kn ops b:=by simp[Kn,hb]
   have h1:=h.1;simp at h1;exact h1 this
theorem Qmp(s s' :Nat)(o o' :O)(h:s≠s'):∀fr:Frame,J3 (J3 fr s o) s' o' =J3 (J3 fr s' o') s o
 |[]=>by
  simp only[J3];by_cases h1:s' <s
  . have h2:¬s<s' :=by omega
    simp only[h,h.symm,h1,h2,if_true,if_false]
  . have h2:s<s' :=by omega
    simp only[h,h.symm,h1,h2,if_true,if_false]
 |(k,p)::r=>by
  simp only[J3];by_cases e1:s=k
  . subst e1;simp only[if_true];by_cases e2:s' <s
    . have:¬s<s' :=by omega
      simp only[J3,h,h.symm,e2,this,if_true,if_false]
    . simp only[J3,h,h.symm,e2,if_true,if_false]
  . by_cases e2:s' =k
    . subst e2;simp only[if_true,e1,if_false];by_cases e3:s<s'
      . have:¬s' <s:=by omega
        simp only[J3,h,h.symm,e3,this,if_true,if_false]
      . simp only[J3,h,e3,if_true,if_false]
    . simp only[e1,e2,if_false];by_cases e3:s<k
      . by_cases e4:s' <k
        . simp only[e3,e4,if_true,J3,h,h.symm,if_false];by_cases e5:s' <s
          . have:¬s<s' :=by omega
            simp only[e5,this,e3,e1,if_true,if_false]
          . have:s<s' :=by omega
            simp only[e5,this,e4,e2,if_true,if_false]
        . have:¬s' <s:=by omega
          simp only[e3,e4,if_true,if_false,J3,h.symm,e1,e2,this]
      . by_cases e4:s' <k
        . have:¬s<s' :=by omega
          simp only[e3,e4,if_true,if_false,J3,h,e1,e2,this]
        . simp only[e3,e4,if_false,J3,e1,e2,Qmp s s' o o' h r]
theorem K7(H:Heap){f s f' s' :Nat}(o o' :O)(h:¬(f=f' /\s=s')):hset (hset H f s o) f' s' o' =hset (hset H f' s' o') f s o:=by
 unfold hset;apply Zqz;intro i;simp only[Zpj];by_cases e1:f=i
 . by_cases e2:f' =i
   . have hs:s≠s' :=fun e=>h ⟨e1.trans e2.symm,e⟩;simp only[e1,e2,if_true];cases H[i]? with
     |none=>rfl
     |some x=>simp[Qmp s s' o o' hs x]
   . simp only[e1,e2,if_true,if_false];cases H[i]?<;>rfl
 . by_cases e2:f' =i
   . simp only[e1,e2,if_true,if_false];cases H[i]?<;>rfl
   . simp only[e1,e2,if_false]
theorem Bp(H:Heap){f s f' s' :Nat}(o:O)(h:¬(f' =f/\s' =s)):Qd (hset H f s o) f' s' =Qd H f' s' :=by
 unfold Qd hset;rw[Zpj];by_cases e:f=f'
 . subst e;cases H[f]? with
   |none=>rfl
   |some x=>simp[Qas];exact fun h' =>absurd ⟨rfl,h'⟩ h
 . simp only[e,if_false];cases H[f']?<;>rfl
def Qam:Option (Nat×Nat×O)->List (Nat×Nat)
 |none=>[]
 |some (f,s,_)=>[(f,s)]
theorem Qqs(t:List V)(H:Heap)(o:Oper){t1:List V}{H1:Heap}(h:Q1 P pol C fn fr t H o=some (.normal,t1,H1)):
 (Z0 P pol fn fr t H o= .quiet/\∃v,t1=Qs t o.dst v/\H1=H/\∀(t' :List V) (H' :Heap),(∀x∈o.op.operands,rho t' x=rho t x)->Q1 P pol C fn fr t' H' o=some (.normal,Qs t' o.dst v,H')/\Z0 P pol fn fr t' H' o= .quiet)\/
 (∃w v,Z0 P pol fn fr t H o= .ids (Yp fr (rho t) o) (Qam w)/\t1=Qs t o.dst v/\H1=wr H w/\
   ∀(t' :List V) (H' :Heap),(∀x∈o.op.operands,rho t' x=rho t x)->(∀f s,(f,s)∈Yp fr (rho t) o->Qd H' f s=Qd H f s)->
    Q1 P pol C fn fr t' H' o=some (.normal,Qs t' o.dst v,wr H' w)/\Z0 P pol fn fr t' H' o= .ids (Yp fr (rho t) o) (Qam w))\/
 (Z0 P pol fn fr t H o= .all/\∃v,t1=Qs t o.dst v/\
   ∀(t' :List V),(∀x∈o.op.operands,rho t' x=rho t x)->Q1 P pol C fn fr t' H o=some (.normal,Qs t' o.dst v,H1)/\Z0 P pol fn fr t' H o= .all)\/
 (Z0 P pol fn fr t H o= .peek/\∃v,t1=Qs t o.dst v/\H1=H/\
   ∀(t' :List V),(∀x∈o.op.operands,rho t' x=rho t x)->Q1 P pol C fn fr t' H o=some (.normal,Qs t' o.dst v,H)/\Z0 P pol fn fr t' H o= .peek)\/
 (∃ks x,Z0 P pol fn fr t H o= .side ks x/\∃v,t1=Qs t o.dst v/\(∀y∈ks,Qd H1 y.1 y.2=Qd H y.1 y.2)/\
   (∀(t' :List V),(∀x∈o.op.operands,rho t' x=rho t x)->Q1 P pol C fn fr t' H o=some (.normal,Qs t' o.dst v,H1)/\Z0 P pol fn fr t' H o= .side ks x)/\
   ∀d,x=some (fr,d)->Qd H1 fr d=Qd H fr d/\∀cs,Qd H fr d=none->pol.news fn d=some cs->∀(t' :List V),(∀x∈o.op.operands,rho t' x=rho t x)->
    Q1 P pol C fn fr t' (hset H fr d (.cells cs)) o=some (.normal,Qs t' o.dst v,hset H1 fr d (.cells cs))/\Z0 P pol fn fr t' (hset H fr d (.cells cs)) o= .side ks x)\/
 (∃d cs v,Z0 P pol fn fr t H o= .fresh (fr,d)/\pol.news fn d=some cs/\Qd H fr d=none/\t1=Qs t o.dst v/\H1=wr H (some (fr,d,.cells cs))/\
   ∀(t' :List V) (H' :Heap),(∀x∈o.op.operands,rho t' x=rho t x)->Qd H' fr d=none->
    Q1 P pol C fn fr t' H' o=some (.normal,Qs t' o.dst v,wr H' (some (fr,d,.cells cs)))/\Z0 P pol fn fr t' H' o= .fresh (fr,d)):=by
 have hids:∀t' :List V,(∀x∈o.op.operands,rho t' x=rho t x)->Yp fr (rho t') o=Yp fr (rho t) o:=by
  intro t' ht;simp only[Yp];congr 1;have:∀l:List Operand,(∀x∈l,rho t' x=rho t x)->l.filterMap (fun x=>(rho t' x).id?)=l.filterMap fun x=>(rho t x).id?:=by
   intro l
   induction l with
   |nil=>intro _;rfl
   |cons x l ih=>intro hl;simp only[List.filterMap_cons];rw[hl x (by simp),ih (fun y hy=>hl y (by simp[hy]))]
  exact this _ (fun x hx=>ht x (by simpa using hx))
 unfold Q1 at h;by_cases hq:Q9 o.op=true
 . left;split at h
   . cases h
   . rename_i v w hev;obtain⟨v',hv'⟩:=Yc hq hev;cases hv';cases h;refine⟨by simp[Z0,hq],v,rfl,rfl,fun t' H' ht=>⟨?_,by simp[Z0,hq]⟩⟩;have e:Zm P (pol.mt fn) fr (Qd H') (rho t') o=some (.val v none):=by
      rw[Bg ht,Qj9 (g' :=Qd H) hq,hev]
     simp only[Q1,e,wr]
   . rename_i v hev;obtain⟨v',hv'⟩:=Yc hq hev;cases hv'
   . rename_i f args hev;obtain⟨v',hv'⟩:=Yc hq hev;cases hv'
   . rename_i f s args hev;obtain⟨v',hv'⟩:=Yc hq hev;cases hv'
 . split at h
   . cases h
   . rename_i v w hev;by_cases hfar:Yy o.op=true
     . right;right;left;cases h;refine⟨by simp[Z0,hq,hfar],v,rfl,fun t' ht=>⟨?_,by simp[Z0,hq,hfar]⟩⟩;have e:Zm P (pol.mt fn) fr (Qd H) (rho t') o=some (.val v w):=by rw[Bg ht,hev]
       simp only[Q1,e]
     have hfar' :Yy o.op=false:=by simpa using hfar
     by_cases hfr:∃d cs,w=some (fr,d,.cells cs)/\pol.news fn d=some cs/\Qd H fr d=none/\(Yp fr (rho t) o).contains (fr,d)=true/\∀y∈Yp fr (rho t) o,y=(fr,d)
     . obtain⟨d,cs,rfl,h1,h2,h4,h3⟩:=hfr;right;right;right;right;right;cases h;have hev' :∀(t' :List V) (H' :Heap),(∀x∈o.op.operands,rho t' x=rho t x)->Qd H' fr d=none->Zm P (pol.mt fn) fr (Qd H') (rho t') o=some (.val v (some (fr,d,.cells cs))):=fun t' H' ht hg=>by
        rw[Bg ht,Qq8 (g' :=Qd H) hfar' (fun f s hm=>by rw[show f=fr from congrArg Prod.fst (h3 _ hm),show s=d from congrArg Prod.snd (h3 _ hm),hg,h2]),hev]
       have hfp:∀(t' :List V) (H' :Heap),(∀x∈o.op.operands,rho t' x=rho t x)->Qd H' fr d=none->Z0 P pol fn fr t' H' o= .fresh (fr,d):=fun t' H' ht hg=>by simp only[Z0,hq,hfar',Zpo,if_false,hev' t' H' ht hg,fpW,h1,hids t' ht];rw[if_pos];simp only[Zqf,Zqt,decide_eq_true_eq];exact⟨⟨⟨⟨(Qcc _ _).2 hg,h4⟩,h3⟩,Nat.beq_refl _⟩,(O.eqb_iff _ _).2 rfl⟩
       exact⟨d,cs,v,hfp t H (fun _ _=>rfl) h2,h1,h2,rfl,rfl,fun t' H' ht hg=>⟨by simp only[Q1,hev' t' H' ht hg],hfp t' H' ht hg⟩⟩
     by_cases hfs:Z0 P pol fn fr t H o= .ids (Yp fr (rho t) o) (Qam w)
     case neg=>
      exfalso;apply hfs;simp only[Z0,hq,hfar',Zpo,if_false,hev];cases w with
      |none=>rfl
      |some x=>
       obtain⟨f,s,q⟩:=x;simp only[Qam,fpW];split
       . rfl
       . rename_i cs hn;rw[if_neg];intro hc;simp only[Zqf,Zqt,decide_eq_true_eq] at hc;obtain⟨⟨⟨⟨c3,c5⟩,c4⟩,c2⟩,c1⟩:=hc;have c1:=(O.eqb_iff _ _).1 c1;have c2:=Zsg c2;subst c1 c2;exact hfr ⟨s,cs,rfl,hn,(Qcc _ _).1 c3,c5,c4⟩
     right;left;cases h;have hfp:∀(t' :List V) (H' :Heap),Zm P (pol.mt fn) fr (Qd H') (rho t') o=some (.val v w)->Yp fr (rho t') o=Yp fr (rho t) o->(∀f s,(f,s)∈Yp fr (rho t) o->Qd H' f s=Qd H f s)->Z0 P pol fn fr t' H' o= .ids (Yp fr (rho t) o) (Qam w):=by
      intro t' H' e hi hg;rw[<-hfs];simp only[Z0,hq,hfar',Zpo,if_false,e,hev];cases w with
      |none=>simp only[hi]
      |some x=>obtain⟨f,s,q⟩:=x;simp only[hi,Q5j pol fn fr hg]
     refine⟨w,v,hfs,rfl,rfl,fun t' H' ht hg=>?_⟩;have e:Zm P (pol.mt fn) fr (Qd H') (rho t') o=some (.val v w):=by rw[Bg ht,Qq8 (g' :=Qd H) hfar' hg,hev]
     exact⟨by simp only[Q1,e],hfp t' H' e (hids t' ht) hg⟩
   . cases h
   . rename_i f args hev;have hfar' :Yy o.op=false:=by
      cases ho:o.op<;>first|rfl|skip
      simp only[Zm,ho] at hev;cases hx:Qbl (Qd H) (rho t _) with
      |none=>rw[hx] at hev;cases hev
      |some y=>rw[hx] at hev;cases hev
     have hcall:∀(t' :List V) (H' :Heap),(∀x∈o.op.operands,rho t' x=rho t x)->Zm P (pol.mt fn) fr (Qd H') (rho t') o=some (.call f args):=by intro t' H' ht;rw[Bg ht];exact Qum hev
     by_cases hp:((pol.prim f).isNone&&pol.pure fn f)=true
     . left;have hp' :=hp;simp only[Zqf,Zrc] at hp';have pureCall:∀(H' :Heap),callOp pol C fn fr o.dst f args H' =(callOp pol C fn fr o.dst f args H).map fun x=>(x.1,H'):=by
        intro H';simp only[callOp,hp'.1,hp'.2,if_true];split
        . split
          . rename_i v1 H2 _;cases frz (Qd H2) depth v1<;>rfl
          . rename_i v1 H2 _;cases frz (Qd H2) depth v1<;>rfl
          . rfl
        . rfl
       split at h
       . rename_i v H2 hc;cases h;have hH:H1=H:=by
          have:=pureCall H;rw[hc] at this;simp at this;exact this
         subst hH;refine⟨by simp only[Z0,hq,hfar',Zpo,if_false,hev,hp,if_true],v,rfl,rfl,fun t' H' ht=>⟨?_,?_⟩⟩
         . have:=pureCall H';rw[hc] at this;simp only[Q1,hcall t' H' ht,this,Zpl]
         . simp only[Z0,hq,hfar',Zpo,if_false,hcall t' H' ht,hp,if_true]
       . cases h
       . cases h
     . by_cases hl:((pol.prim f).isNone&&pol.lift fn f)=true
       . cases hd:o.dst with
         |none=>
          right;right;left;split at h
          . rename_i v H2 hc;cases h;refine⟨by simp only[Z0,hq,hfar',Zpo,if_false,hev,hp,hl,if_true,hd],v,by rw[hd],fun t' ht=>⟨?_,?_⟩⟩
            . rw[hd] at hc;simp only[Q1,hcall t' H ht,hc,hd]
            . simp only[Z0,hq,hfar',Zpo,if_false,hcall t' H ht,hp,hl,if_true,hd]
          . cases h
          . cases h
         |some d=>
          right;left;have hl' :=hl;simp only[Zqf,Zrc] at hl';have hpure:pol.pure fn f=false:=by
           cases hx:pol.pure fn f with
           |false=>rfl
           |true=>exact absurd (by simp[hl'.1,hx]) hp
          have liftCall:∀(H' :Heap),(Qd H' fr d=Qd H fr d)->callOp pol C fn fr (some d) f args H' =(callOp pol C fn fr (some d) f args H).bind fun x=>match x with
           |(.ret v,_)=>(match callOp pol C fn fr (some d) f args H with
            |some _=>(match Qx (frz (fun _ _=>none) depth) args with
             |some args=>(match C f args [] with
              |some (.ret v,H2)=>(Qdj H2 fr (some d) H v).map fun x=>(.ret x.1,wr H' (some (fr,x.2.1,x.2.2)))
              |_=>none)
             |none=>none)
            |none=>none)
           |_=>none:=by
           intro H' hg;simp only[callOp,hl'.1,hl'.2,hpure,Zpo,if_false,if_true];cases Qx (frz (fun _ _=>none) depth) args with
           |none=>rfl
           |some ys=>
            simp only;cases C f ys [] with
            |none=>rfl
            |some q=>
             obtain⟨q,H2⟩:=q;cases q with
             |pan v=>rfl
             |ret v=>
              simp only;have:Qdj H2 fr (some d) H' v=Qdj H2 fr (some d) H v:=by unfold Qdj;cases v<;>simp only[hg]
              rw[this];cases Qdj H2 fr (some d) H v<;>rfl
          have hshape:∀v H2,callOp pol C fn fr (some d) f args H=some (.ret v,H2)->∃o',H2=wr H (some (fr,d,o'))/\∀H',Qd H' fr d=Qd H fr d->callOp pol C fn fr (some d) f args H' =some (.ret v,wr H' (some (fr,d,o'))):=by
           intro v H2 hc;have hc0:=hc;simp only[callOp,hl'.1,hl'.2,hpure,Zpo,if_false,if_true] at hc;split at hc
           case h_2=>cases hc
           rename_i ys hys;split at hc
           case h_2=>cases hc
           rename_i v1 H1' hC;cases hL:Qdj H1' fr (some d) H v1 with
           |none=>rw[hL] at hc;cases hc
           |some x=>
            rw[hL] at hc;cases hc;have hx:x.2.1=d:=by
             unfold Qdj at hL;split at hL
             . rename_i hdd;split at hL
               . rename_i es bs clk _ _;cases hz:frzM (frz (Qd H1') depth) es with
                 |none=>rw[hz] at hL;cases hL
                 |some es' =>rw[hz] at hL;cases hL;cases hdd;rfl
               . cases hL
             . rename_i hdd;split at hL
               . split at hL
                 . cases hL;cases hdd;rfl
                 . cases hL
               . cases hL
             . rename_i hdd;split at hL
               . split at hL
                 . cases hL;cases hdd;rfl
                 . cases hL
               . cases hL
             . rename_i hdd;split at hL
               . cases hL;cases hdd;rfl
               . cases hL
             . cases hL
            rw[hx];refine⟨x.2.2,rfl,fun H' hg=>?_⟩;rw[liftCall H' hg,hc0];simp only[Zqc,hys,hC,hL,Zpl,hx]
          split at h
          . rename_i v H2 hc;rw[hd] at hc;cases h;obtain⟨o',rfl,hall⟩:=hshape v _ hc;have hfp:∀(t' :List V) (H' :Heap),(∀x∈o.op.operands,rho t' x=rho t x)->Z0 P pol fn fr t' H' o= .ids (Yp fr (rho t) o) (Qam (some (fr,d,o'))):=by
             intro t' H' ht;simp only[Z0,hq,hfar',Zpo,if_false,hcall t' H' ht,hp,hl,if_true,hd,Qam,hids t' ht]
            refine⟨some (fr,d,o'),v,hfp t H (fun _ _=>rfl),by rw[hd],rfl,fun t' H' ht hg=>⟨?_,hfp t' H' ht⟩⟩;have hgd:=hg fr d (Qoh hd);simp only[Q1,hcall t' H' ht,hd,hall H' hgd]
          . cases h
          . cases h
       . by_cases hk:((pol.prim f).isNone&&!pol.look fn f&&pol.peek fn f)=true
         . right;right;right;left;have hk' :=hk;simp only[Zqf,Zrc,Zqg] at hk';obtain⟨⟨k1,k2⟩,k3⟩:=hk';have kp:pol.pure fn f=false:=by
            cases hx:pol.pure fn f with
            |false=>rfl
            |true=>exact absurd (by simp[k1,hx]) hp
           have kl:pol.lift fn f=false:=by
            cases hx:pol.lift fn f with
            |false=>rfl
            |true=>exact absurd (by simp[k1,hx]) hl
           split at h
           . rename_i v H2 hc;cases h;have hH:H1=H:=by
              have hc0:=hc;simp only[callOp,k1,kp,kl,k2,k3,Zpo,if_false] at hc0;split at hc0
              . exact Q04 (Qp6 fr hc0)
              . cases hc0
             subst hH;refine⟨by simp only[Z0,hq,hfar',Zpo,if_false,hev,hp,hl,hk,if_true],v,rfl,rfl,fun t' ht=>⟨?_,?_⟩⟩
             . simp only[Q1,hcall t' _ ht,hc]
             . simp only[Z0,hq,hfar',Zpo,if_false,hcall t' _ ht,hp,hl,hk,if_true]
           . cases h
           . cases h
         . have hfp:∀(t' :List V) (H' :Heap),(∀x∈o.op.operands,rho t' x=rho t x)->Z0 P pol fn fr t' H' o=Qhp pol fn fr f:=fun t' H' ht=>by
            simp only[Z0,hq,hfar',Zpo,if_false,hcall t' H' ht,hp,hl,hk]
           split at h
           case h_2=>cases h
           case h_3=>cases h
           rename_i v H2 hc;cases h;by_cases hs:((pol.prim f).isNone&&!pol.look fn f)=true
           case neg=>right;right;left;have e:Qhp pol fn fr f= .all:=if_neg hs;exact⟨by rw[hfp t H (fun _ _=>rfl),e],v,rfl,fun t' ht=>⟨by simp only[Q1,hcall t' H ht,hc],by rw[hfp t' H ht,e]⟩⟩
           cases hsd:pol.side fn f with
           |none=>
            right;right;left;have e:Qhp pol fn fr f= .all:=by unfold Qhp;rw[if_pos hs,hsd]
            exact⟨by rw[hfp t H (fun _ _=>rfl),e],v,rfl,fun t' ht=>⟨by simp only[Q1,hcall t' H ht,hc],by rw[hfp t' H ht,e]⟩⟩
           |some y=>
            obtain⟨ks,x⟩:=y;have e:Qhp pol fn fr f= .side (ks.map fun k=>(fr,k)) (x.map fun d=>(fr,d)):=by unfold Qhp;rw[if_pos hs,hsd]
            right;right;right;right;left;have hs' :=hs;simp only[Zqf,Zrc,Zqg] at hs';obtain⟨k1,k2⟩:=hs';have kp:pol.pure fn f=false:=by
             cases hx:pol.pure fn f with
             |false=>rfl
             |true=>exact absurd (by simp[k1,hx]) hp
            have kl:pol.lift fn f=false:=by
             cases hx:pol.lift fn f with
             |false=>rfl
             |true=>exact absurd (by simp[k1,hx]) hl
            have hco:∀H',callOp pol C fn fr o.dst f args H' =match Qa0 pol fn f args with
             |some args=>Qe6 fr (some (ks,x)) (pol.news fn) (fun H=>Qge (pol.peek fn f) H (C f args H)) H'
             |none=>none:=fun H' =>by
             simp only[callOp,k1,kp,kl,k2,hsd,Zpo,if_false];rfl
            have hc0:=hc;rw[hco] at hc0;cases hta:Qa0 pol fn f args with
            |none=>rw[hta] at hc0;cases hc0
            |some ys=>
             rw[hta] at hc0;simp only at hc0;obtain⟨v0,g1,g2,g3,g4⟩:=Qiq fr hc0;cases g1;refine⟨_,_,(hfp t H (fun _ _=>rfl)).trans e,v,rfl,?_,fun t' ht=>⟨by simp only[Q1,hcall t' H ht,hc],by rw[hfp t' H ht,e]⟩,?_⟩
             . intro y hy;obtain⟨k,hk1,rfl⟩:=Zp3.1 hy;exact g3 k hk1
             . intro d hd;have hxd:x=some d:=by
                cases x with
                |none=>cases hd
                |some z=>cases hd;rfl
               subst hxd;obtain⟨⟨l1,l2,q1⟩,q2⟩:=Qmm fr g4;refine⟨q1,fun cs hn hcs t' ht=>⟨?_,by rw[hfp t' _ ht,e]⟩⟩;have g5:=q2 cs hn hcs;have n1:∀k,k≠d->∀(A:Heap),Qd (hset A fr d (.cells cs)) fr k=Qd A fr k:=fun k hk A=>Bp A _ (by rintro⟨_,rfl⟩;exact hk rfl);have hfin:callOp pol C fn fr o.dst f args (hset H fr d (.cells cs))=some (.ret v,hset H1 fr d (.cells cs)):=by
                rw[hco,hta];have self:∀A:Heap,fr<A.length->Qd (hset A fr d (.cells cs)) fr d=some (.cells cs):=fun A hA=>by rw[Xq A fr d _ hA,if_pos ⟨rfl,rfl⟩]
                refine Qe9 fr g5 (fun k hk=>?_) (fun d' hd' =>?_)
                . by_cases hkd:k=d
                  . subst hkd;rw[self _ l1,self _ l2]
                  . rw[n1 k hkd,n1 k hkd];exact g3 k hk
                . cases hd';refine⟨⟨by rw[Zy];exact l1,by rw[Zy];exact l2,by rw[self _ l1,self _ l2]⟩,fun cs' h8=>?_⟩;rw[self _ l1] at h8;cases h8
               simp only[Q1,hcall t' _ ht,hfin]
   . rename_i f s args hev;right;right;left;have he:∀t' :List V,(∀x∈o.op.operands,rho t' x=rho t x)->Zm P (pol.mt fn) fr (Qd H) (rho t') o=some (.round f s args):=fun t' ht=>by rw[Bg ht,hev]
     have hall:∀t' :List V,(∀x∈o.op.operands,rho t' x=rho t x)->Z0 P pol fn fr t' H o= .all:=fun t' ht=>by simp only[Z0,hq,Zpo,if_false,he t' ht];split<;>rfl
     split at h
     . rename_i v H2 hc;cases h;refine⟨hall t (fun _ _=>rfl),v,rfl,fun t' ht=>⟨?_,hall t' ht⟩⟩;simp only[Q1,he t' ht,hc]
     . cases h
def Jm(P:Program)(pol:Pol)(C:Call)(fn fr:Nat)(ops:Array Oper)(T:List FP)(i:Nat)(t:List V)(H:Heap):Option (List V×Heap):=
 match ops[i]? with
 |none=>none
 |some o=>match Zw ops t o with
  |none=>none
  |some false=>if T.getD i .all= .quiet then some (Qs t o.dst nov,H) else none
  |some true=>if Z0 P pol fn fr t H o=T.getD i .all then(match Q1 P pol C fn fr t H o with
   |some (.normal,t1,H1)=>some (t1,H1)
   |_=>none) else none
def Bi(P:Program)(pol:Pol)(C:Call)(fn fr:Nat)(ops:Array Oper)(T:List FP):List Nat->List V->Heap->Option (List V×Heap)
 |[],t,H=>some (t,H)
 |i::r,t,H=>match Jm P pol C fn fr ops T i t H with
  |some (t1,H1)=>Bi P pol C fn fr ops T r t1 H1
  |none=>none
end
section
variable {P : Program} {pol : Pol} {C : Call} {fn fr : Nat} {ops : Array Oper} {T : List FP}
def Qaq(ops:Array Oper)(o:Oper)(t' t:List V):Prop:=(∀x∈o.op.operands,rho t' x=rho t x)/\Zw ops t' o=Zw ops t o
theorem Qg{a b:Oper}(h:Ju ops a b=true)(v:V)(t:List V):Qaq ops b (Qs t a.dst v) t:=⟨Qen h t,Qff h t⟩
theorem Qaq.symm{o:Oper}{t t' :List V}(h:Qaq ops o t t'):Qaq ops o t' t:=⟨fun x hx=>(h.1 x hx).symm,h.2.symm⟩
theorem J5{i:Nat}{o:Oper}{t t1:List V}{H H1:Heap}(ho:ops[i]?=some o)(h:Jm P pol C fn fr ops T i t H=some (t1,H1)):
 (T.getD i .all= .quiet/\∃v,t1=Qs t o.dst v/\H1=H/\∀t' H',Qaq ops o t' t->Jm P pol C fn fr ops T i t' H' =some (Qs t' o.dst v,H'))\/
 (∃w v r,T.getD i .all= .ids r (Qam w)/\t1=Qs t o.dst v/\H1=wr H w/\
   ∀t' H',Qaq ops o t' t->(∀f s,(f,s)∈r->Qd H' f s=Qd H f s)->Jm P pol C fn fr ops T i t' H' =some (Qs t' o.dst v,wr H' w))\/
 (T.getD i .all= .all/\∃v,t1=Qs t o.dst v/\∀t',Qaq ops o t' t->Jm P pol C fn fr ops T i t' H=some (Qs t' o.dst v,H1))\/
 (T.getD i .all= .peek/\∃v,t1=Qs t o.dst v/\H1=H/\∀t',Qaq ops o t' t->Jm P pol C fn fr ops T i t' H=some (Qs t' o.dst v,H))\/
 (∃ks x,T.getD i .all= .side ks x/\∃v,t1=Qs t o.dst v/\(∀y∈ks,Qd H1 y.1 y.2=Qd H y.1 y.2)/\(∀t',Qaq ops o t' t->Jm P pol C fn fr ops T i t' H=some (Qs t' o.dst v,H1))/\
   ∀d,x=some (fr,d)->Qd H1 fr d=Qd H fr d/\∀cs,Qd H fr d=none->pol.news fn d=some cs->∀t',Qaq ops o t' t->Jm P pol C fn fr ops T i t' (hset H fr d (.cells cs))=some (Qs t' o.dst v,hset H1 fr d (.cells cs)))\/
 (∃d cs v,T.getD i .all= .fresh (fr,d)/\pol.news fn d=some cs/\Qd H fr d=none/\t1=Qs t o.dst v/\H1=wr H (some (fr,d,.cells cs))/\
   ∀t' H',Qaq ops o t' t->Qd H' fr d=none->Jm P pol C fn fr ops T i t' H' =some (Qs t' o.dst v,wr H' (some (fr,d,.cells cs)))):=by
 simp only[Jm,ho] at h⊢;split at h
 . cases h
 . rename_i hw;split at h
   . rename_i hT;cases h;left;refine⟨hT,nov,rfl,rfl,fun t' H' ha=>?_⟩;rw[ha.2,hw];simp only[hT,if_true]
   . cases h
 . rename_i hw;split at h
   case isFalse=>cases h
   rename_i hT;split at h
   case h_2=>cases h
   rename_i t2 H2 hop;cases h;rcases Qqs t H o hop with⟨h1,v,h2,h3,h4⟩|⟨w,v,h1,h2,h3,h4⟩|⟨h1,v,h2,h3⟩|⟨h1,v,h2,h2',h3⟩|⟨ks,x,h1,v,h2,h4,h3,h5⟩|⟨d,cs,v,h1,h2,h3,h4,h5,h6⟩
   . left;refine⟨hT.symm.trans h1,v,h2,h3,fun t' H' ha=>?_⟩;obtain⟨g1,g2⟩:=h4 t' H' ha.1;rw[ha.2,hw];simp only[g1,g2,<-hT,h1,if_true]
   . right;left;refine⟨w,v,_,hT.symm.trans h1,h2,h3,fun t' H' ha hg=>?_⟩;obtain⟨g1,g2⟩:=h4 t' H' ha.1 hg;rw[ha.2,hw];simp only[g1,g2,<-hT,h1,if_true]
   . right;right;left;refine⟨hT.symm.trans h1,v,h2,fun t' ha=>?_⟩;obtain⟨g1,g2⟩:=h3 t' ha.1;rw[ha.2,hw];simp only[g1,g2,<-hT,h1,if_true]
   . right;right;right;left;refine⟨hT.symm.trans h1,v,h2,h2',fun t' ha=>?_⟩;obtain⟨g1,g2⟩:=h3 t' ha.1;rw[ha.2,hw];simp only[g1,g2,<-hT,h1,if_true]
   . right;right;right;right;left;refine⟨ks,x,hT.symm.trans h1,v,h2,h4,fun t' ha=>?_,fun d hd=>?_⟩
     . obtain⟨g1,g2⟩:=h3 t' ha.1;rw[ha.2,hw];simp only[g1,g2,<-hT,h1,if_true]
     . obtain⟨g3,g4⟩:=h5 d hd;refine⟨g3,fun cs hn hc t' ha=>?_⟩;obtain⟨g1,g2⟩:=g4 cs hn hc t' ha.1;rw[ha.2,hw];simp only[g1,g2,<-hT,h1,if_true]
   . right;right;right;right;right;refine⟨d,cs,v,hT.symm.trans h1,h2,h3,h4,h5,fun t' H' ha hg=>?_⟩;obtain⟨g1,g2⟩:=h6 t' H' ha.1 hg;rw[ha.2,hw];simp only[g1,g2,<-hT,h1,if_true]
theorem Bh{a b:List (Nat×Nat)}(h:(!Qcl a b)=true){x:Nat×Nat}(hx:x∈a):x∉b:=by intro hb;simp only[Qcl,Zqg,List.any_eq_false] at h;exact h x hx (by simpa using hb)
theorem Ql0{H:Heap}{w:Option (Nat×Nat×O)}{f s:Nat}(h:(f,s)∉Qam w):Qd (wr H w) f s=Qd H f s:=by
 cases w with
 |none=>rfl
 |some x=>
  obtain⟨f',s',q⟩:=x;simp only[wr];refine Bp H q ?_;rintro⟨rfl,rfl⟩;exact h (by simp[Qam])
theorem Qww{H:Heap}{w w' :Option (Nat×Nat×O)}(h:(!Qcl (Qam w) (Qam w'))=true):wr (wr H w) w' =wr (wr H w') w:=by
 cases w with
 |none=>rfl
 |some x=>
  cases w' with
  |none=>rfl
  |some y=>
   obtain⟨f,s,q⟩:=x;obtain⟨f',s',q'⟩:=y;simp only[wr];refine K7 H q q' ?_;rintro⟨rfl,rfl⟩;exact Bh h (x:=(f,s)) (by simp[Qam]) (by simp[Qam])
theorem Qmc{i j:Nat}{oi oj:Oper}(hi:ops[i]?=some oi)(hj:ops[j]?=some oj)(ha:Ju ops oi oj=true)(hI:(T.getD i .all).indep (T.getD j .all)=true)
 {t t1 t2:List V}{H H1 H2:Heap}(h1:Jm P pol C fn fr ops T i t H=some (t1,H1))(h2:Jm P pol C fn fr ops T j t1 H1=some (t2,H2)):
 ∃t1' H1',Jm P pol C fn fr ops T j t H=some (t1',H1')/\Jm P pol C fn fr ops T i t1' H1' =some (t2,H2):=by
 have hs:=Qju ha;rcases J5 hi h1 with⟨q1,v,rfl,rfl,g1⟩|⟨w,v,r,q1,rfl,rfl,g1⟩|⟨q1,v,rfl,g1⟩|⟨q1,v,rfl,rfl,g1⟩|⟨ks,x,q1,v,rfl,e1,g1,f1⟩|⟨d,cs,v,q1,n1,k1,rfl,rfl,g1⟩
 . rcases J5 hj h2 with⟨q2,u,rfl,rfl,g2⟩|⟨w',u,r',q2,rfl,rfl,g2⟩|⟨q2,u,rfl,g2⟩|⟨q2,u,rfl,rfl,g2⟩|⟨ks',x',q2,u,rfl,e2,g2,f2⟩|⟨d',cs',u,q2,n2,k2,rfl,rfl,g2⟩
   . refine⟨_,_,g2 t H2 (Qg ha v t).symm,?_⟩;rw[g1 _ _ (Qg hs u t),Zh ha]
   . refine⟨_,_,g2 t H1 (Qg ha v t).symm (fun _ _ _=>rfl),?_⟩;rw[g1 _ _ (Qg hs u t),Zh ha]
   . refine⟨_,_,g2 t (Qg ha v t).symm,?_⟩;rw[g1 _ _ (Qg hs u t),Zh ha]
   . refine⟨_,_,g2 t (Qg ha v t).symm,?_⟩;rw[g1 _ _ (Qg hs u t),Zh ha]
   . refine⟨_,_,g2 t (Qg ha v t).symm,?_⟩;rw[g1 _ _ (Qg hs u t),Zh ha]
   . refine⟨_,_,g2 t _ (Qg ha v t).symm k2,?_⟩;rw[g1 _ _ (Qg hs u t),Zh ha]
 . rcases J5 hj h2 with⟨q2,u,rfl,rfl,g2⟩|⟨w',u,r',q2,rfl,rfl,g2⟩|⟨q2,u,rfl,g2⟩|⟨q2,u,rfl,rfl,g2⟩|⟨ks',x',q2,u,rfl,e2,g2,f2⟩|⟨d',cs',u,q2,n2,k2,rfl,rfl,g2⟩
   . refine⟨_,_,g2 t H (Qg ha v t).symm,?_⟩;rw[g1 _ _ (Qg hs u t) (fun _ _ _=>rfl),Zh ha]
   . rw[q1,q2] at hI;simp only[FP.indep,Zqf] at hI;obtain⟨⟨i1,i2⟩,i3⟩:=hI;refine⟨_,_,g2 t H (Qg ha v t).symm (fun f s hm=>?_),?_⟩
     . exact(Ql0 (fun hw=>Bh i1 hw hm)).symm
     . rw[g1 _ _ (Qg hs u t) (fun f s hm=>Ql0 (fun hw=>Bh i3 hw hm)),Zh ha,Qww i2]
   . rw[q1,q2] at hI;cases hI
   . rw[q1,q2] at hI;cases w with
     |some x=>cases hI
     |none=>
      refine⟨_,_,g2 t (Qg ha v t).symm,?_⟩;rw[g1 (Qs t oj.dst u) (wr H none) (Qg hs u t) (fun _ _ _=>rfl),Zh ha];rfl
   . rw[q1,q2] at hI;cases w with
     |some x=>cases hI
     |none=>
      simp only[FP.indep,Zqt,Zqf] at hI;refine⟨_,_,g2 t (Qg ha v t).symm,?_⟩;refine(g1 _ _ (Qg hs u t) (fun f s hm=>e2 (f,s) (by simpa using hI.2 _ hm))).trans ?_;rw[Zh ha];rfl
   . rw[q1,q2] at hI;simp only[FP.indep,Zqf] at hI;have hw:(fr,d')∉Qam w:=fun h=>Bh hI.1 h (by simp);refine⟨_,_,g2 t H (Qg ha v t).symm (by rw[<-Ql0 hw];exact k2),?_⟩;rw[g1 _ _ (Qg hs u t) (fun f s hm=>Ql0 (fun h=>by
      simp only[Qam,Zp9] at h
      exact Bh hI.2 (x:=(fr,d')) (by simp) (h▸hm))),Zh ha,Qww (w:=w) (w' :=some (fr,d',.cells cs')) (by simpa [Qam] using hI.1)]
 . rcases J5 hj h2 with⟨q2,u,rfl,rfl,g2⟩|⟨w',u,r',q2,rfl,rfl,g2⟩|⟨q2,u,rfl,g2⟩|⟨q2,u,rfl,rfl,g2⟩|⟨ks',x',q2,u,rfl,e2,g2,f2⟩|⟨d',cs',u,q2,n2,k2,rfl,rfl,g2⟩
   . refine⟨_,_,g2 t H (Qg ha v t).symm,?_⟩;rw[g1 _ (Qg hs u t),Zh ha]
   . rw[q1,q2] at hI;cases hI
   . rw[q1,q2] at hI;cases hI
   . rw[q1,q2] at hI;cases hI
   . rw[q1,q2] at hI;cases hI
   . rw[q1,q2] at hI;cases hI
 . rcases J5 hj h2 with⟨q2,u,rfl,rfl,g2⟩|⟨w',u,r',q2,rfl,rfl,g2⟩|⟨q2,u,rfl,g2⟩|⟨q2,u,rfl,rfl,g2⟩|⟨ks',x',q2,u,rfl,e2,g2,f2⟩|⟨d',cs',u,q2,n2,k2,rfl,rfl,g2⟩
   . refine⟨_,_,g2 t _ (Qg ha v t).symm,?_⟩;rw[g1 _ (Qg hs u t),Zh ha]
   . rw[q1,q2] at hI;cases w' with
     |some x=>cases hI
     |none=>
      refine⟨_,_,g2 t _ (Qg ha v t).symm (fun _ _ _=>rfl),?_⟩;exact(g1 _ (Qg hs u t)).trans (by rw[Zh ha];rfl)
   . rw[q1,q2] at hI;cases hI
   . refine⟨_,_,g2 t (Qg ha v t).symm,?_⟩;rw[g1 _ (Qg hs u t),Zh ha]
   . rw[q1,q2] at hI;cases hI
   . rw[q1,q2] at hI;cases hI
 . rcases J5 hj h2 with⟨q2,u,rfl,rfl,g2⟩|⟨w',u,r',q2,rfl,rfl,g2⟩|⟨q2,u,rfl,g2⟩|⟨q2,u,rfl,rfl,g2⟩|⟨ks',x',q2,u,rfl,e2,g2,f2⟩|⟨d',cs',u,q2,n2,k2,rfl,rfl,g2⟩
   . refine⟨_,_,g2 t _ (Qg ha v t).symm,?_⟩;rw[g1 _ (Qg hs u t),Zh ha]
   . rw[q1,q2] at hI;cases w' with
     |some x=>cases hI
     |none=>
      simp only[FP.indep,Zqt,Zqf] at hI;refine⟨_,_,g2 t _ (Qg ha v t).symm (fun f s hm=>(e1 (f,s) (by simpa using hI.2 _ hm)).symm),?_⟩;exact(g1 _ (Qg hs u t)).trans (by rw[Zh ha];rfl)
   . rw[q1,q2] at hI;cases hI
   . rw[q1,q2] at hI;cases hI
   . rw[q1,q2] at hI;cases hI
   . rw[q1,q2] at hI;simp only[FP.indep,decide_eq_true_eq] at hI;subst hI;obtain⟨h6,h7⟩:=f1 d' rfl;refine⟨_,_,g2 t H (Qg ha v t).symm (by rw[<-h6];exact k2),?_⟩;exact(h7 cs' (by rw[<-h6];exact k2) n2 _ (Qg hs u t)).trans (by rw[Zh ha];rfl)
 . rcases J5 hj h2 with⟨q2,u,rfl,rfl,g2⟩|⟨w',u,r',q2,rfl,rfl,g2⟩|⟨q2,u,rfl,g2⟩|⟨q2,u,rfl,rfl,g2⟩|⟨ks',x',q2,u,rfl,e2,g2,f2⟩|⟨d',cs',u,q2,n2,k2,rfl,rfl,g2⟩
   . refine⟨_,_,g2 t _ (Qg ha v t).symm,?_⟩;rw[g1 _ _ (Qg hs u t) k1,Zh ha]
   . rw[q1,q2] at hI;simp only[FP.indep,Zqf] at hI;have hw:(fr,d)∉Qam w' :=fun h=>Bh hI.1 h (by simp);refine⟨_,_,g2 t H (Qg ha v t).symm (fun f s hm=>(Ql0 (fun h=>by
      simp only[Qam,Zp9] at h
      exact Bh hI.2 (x:=(fr,d)) (by simp) (h▸hm))).symm),?_⟩
     rw[g1 _ _ (Qg hs u t) (by rw[Ql0 hw];exact k1),Zh ha,Qww (w:=w') (w' :=some (fr,d,.cells cs)) (by simpa [Qam] using hI.1)]
   . rw[q1,q2] at hI;cases hI
   . rw[q1,q2] at hI;cases hI
   . rw[q1,q2] at hI;cases hI
   . rw[q1,q2] at hI;cases hI
theorem Qb6{i:Nat}{l2:List Nat}{res:List V×Heap}(hi:i<ops.size):∀(l1:List Nat) (t:List V) (H:Heap),
 (∀j∈l1,j<ops.size/\Ju ops (ops.getD j default) (ops.getD i default)=true/\(T.getD j .all).indep (T.getD i .all)=true)->
 Bi P pol C fn fr ops T (l1++i::l2) t H=some res->Bi P pol C fn fr ops T (i::(l1++l2)) t H=some res
 |[],t,H,_,h=>h
 |j::l1,t,H,hl,h=>by
  obtain⟨hj,ha,hI⟩:=hl j (by simp);simp only[Zqo,Bi] at h;cases h1:Jm P pol C fn fr ops T j t H with
  |none=>rw[h1] at h;cases h
  |some x=>
   obtain⟨t1,H1⟩:=x;rw[h1] at h;have ih:=Qb6 hi l1 t1 H1 (fun k hk=>hl k (by simp[hk])) h;simp only[Bi] at ih;cases h2:Jm P pol C fn fr ops T i t1 H1 with
   |none=>rw[h2] at ih;cases ih
   |some y=>
    obtain⟨t2,H2⟩:=y;rw[h2] at ih;have e1:ops[j]?=some (ops.getD j default):=by simp[Array.getD,hj]
    have e2:ops[i]?=some (ops.getD i default):=by simp[Array.getD,hi]
    obtain⟨t1',H1',g1,g2⟩:=Qmc e1 e2 ha hI h1 h2;simp only[Zqo,Bi,g1,g2];exact ih
end
theorem Qhf(ops:Array Oper):(Region.before ops).size=ops.size/\∀i o j,ops[i]?=some o->((Region.before ops).getD i 0).testBit j=true->
 ∃e∈o.after,Region.binds .any e=true/\(e.on=j\/((Region.before ops).getD e.on 0).testBit j=true):=by
 have key:∀(l:List Oper) (acc:Array Nat) (pre:List Oper),acc.size=pre.length->
  (∀i o j,pre[i]?=some o->(acc.getD i 0).testBit j=true->∃e∈o.after,Region.binds .any e=true/\(e.on=j\/(acc.getD e.on 0).testBit j=true))->
  (l.foldl (fun acc o=>acc.push (o.after.foldl (fun s e=>if Region.binds .any e then s|||2^e.on|||acc.getD e.on 0 else s) 0)) acc).size=pre.length+l.length/\
  ∀i o j,(pre++l)[i]?=some o->((l.foldl (fun acc o=>acc.push (o.after.foldl (fun s e=>if Region.binds .any e then s|||2^e.on|||acc.getD e.on 0 else s) 0)) acc).getD i 0).testBit j=true->
   ∃e∈o.after,Region.binds .any e=true/\(e.on=j\/((l.foldl (fun acc o=>acc.push (o.after.foldl (fun s e=>if Region.binds .any e then s|||2^e.on|||acc.getD e.on 0 else s) 0)) acc).getD e.on 0).testBit j=true):=by
  intro l
  induction l with
  |nil=>intro acc pre hs h;simpa [hs] using h
  |cons o l ih=>
   intro acc pre hs h;simp only[Zqw];generalize hn:o.after.foldl (fun s e=>if Region.binds .any e then s|||2^e.on|||acc.getD e.on 0 else s) 0=n;have hgrow:∀k j,(acc.getD k 0).testBit j=true->((acc.push n).getD k 0).testBit j=true:=by
    intro k j hb;have hk:k<acc.size:=by
     rcases Zpm k acc.size with hk|hk
     . exact hk
     . simp[Array.getD,Nat.not_lt.2 hk] at hb
    have:(acc.push n).getD k 0=acc.getD k 0:=by simp only[Array.getD,hk,Zpu,Zpv hk,dif_pos,Zrd];exact Array.getElem_push_lt hk
    rw[this];exact hb
   have hfold:∀(es:List Edge) (s j:Nat),((es.foldl (fun s e=>if Region.binds .any e then s|||2^e.on|||acc.getD e.on 0 else s) s)).testBit j=true->
    s.testBit j=true\/∃e∈es,Region.binds .any e=true/\(e.on=j\/(acc.getD e.on 0).testBit j=true):=by
    intro es
    induction es with
    |nil=>intro s j hb;exact .inl hb
    |cons e es ihe=>
     intro s j hb;simp only[Zqw] at hb;rcases ihe _ j hb with g|⟨e',he',g⟩
     . by_cases hbd:Region.binds .any e=true
       . rw[if_pos hbd] at g;simp only[Nat.testBit_or,Zqu,Nat.testBit_two_pow,decide_eq_true_eq] at g;rcases g with(g|g)|g
         . exact .inl g
         . exact .inr ⟨e,by simp,hbd,.inl g⟩
         . exact .inr ⟨e,by simp,hbd,.inr g⟩
       . rw[if_neg hbd] at g;exact .inl g
     . exact .inr ⟨e',by simp[he'],g⟩
   have:=ih (acc.push n) (pre++[o]) (by simp[hs]) (by
    intro i o' j hi hb;rcases Zpm i pre.length with hlt|hge
    . have hi' :pre[i]?=some o' :=by rw[Zre hlt] at hi;exact hi
      have:(acc.push n).getD i 0=acc.getD i 0:=by
       have hk:i<acc.size:=by omega
       simp only[Array.getD,hk,Zpu,Zpv hk,dif_pos,Zrd];exact Array.getElem_push_lt hk
      rw[this] at hb;obtain⟨e,h1,h2,h3⟩:=h i o' j hi' hb;exact⟨e,h1,h2,h3.imp_right (hgrow _ _)⟩
    . have hieq:i=pre.length:=by
       rcases Zpm i (pre++[o]).length with g|g
       . simp at g;omega
       . rw[Zpn g] at hi;cases hi
      subst hieq;have ho:o' =o:=by simpa using hi.symm
      subst ho;have hnv:(acc.push n).getD pre.length 0=n:=by rw[<-hs];simp[Array.getD]
      rw[hnv,<-hn,<-Zrf] at hb;rcases hfold _ _ _ hb with g|⟨e,h1,h2,h3⟩
      . simp at g
      . exact⟨e,by simpa using h1,h2,h3.imp_right (hgrow _ _)⟩)
   simpa [Zqb,Nat.add_comm 1] using this
 have:=key ops.toList #[] [] rfl (by intro i o j hi;simp at hi);simp only[Zq4,Zpw,Zrg,Zrh] at this;have e:Region.before ops=ops.toList.foldl (fun acc o=>acc.push (o.after.foldl (fun s e=>if Region.binds .any e then s|||2^e.on|||acc.getD e.on 0 else s) 0)) #[]:=by unfold Region.before;rw[<-Zrf]
 rw[e];refine⟨this.1,fun i o j hi hb=>this.2 i o j (by simpa using hi) hb⟩
def Qbp(ops:Array Oper):Bool:=
 (List.range ops.size).all fun i=>
   ((ops.getD i default).after.all fun e=>!Region.binds .any e||decide (e.on<i))&&
   (List.range i).all fun j=>((Region.before ops).getD i 0).testBit j||Ju ops (ops.getD j default) (ops.getD i default)
section
variable {P : Program} {pol : Pol} {C : Call} {fn fr : Nat} {ops : Array Oper} {T : List FP}
theorem Qhq{bef:Array Nat}:∀{l:List (FP×Nat)},okT bef l=true->∀{l1 l2:List (FP×Nat)} {a b:FP} {i j:Nat},l=l1++(a,i)::l2->(b,j)∈l2->
 (bef.getD j 0).testBit i=true\/a.indep b=true
 |[],_,l1,l2,a,b,i,j,h,_=>by simp at h
 |(c,k)::r,h,l1,l2,a,b,i,j,he,hm=>by
  simp only[okT,Zqf,Zqt] at h;cases l1 with
  |nil=>
   simp only[Zrg,List.cons.injEq,Prod.mk.injEq] at he;obtain⟨⟨rfl,rfl⟩,rfl⟩:=he;have:=h.1 (b,j) hm;simpa using this
  |cons x l1=>
   simp only[Zqo,List.cons.injEq] at he;exact Qhq h.2 he.2 hm
theorem Qlv{bef:Array Nat}(h:okT bef (loud T)=true){i j:Nat}(hij:i<j)(hj:j<T.length):
 (bef.getD j 0).testBit i=true\/(T.getD i .all).indep (T.getD j .all)=true:=by
 have hi:i<T.length:=Zpr hij hj;have ei:T.getD i .all=T[i]:=by simp[List.getD,hi]
 have ej:T.getD j .all=T[j]:=by simp[List.getD,hj]
 rw[ei,ej];by_cases qi:T[i]= .quiet
 . right;rw[qi];cases T[j]<;>rfl
 by_cases qj:T[j]= .quiet
 . right;rw[qj];cases T[i]<;>rfl
 have hsplit:T.zipIdx=(T.zipIdx.take i)++(T[i],i)::T.zipIdx.drop (i+1):=by
  have hl:i<T.zipIdx.length:=by simpa using hi
  have e:T.zipIdx[i]=(T[i],i):=by simp
  rw[<-e,List.getElem_cons_drop];exact(Zqa _ _).symm
 have e:loud T=(T.zipIdx.take i).filter (fun x=>x.1.loud)++(T[i],i)::(T.zipIdx.drop (i+1)).filter (fun x=>x.1.loud):=by
  unfold loud
  conv=>lhs;rw[hsplit]
  rw[Zri,Zrj];have:(T[i],i).1.loud=true:=by simp only;cases hq:T[i]<;>first|exact absurd hq qi|rfl
  rw[if_pos this]
 refine Qhq h e ?_;rw[Zrk];constructor
 . rw[Zrl];refine⟨j-(i+1),?_⟩;rw[Zq6];have:i+1+(j-(i+1))=j:=by omega
   rw[this];simp[hj]
 . simp only;cases hq:T[j]<;>first|exact absurd hq qj|rfl
theorem Qha(h:Qbp ops=true):∀i,i<ops.size->(∀e∈(ops.getD i default).after,Region.binds .any e=true->e.on<i)/\
 ∀j,j<i->((Region.before ops).getD i 0).testBit j=true\/Ju ops (ops.getD j default) (ops.getD i default)=true:=by
 simp only[Qbp,Zqf,Zqt,Zq1,Zqu] at h;intro i hi;obtain⟨h1,h2⟩:=h i hi;refine⟨fun e he hbd=>?_,h2⟩;have h3:=Zrm.1 h1 e he;simpa [hbd] using h3
def Bz(n:Nat)(listed:Array Bool):List Nat:=(List.range n).filter fun i=>!listed.getD i true
theorem Qqu{n i:Nat}{listed:Array Bool}(hn:listed.size=n)(hi:i<n)(hu:listed.getD i true=false):
 Bz n listed=(List.range i).filter (fun k=>!listed.getD k true)++i::((List.range' (i+1) (n-(i+1))).filter fun k=>!listed.getD k true)/\
 Bz n (listed.setIfInBounds i true)=(List.range i).filter (fun k=>!listed.getD k true)++((List.range' (i+1) (n-(i+1))).filter fun k=>!listed.getD k true):=by
 have hr:List.range n=List.range i++i::List.range' (i+1) (n-(i+1)):=by
  have e:n=i+(n-i):=by omega
  have e2:n-i=(n-(i+1))+1:=by omega
  conv=>lhs;rw[e,Zrn,<-List.range'_append_1]
  rw[<-Zrn,Zpw,e2,Zq3]
 have hset:∀k,k≠i->(listed.setIfInBounds i true).getD k true=listed.getD k true:=by intro k hk;simp only[Zro];rw[Zrp (fun e=>hk e.symm)]
 have hseti:(listed.setIfInBounds i true).getD i true=true:=by simp[Zro,hn,hi]
 constructor
 . unfold Bz;rw[hr,Zri,Zrj,hu];rfl
 . unfold Bz;rw[hr,Zri,Zrj,hseti];simp only[Zrq,Zpo,if_false];congr 1
   . refine List.filter_congr fun k hk=>?_;rw[hset k (by have:=Zq1.1 hk;omega)]
   . refine List.filter_congr fun k hk=>?_;rw[hset k (by have:=(List.mem_range'_1.1 hk).1;omega)]
def Q13(ops:Array Oper)(listed:Array Bool):Prop:=∀i j,i<ops.size->listed.getD i false=true->((Region.before ops).getD i 0).testBit j=true->listed.getD j false=true
theorem Qf8(h:Qbp ops=true)(hT:T.length=ops.size)(hok:okT (Region.before ops) (loud T)=true){res:List V×Heap}:
 ∀(fuel tp:Nat) (listed:Array Bool) (acc:List Nat) (t:List V) (H:Heap),listed.size=ops.size->Q13 ops listed->(Bz ops.size listed).length=fuel->
  Bi P pol C fn fr ops T (Bz ops.size listed) t H=some res->
  ∃L,Region.linearise.go .any ops fuel tp listed acc=acc.reverse++L/\Bi P pol C fn fr ops T L t H=some res:=by
 have hsp:=Qha h;intro fuel
 induction fuel with
 |zero=>
  intro tp listed acc t H _ _ hl hr;have:Bz ops.size listed=[]:=List.length_eq_zero_iff.1 hl;rw[this] at hr;exact⟨[],by simp[Region.linearise.go],hr⟩
 |succ fuel ih=>
  intro tp listed acc t H hsz hcl hl hr;simp only[Region.linearise.go];generalize hrs:(List.range ops.size).filter (fun i=>!listed.getD i true&&((ops[i]?).map (·.after.all fun e=>!Region.binds .any e||listed.getD e.on false)).getD false)=rs;obtain⟨m,hm,hmin⟩:∃m,m∈Bz ops.size listed/\∀k∈Bz ops.size listed,m<=k:=by
   cases htd:Bz ops.size listed with
   |nil=>rw[htd] at hl;cases hl
   |cons m r=>
    refine⟨m,by simp,fun k hk=>?_⟩;have hp:(Bz ops.size listed).Pairwise (· < ·):=List.Pairwise.filter _ List.pairwise_lt_range;rw[htd] at hp;rcases Zpy.1 hk with rfl|hk
    . exact Zpp _
    . exact Zrr ((List.pairwise_cons.1 hp).1 k hk)
  have hm' :=hm;simp only[Bz,Zrk,Zq1,Zqg] at hm';have hrm:m∈rs:=by
   rw[<-hrs,Zrk];refine⟨Zq1.2 hm'.1,?_⟩;have eo:ops[m]?=some (ops.getD m default):=by simp[Array.getD,hm'.1]
   simp only[hm'.2,Zrs,Zql,eo,Zpl,Zqs];rw[Zrm];intro e he;cases hbd:Region.binds .any e with
   |false=>rfl
   |true=>
   have hlt:=(hsp m hm'.1).1 e he hbd;simp only[Zrq,Zqr];have hon:e.on<ops.size:=Zpr hlt hm'.1;cases hb:listed.getD e.on false with
   |true=>rfl
   |false=>
    have:e.on∈Bz ops.size listed:=by simp only[Bz,Zrk,Zq1,Zqg];refine⟨hon,?_⟩;simp only[Array.getD,hsz,hon,dif_pos] at hb⊢;exact hb
    have:=hmin _ this;omega
  have hpos:0<rs.length:=List.length_pos_of_mem hrm;have hlt:tp%rs.length<rs.length:=Nat.mod_lt _ hpos;rw[Zpk hlt];generalize hi:rs[tp%rs.length]=i;have hir:i∈rs:=by rw[<-hi];exact Zrt hlt
  rw[<-hrs,Zrk] at hir;obtain⟨hin,hir⟩:=hir;have hin:=Zq1.1 hin;simp only[Zqf,Zqg] at hir;obtain⟨hu,hir⟩:=hir;have eo:ops[i]?=some (ops.getD i default):=by simp[Array.getD,hin]
  simp only[eo,Zpl,Zqs] at hir;rw[Zrm] at hir;have hbefore:∀j,((Region.before ops).getD i 0).testBit j=true->listed.getD j false=true:=by
   intro j hb;obtain⟨e,he,hbd,hor⟩:=(Qhf ops).2 i _ j eo hb;have:=hir e he;simp only[hbd,Zrq,Zqr] at this;rcases hor with rfl|hor
   . exact this
   . exact hcl e.on j (Zpr ((hsp i hin).1 e he hbd) hin) this hor
  obtain⟨e1,e2⟩:=Qqu hsz hin hu;rw[e1] at hr;have hb:=Qb6 hin _ t H (fun j hj=>by
   rw[Zrk] at hj;have hjl:=Zq1.1 hj.1;have hjn:j<ops.size:=Zpr hjl hin;have hnb:((Region.before ops).getD i 0).testBit j≠true:=by intro hb;have:=hbefore j hb;have hj2:=hj.2;simp only[Array.getD,hsz,hjn,dif_pos,Zqg] at this hj2;rw[this] at hj2;cases hj2
   refine⟨hjn,?_,?_⟩
   . exact((hsp i hin).2 j hjl).resolve_left hnb
   . exact(Qlv hok hjl (by rw[hT];exact hin)).resolve_left hnb) hr
  simp only[Bi] at hb;cases hst:Jm P pol C fn fr ops T i t H with
  |none=>rw[hst] at hb;cases hb
  |some x=>
   obtain⟨t1,H1⟩:=x;rw[hst] at hb;simp only at hb;rw[<-e2] at hb;have hgs:∀k,(listed.setIfInBounds i true).getD k false=true↔(k=i\/listed.getD k false=true):=by
    intro k;by_cases hk:k=i
    . subst hk;simp[Zro,hsz,hin]
    . simp only[hk,false_or,Zro];rw[Zrp (fun e=>hk e.symm)]
   obtain⟨L,g1,g2⟩:=ih (tp/rs.length) (listed.setIfInBounds i true) (i::acc) t1 H1 (by simpa using hsz) (by
    intro k j hk hkl hkb;rw[hgs] at hkl⊢;rcases hkl with hki|hkl
    . rw[hki] at hkb;exact .inr (hbefore j hkb)
    . exact .inr (hcl k j hk hkl hkb)) (by
    have hl1:=hl;rw[e1] at hl1;rw[e2];simp only[Zqp,Zq2] at hl1⊢
    omega) hb
   refine⟨i::L,?_,?_⟩
   . simpa using g1
   . simp only[Bi,hst];exact g2
theorem Qc6(h:Qbp ops=true)(hT:T.length=ops.size)(hok:okT (Region.before ops) (loud T)=true){res:List V×Heap}{t:List V}{H:Heap}
 (hr:Bi P pol C fn fr ops T (List.range ops.size) t H=some res){m:Bool}(hm:m=true)(tp:Nat):Bi P pol C fn fr ops T (Region.schedule m ops tp) t H=some res:=by
 subst hm;have e0:Bz ops.size (Array.replicate ops.size false)=List.range ops.size:=by unfold Bz;rw[List.filter_eq_self];intro k hk;have:=Zq1.1 hk;simp[Array.getD,this]
 obtain⟨L,g1,g2⟩:=Qf8 (P:=P) (pol:=pol) (C:=C) (fn:=fn) (fr:=fr) h hT hok ops.size tp (Array.replicate ops.size false) [] t H (by simp) (by
  intro i j hi hl
  simp[Array.getD] at hl) (by rw[e0];simp) (by rw[e0];exact hr)
 have:Region.schedule true ops tp=L:=by simp only[Region.schedule,Bool.true_or,if_true,Region.linearise];simpa using g1
 rw[this];exact g2
theorem Qa2:∀(l pre:List Oper) (T0:List FP) (t:List V) (H:Heap) (t' :List V) (H' :Heap) (T1:List FP),ops.toList=pre++l->T0.length=pre.length->
 Q4 P pol C fn fr ops l t H=some (t',H',T1)->T1.length=l.length/\Bi P pol C fn fr ops (T0++T1) (List.range' pre.length l.length) t H=some (t',H')
 |[],pre,T0,t,H,t',H',T1,_,_,h=>by cases h;exact⟨rfl,rfl⟩
 |o::l,pre,T0,t,H,t',H',T1,he,hl,h=>by
  have ho:ops[pre.length]?=some o:=by
   have:ops.toList[pre.length]?=some o:=by rw[he];simp
   simpa using this
  have he' :ops.toList=(pre++[o])++l:=by rw[he];simp
  have main:∀(fp:FP) (t1:List V) (H1:Heap),(∀T2:List FP,Jm P pol C fn fr ops (T0++fp::T2) pre.length t H=some (t1,H1))->
   (match Q4 P pol C fn fr ops l t1 H1 with
   |some (t',H',T)=>some (t',H',fp::T)
   |none=>none)=some (t',H',T1)->T1.length=(o::l).length/\Bi P pol C fn fr ops (T0++T1) (List.range' pre.length (o::l).length) t H=some (t',H'):=by
   intro fp t1 H1 hst hm;split at hm
   case h_2=>cases hm
   rename_i t2 H2 T2 hrun;cases hm;obtain⟨g1,g2⟩:=Qa2 l (pre++[o]) (T0++[fp]) t1 H1 _ _ _ he' (by simp[hl]) hrun;refine⟨by simp[g1],?_⟩;simp only[Zq2,Zq3,Bi,hst];simpa using g2
  have Qd:∀(fp:FP) (T2:List FP),(T0++fp::T2).getD pre.length .all=fp:=by intro fp T2;simp[List.getD,<-hl]
  simp only[Q4] at h;split at h
  . cases h
  . rename_i hw;refine main .quiet (Qs t o.dst nov) H (fun T2=>?_) h;simp only[Jm,ho,hw,Qd,if_true]
  . rename_i hw;split at h
    case h_2=>cases h
    rename_i t1 H1 hop;refine main (Z0 P pol fn fr t H o) t1 H1 (fun T2=>?_) h;simp only[Jm,ho,hw,Qd,if_true,hop]
end
end Go.AM
end
