/- This file holds in one the texts An18, An23; each says at its head what it proves. -/
import Derived.Test.YtjllfbejpjonnaaGreatDoorT8
set_option linter.unusedSimpArgs false
set_option linter.unusedVariables false
section
namespace Go.AM
section
variable {P : Program} {pol : Pol} {C : Call} {L : Kg -> Kz} {B : Nat} {F : Nat -> Nat -> Prop} {fn fr N : Nat} {ro : Option Nat} {dp : Nat}
def wpL(ro:Option Nat)(P:Program)(c:Code)(Q:Exit->Act->World->Prop)(a:Act)(w:World):Prop:=
 ∀(b:Go.Frame) (k:List Item) (cs:List Go.Frame),b.roundOf=ro->∃e a' w',Q e a' w' /\ArrivesIn (Machine.fenced P (G ro)) P (lone (b.atR a (.code c:: .inLoop c::k)) cs w) b k cs e a' w'
theorem Qq8{n:Nat}:(G ro).room n:=fun _ h=>by cases h
theorem Qmp{c:Code}{Q:Exit->Act->World->Prop}{a:Act}{w:World}(h:wpL ro P c Q a w):(Code.loop c).wpIn (G ro) dp P Q a w:=
 fun b k cs hro hb hr=>let⟨e,a',w',q,r⟩:=h b k cs hro;⟨e,a',w',q,.of_steps (.one (fenced_calm hb hr rfl) stepR_loop) r⟩
theorem Qmj{c:Code}{Q:Exit->Act->World->Prop}{a:Act}{w:World}(h:c.wpIn (G ro) dp P (Exit.then (wpL ro P c Q) Q) a w):wpL ro P c Q a w:=by
 intro b k cs hro;obtain⟨e,a₁,w₁,hq,harr⟩:=h b (.inLoop c::k) cs hro trivial Qq8;cases e with
 |normal=>
  obtain⟨e₂,a₂,w₂,hq₂,harr₂⟩:=hq b k cs hro;exact⟨e₂,a₂,w₂,hq₂,.of_steps (StepsIn.trans harr (.one (fenced_calm (n:=dp) trivial Qq8 rfl) stepR_inLoop)) harr₂⟩
 |exit id=>exact⟨_,a₁,w₁,hq,.pass (x:= .inLoop c) rfl (fun _ _=> .inl (by simp)) harr⟩
 |goto l=>exact⟨_,a₁,w₁,hq,.pass (x:= .inLoop c) rfl (fun _ _=> .inl (by simp)) harr⟩
 |ret=>exact⟨_,a₁,w₁,hq,.pass (x:= .inLoop c) rfl (fun _ _=> .inl (by simp)) harr⟩
 |panic ch=>exact⟨_,a₁,w₁,hq,.pass (x:= .inLoop c) rfl (fun _ _=> .inl (by simp)) harr⟩
 |outgrown=>exact⟨_,a₁,w₁,hq,.pass (x:= .inLoop c) rfl (fun _ _=> .inl (by simp)) harr⟩
theorem Yj.through{E0:Env}{ex:Ex}{t' :List V}{H' :Heap}(hne:ex≠ .normal){next:Act->World->Prop}{Q:Exit->Act->World->Prop}
 (hQ:∀e a w,Yj B F fr N E0 ex t' H' e a w->Q e a w):∀e a w,Yj B F fr N E0 ex t' H' e a w->Exit.then next Q e a w:=by
 intro e a w h;have hx:=h;obtain⟨E',rfl,X,s,hr⟩:=hx;cases ex with
 |normal=>exact absurd rfl hne
 |exit i=>simp only[J5] at hr;subst hr;exact hQ _ _ _ h
 |ret=>simp only[J5] at hr;subst hr;exact hQ _ _ _ h
 |panic v=>obtain⟨c,rfl,_⟩:=hr;exact hQ _ _ _ h
theorem Qjy{c:Code}{f:Kg}
 (hf:∀t H E0 E a,Ext fr B E0 E->E0.tab=Qt P->St B F fr N E H t a->∃x∈f t H,∀ex t' H',x=some (ex,t',H')->c.wpIn (G ro) dp P (Yj B F fr N E0 ex t' H') a E.w):
 ∀(n:Nat) t H ex t' H' E0 E a,Zz f n t H=some (ex,t',H')->Ext fr B E0 E->E0.tab=Qt P->St B F fr N E H t a->wpL ro P c (Yj B F fr N E0 ex t' H') a E.w:=by
 intro n
 induction n with
 |zero=>intro t H ex t' H' E0 E a h;cases h
 |succ n ih=>
  intro t H ex t' H' E0 E a h X htab s;simp only[Zz] at h;refine Qmj (dp:=dp) ?_;obtain⟨x,hx,hwp⟩:=hf t H E0 E a X htab s;have h1:=(Ql5 h) _ (Zpc.2 ⟨x,hx,rfl⟩);unfold after at h1;split at h1
  . rename_i t1 H1;refine wpIn_mono (hwp _ _ _ rfl) ?_;rintro e a' w' ⟨E',rfl,X',s',hr⟩;simp only[J5] at hr;subst hr;exact ih t1 H1 ex t' H' E0 E' a' h1 X' htab s'
  . rename_i hne;refine wpIn_mono (hwp _ _ _ h1) (Yj.through ?_ (fun _ _ _ h=>h));intro e;subst e;exact hne _ _ h1
def Qa2(L:Kg->Kz):Prop:=∀f t H r,L f t H=some r->∃n,Zz f n t H=some r
def Jw(look:Nat->Option (Array Tmp×Code×Code)):Code->Prop
 | .seq a b| .cond _ a b=>Jw look a/\Jw look b
 | .block _ b| .loop b| .scope b=>Jw look b
 | .rangeFunc _ ps a b=>look (Zl a b)=some (ps,a,b)/\Jw look a/\Jw look b
 |_=>True
theorem Ye(rid:Nat):∀(c:Code),rid∉Q9 c->Q6 rid c=none:=by
 intro c
 induction c with
 |seq a b iha ihb|cond _ a b iha ihb=>
  intro h;simp only[Q9,Zog,not_or] at h;simp only[Q6,iha h.1,ihb h.2]
 |block _ b ih|loop b ih|scope b ih=>intro h;exact ih h
 |rangeFunc g ps a b iha ihb=>
  intro h;simp only[Q9,Zph,Zog,not_or] at h;simp only[Q6];rw[if_neg (fun e=>h.1 e.symm),iha h.2.1,ihb h.2.2]
 |_=>intro _;rfl
theorem Qc6(look:Nat->Option (Array Tmp×Code×Code)):∀(c:Code),(Q9 c).Nodup->(∀rid∈Q9 c,look rid=Q6 rid c)->Jw look c:=by
 intro c;have some_:∀(c:Code) (rid:Nat),rid∈Q9 c->∃x,Q6 rid c=some x:=by
  intro c
  induction c with
  |seq a b iha ihb|cond _ a b iha ihb=>
   intro rid h;simp only[Q9,Zog] at h;simp only[Q6];rcases h with h|h
   . obtain⟨x,hx⟩:=iha rid h;exact⟨x,by rw[hx]⟩
   . obtain⟨x,hx⟩:=ihb rid h;cases hq:Q6 rid a with
     |some y=>exact⟨y,rfl⟩
     |none=>exact⟨x,hx⟩
  |block _ b ih|loop b ih|scope b ih=>intro rid h;exact ih rid h
  |rangeFunc g ps a b iha ihb=>
   intro rid h;simp only[Q9,Zph,Zog] at h;simp only[Q6];by_cases e:Zl a b=rid
   . exact⟨_,if_pos e⟩
   . rw[if_neg e];rcases h with h|h|h
     . exact absurd h.symm e
     . obtain⟨x,hx⟩:=iha rid h;exact⟨x,by rw[hx]⟩
     . obtain⟨x,hx⟩:=ihb rid h;cases hq:Q6 rid a with
       |some y=>exact⟨y,rfl⟩
       |none=>exact⟨x,hx⟩
  |_=>intro rid h;cases h
 induction c with
 |seq a b iha ihb|cond _ a b iha ihb=>
  intro hn hl;simp only[Q9] at hn hl;obtain⟨n1,n2,n3⟩:=List.nodup_append.1 hn;refine⟨iha n1 fun rid hr=>?_,ihb n2 fun rid hr=>?_⟩
  . rw[hl rid (List.mem_append_left _ hr)];obtain⟨x,hx⟩:=some_ a rid hr;simp only[Q6,hx]
  . rw[hl rid (List.mem_append_right _ hr)];simp only[Q6,Ye rid a (fun h=>n3 rid h rid hr rfl)]
 |block _ b ih|loop b ih|scope b ih=>intro hn hl;exact ih hn hl
 |rangeFunc g ps a b iha ihb=>
  intro hn hl;simp only[Q9] at hn hl;rw[Zqi,Zog,not_or] at hn;obtain⟨n1,n2,n3⟩:=List.nodup_append.1 hn.2;refine⟨?_,iha n1 fun rid hr=>?_,ihb n2 fun rid hr=>?_⟩
  . rw[hl _ (by simp)];simp only[Q6,if_true]
  . rw[hl rid (Zpk _ (List.mem_append_left _ hr))];obtain⟨x,hx⟩:=some_ a rid hr;simp only[Q6];rw[if_neg (by intro e;rw[e] at hn;exact hn.1.1 hr),hx]
  . rw[hl rid (Zpk _ (List.mem_append_right _ hr))];simp only[Q6];rw[if_neg (by intro e;rw[e] at hn;exact hn.1.2 hr),Ye rid a (fun h=>n3 rid h rid hr rfl)]
 |_=>intro _ _;trivial
theorem Qfy{rid:Nat}{x:Array Tmp×Code×Code}:∀(c:Code),Q6 rid c=some x->drawsC c=true->flatC c=true->drawsC x.2.1=true/\drawsC x.2.2=true/\Q9 x.2.1=[]/\Q9 x.2.2=[]:=by
 intro c
 induction c with
 |seq a b iha ihb|cond _ a b iha ihb=>
  intro h hd hf;simp only[drawsC,flatC,Zok] at hd hf;simp only[Q6] at h;split at h
  . rename_i y hy;cases h;exact iha hy hd.1 hf.1
  . exact ihb h hd.2 hf.2
 |block _ b ih|loop b ih|scope b ih=>intro h hd hf;exact ih h hd hf
 |rangeFunc g ps a b iha ihb=>
  intro h hd hf;simp only[drawsC,flatC,Zok,List.isEmpty_iff] at hd hf;simp only[Q6] at h;split at h
  . cases h;exact⟨hd.1,hd.2,hf.1,hf.2⟩
  . rw[Ye rid a (by rw[hf.1];simp),Ye rid b (by rw[hf.2];simp)] at h;cases h
 |_=>intro h;cases h
theorem Qb8(look:Nat->Option (Array Tmp×Code×Code))(c:Code)(h:Q9 c=[]):Jw look c:=Qc6 look c (by rw[h];exact List.nodup_nil) (fun rid hr=>by rw[h] at hr;cases hr)
theorem Qgs(ok:Okay P pol)(cs:Jm P C){g:Operand}{ps:Array Tmp}{as b:Code}(hl:Qt P fn (Zl as b)=some (ps,as,b)){t t' :List V}{H H' :Heap}{ex:Ex}{E0 E:Env}{a:Act}
 (h:Ze P pol C L fn fr (.rangeFunc g ps as b) t H=some (ex,t',H'))(X:Ext fr B E0 E)(htab:E0.tab=Qt P)(s:St B F fr N E H t a):
 (Code.rangeFunc g ps as b).wpIn (G none) dp P (Yj B F fr N E0 ex t' H') a E.w:=by
 simp only[Ze] at h;split at h
 case h_2=>cases h
 rename_i f first cap hg
 split at h
 case h_2=>cases h
 rename_i hn;split at h
 case h_2=>cases h
 rename_i v H2 hc;have hv:=s.ρ g;rw[hg] at hv;simp only[Rel] at hv;obtain⟨fs,cs',hge,h1,h2⟩:=hv;refine wpIn_rangeFunc fun fn' _=>?_;obtain⟨XD,SD⟩:=s.sim.newDfr;have tabD:E.newDfr.tab=Qt P:=XD.tab.trans (X.tab.trans htab);obtain⟨XL,SL⟩:=SD.newLoop s.lt hn {state:= .ready,pending:=none,fn:=fn',tmps:=a.tmps,params:=ps,assign:=as,body:=b,defers:=E.w.heap.size} fn (Zl as b) t rfl rfl (by rw[tabD];exact hl) (Qh.mono XD s.sim.lt _ _ s.rel);have hsz:E.newDfr.w.heap.size=E.w.heap.size+1:=by simp[Env.newDfr,Env.push]
 have hmu:((E.newDfr).newLoop fr (Zd (Zl as b)) {state:= .ready,pending:=none,fn:=fn',tmps:=a.tmps,params:=ps,assign:=as,body:=b,defers:=E.w.heap.size}).mu fr (Zd (Zl as b))=some (E.w.heap.size+1):=by simp only[Env.newLoop,Qs,hsz]
 have hw:((E.newDfr).newLoop fr (Zd (Zl as b)) {state:= .ready,pending:=none,fn:=fn',tmps:=a.tmps,params:=ps,assign:=as,body:=b,defers:=E.w.heap.size}).w=(E.w.alloc (Obj.deferred (some []))).alloc (.loop {state:= .ready,pending:=none,fn:=fn',tmps:=a.tmps,params:=ps,assign:=as,body:=b,defers:=E.w.heap.size}):=rfl;have hdD:((E.newDfr).newLoop fr (Zd (Zl as b)) {state:= .ready,pending:=none,fn:=fn',tmps:=a.tmps,params:=ps,assign:=as,body:=b,defers:=E.w.heap.size}).w.heap[E.w.heap.size]?=some (Obj.deferred (some [])):=
  XL.dfr _ (Yq E _ _)
 generalize hE2:(E.newDfr).newLoop fr (Zd (Zl as b)) {state:= .ready,pending:=none,fn:=fn',tmps:=a.tmps,params:=ps,assign:=as,body:=b,defers:=E.w.heap.size}=E2 at*;have X2:Ext H.length B E E2:=XD.trans XL;have tab2:E2.tab=Qt P:=X2.tab.trans (X.tab.trans htab);have hrel:Qh E2 (first++[.yield fr (Zd (Zl as b))]++cap) (fs++[.func (.yield (E.w.heap.size+1)) #[] #[]]++cs'):=by refine((Qh.mono X2 s.sim.lt _ _ h1).append (.cons ?_ .nil)).append (Qh.mono X2 s.sim.lt _ _ h2);simp only[Rel];exact⟨_,hmu,rfl⟩
 obtain⟨hbody,hall⟩:=cs.1 f _ _ _ _ hc;have hcall:=hall B F E2 _ SL tab2 hrel;obtain⟨Fn,cc,hF1,hF2⟩:=hbody;have hnum:=ok.num f Fn hF1 (by rw[hF2];rfl);refine⟨E.w.heap.size+1,[{target:= .collected E.w.heap.size,args:= #[]}],E2.w,{target:= .fn (.func f) ⟨cs'⟩,args:=⟨fs++[.func (.yield (E.w.heap.size+1)) #[] #[]]⟩},E2.w,f,⟨fs++[.func (.yield (E.w.heap.size+1)) #[] #[]]++cs'⟩,E2.w,?_,?_,fun _ _=>trivial,?_,Qde,?_⟩
 . rw[hw];exact run_enterLoop_outer _ _ _ _ _
 . have hcv:a.eval (.const (.func (.yield (E.w.heap.size+1)) #[] #[]))= .func (.yield (E.w.heap.size+1)) #[] #[]:=rfl;simp only[resolve,hge,Deferred.ofValue,Zrf,Zrg,Zre];simp[hcv]
 . have e1:((⟨fs++[.func (.yield (E.w.heap.size+1)) #[] #[]]⟩:Array Value)++(⟨cs'⟩:Array Value))=⟨fs++[.func (.yield (E.w.heap.size+1)) #[] #[]]++cs'⟩:=by simp
   simp only[invoke,e1,callFunc,Zrf,run_program,Zre,hF1,hnum,Zn5,if_false,hF2,Option.isNone_some,Zrg]
 . refine(callsIn_wide (n:=dp-1)).2 (hcall.mono ?_);rintro e w' ⟨E3,rfl,⟨c,rfl,hcr⟩,S3,X3,hl3⟩;have hlen2:fr<(hset H fr (Zd (Zl as b)) (.loop 0 none fn (Zl as b) t)).length:=by rw[Jo];exact s.lt
   have mu3:=X3.mu fr (Zd (Zl as b)) _ hlen2 hmu;unfold K0 at h;split at h
   case h_2=>cases h
   rename_i st pend fn2 rid2 t2 hg2;split at h
   . cases h
   rename_i hst;split at h
   . cases h
   rename_i hrf;split at h
   case isFalse=>cases h
   rename_i hclr;obtain⟨b3,r3,q1,q2,q3,q4,q5,q7,q8⟩:=S3.obj _ _ _ hg2;rw[mu3] at q1;cases q1;have hbusy:r3.state≠ .busy:=by
    rw[q4]
    match st,hst with
    |0,_=>simp[stL]
    |2,_=>simp[stL]
    |(n+3),_=>simp[stL]
   obtain⟨Xd,Sd⟩:=S3.drop (p:=Jd fr (Zd (Zl as b))) (H' :=H2.modify fr (Ju fun x=>[Zd (Zl as b)].contains x)) (k:=fr)
    (fun f s h=>by simp only[Jd,Zok,beq_iff_eq] at h;omega) (fun f s' =>Qfc H2 fr [Zd (Zl as b)] f s') (fun f s' o ho=>Qbv _ f s' o hclr ho)
   have hgd:=fun f s' =>Qfc H2 fr [Zd (Zl as b)] f s';have hld:(H2.modify fr (Ju fun x=>[Zd (Zl as b)].contains x)).length=H2.length:=by simp
   generalize hHd:H2.modify fr (Ju fun x=>[Zd (Zl as b)].contains x)=Hd at*;obtain⟨Xj,Sj⟩:=Sd.junkLoop (b:=E.w.heap.size+1) (r:=r3) q3 q2 (k:=fr) (fun f s' o ho hb=>by
    rw[hgd] at ho;split at ho
    . cases ho
    . rename_i hq;have hq' :Jd fr (Zd (Zl as b)) f s' =false:=by simpa using hq
      have hb3:blk E3 f s' o=some (E.w.heap.size+1):=by cases o<;>simp only[blk,E3.drop_mu hq',E3.drop_reg hq'] at hb⊢<;>exact hb
      have:=S3.inj f s' o fr (Zd (Zl as b)) _ _ ho hg2 hb3 mu3
      rw[Qcx.2 this] at hq';cases hq') {r3 with state:= .exhausted}
   have rel3:Qh E3 t a.tmps.toList:=Qh.mono X3 SL.lt _ _ (Qh.mono X2 s.sim.lt _ _ s.rel);have rel4:Qh ((E3.drop (Jd fr (Zd (Zl as b)))).put (E.w.heap.size+1) (.loop {r3 with state:= .exhausted})) t a.tmps.toList:=
    Qh.mono (Sd.junkLoop (b:=E.w.heap.size+1) (r:=r3) q3 q2 (k:=Hd.length) (fun f s' o ho hb=>by
     rw[hgd] at ho;split at ho
     . cases ho
     . rename_i hq;have hq' :Jd fr (Zd (Zl as b)) f s' =false:=by simpa using hq
       have hb3:blk E3 f s' o=some (E.w.heap.size+1):=by cases o<;>simp only[blk,E3.drop_mu hq',E3.drop_reg hq'] at hb⊢<;>exact hb
       have:=S3.inj f s' o fr (Zd (Zl as b)) _ _ ho hg2 hb3 mu3
       rw[Qcx.2 this] at hq';cases hq') {r3 with state:= .exhausted}).1 Sd.lt _ _ (Qh.strike _ _ (by simpa using hrf) rel3)
   have X4:Ext fr B E ((E3.drop (Jd fr (Zd (Zl as b)))).put (E.w.heap.size+1) (.loop {r3 with state:= .exhausted})):=
    (((X2.less (Zp6 s.lt) (Zn6 _)).trans (X3.less (Zp6 hlen2) (Zn6 _))).trans Xd).trans Xj
   have hfin:St B F fr N ((E3.drop (Jd fr (Zd (Zl as b)))).put (E.w.heap.size+1) (.loop {r3 with state:= .exhausted})) Hd t {a with defers:=[{target:= .collected E.w.heap.size,args:= #[]}]++a.defers}:=by
    refine⟨Sj,?_,rel4,?_,Zn7 s.nsz X4.size⟩
    . have:=hlen2;omega
    . obtain⟨rs,m1,m2,m3⟩:=s.defers;refine⟨E.w.heap.size::rs,by rw[m1];rfl,?_,?_⟩
      . rw[Zqi];refine⟨fun hm=>?_,m2⟩;have:=(Zoa.1 (m3 _ hm).2).1;omega
      . intro r hr;rcases Zph.1 hr with rfl|hr
        . exact⟨s.nsz,Xj.dfr _ (Xd.dfr _ (X3.dfr _ hdD))⟩
        . exact⟨(m3 r hr).1,X4.dfr r (m3 r hr).2⟩
   refine⟨Qt1 pend,((E3.drop (Jd fr (Zd (Zl as b)))).put (E.w.heap.size+1) (.loop {r3 with state:= .exhausted})).w,by rw[<-q5];exact run_endLoop q3 hbusy,?_⟩;cases pend with
   |none=>
    cases h;exact⟨_,rfl,X.trans X4,hfin,rfl⟩
   |some j=>
    cases j with
    |none=>
     cases h;exact wpIn_ret ⟨_,rfl,X.trans X4,hfin,rfl⟩
    |some i=>
     cases h;exact wpIn_exit ⟨_,rfl,X.trans X4,hfin,rfl⟩
theorem Qh0(ok:Okay P pol)(cs:Jm P C)(ls:Qa2 L):∀(c:Code),drawsC c=true->Jw (Qt P fn) c->(ro.isSome=true->Q9 c=[])->
 (∀(t:List V) (H:Heap) (ex:Ex) (t' :List V) (H' :Heap) (E0 E:Env) (a:Act),
   Ze P pol C L fn fr c t H=some (ex,t',H')->Ext fr B E0 E->E0.tab=Qt P->St B F fr N E H t a->c.wpIn (G ro) dp P (Yj B F fr N E0 ex t' H') a E.w)/\
 (∀(x:Operand) (l:List (V×Option (Nat×Nat×O))) (t:List V) (H:Heap) (E0 E:Env) (a:Act),Z0 c=some x->Y8 (Qd H) (rho t x)=some l->Ext fr B E0 E->E0.tab=Qt P->St B F fr N E H t a->
   ∃p∈l,∀(ex:Ex) (t' :List V) (H' :Heap),Je P pol C L fn fr c p.1 p.2 t H=some (ex,t',H')->c.wpIn (G ro) dp P (Yj B F fr N E0 ex t' H') a E.w):=by
 intro c
 induction c with
 |skip=>
  intro hd hlp hrd;refine⟨?_,?_⟩
  . intro t H ex t' H' E0 E a h X htab s;cases h;exact wpIn_skip ⟨E,rfl,X,s,rfl⟩
  . intro x l t H E0 E a h;cases h
 |region id ops draw=>
  intro hd hlp hrd;refine⟨?_,?_⟩
  . intro t H ex t' H' E0 E a h X htab s;simp only[Ze] at h;cases draw with
    |true=>
     simp only[if_true] at h;split at h
     case h_2=>cases h
     rename_i t1 H1 T hT;split at h
     case isFalse=>cases h
     rename_i hok;cases h;exact Qjj ok cs (by simpa [drawsC] using hd) hT hok X htab s
    |false=>
     simp only[Zn5,if_false] at h;refine wpIn_region ?_;have:=Yt (fn:=fn) (ro:=ro) (dp:=dp) ok cs ops.toList [] t H ex t' H' E a (by simp) h X htab s;simpa [Zp1] using this
  . intro x l t H E0 E a hn hc X htab s;cases draw with
    |true=>cases hn
    |false=>
     simp only[Z0] at hn;cases hops:ops.toList with
     |nil=>rw[hops] at hn;cases hn
     |cons o r=>
      rw[hops] at hn;simp only at hn;split at hn
      case h_2=>cases hn
      rename_i y hg hop;cases hn;obtain⟨p,hp,E',cv,X',s',hwp⟩:=Qvx (P:=P) s hop hc;refine⟨p,hp,fun ex t' H' h=>?_⟩;simp only[Je,hops] at h;refine wpIn_region ?_;have h0:ops[0]?=some o:=by
       have:ops.toList[0]?=some o:=by rw[hops];rfl
       simpa using this
      have hsz:ops.size=r.length+1:=by
       have:ops.toList.length=r.length+1:=by rw[hops];rfl
       simpa using this
      have hrun:=Yt (fn:=fn) (ro:=ro) (dp:=dp) (E0:=E0) ok cs r [o] _ _ ex t' H' E' _ (by rw[hops];rfl) h (X.trans X') htab s';have hrange:List.range ops.size=0::List.range' 1 r.length:=by rw[hsz,Zp1,Zp2]
      rw[hrange];simp only[wpOpsIn,h0];have hw:Region.wanted o (yielded ops a.tmps)=true:=by simp[Region.wanted,hg]
      rw[if_pos hw];exact hwp _ _ (by simpa using hrun)
 |seq x y ihx ihy=>
  intro hd hlp hrd;refine⟨?_,?_⟩
  . intro t H ex t' H' E0 E a h X htab s;simp only[drawsC,Zok] at hd;simp only[Ze] at h;refine wpIn_seq ?_;split at h
    . rename_i t1 H1 hx;refine wpIn_mono ((ihx hd.1 hlp.1 fun q=>(Zqj.1 (hrd q)).1).1 _ _ _ _ _ E0 E a hx X htab s) ?_;rintro e a' w' ⟨E',rfl,X',s',hr⟩;simp only[J5] at hr;subst hr;exact(ihy hd.2 hlp.2 fun q=>(Zqj.1 (hrd q)).2).1 t1 H1 ex t' H' E0 E' a' h X' htab s'
    . rename_i r hne;refine wpIn_mono ((ihx hd.1 hlp.1 fun q=>(Zqj.1 (hrd q)).1).1 _ _ _ _ _ E0 E a h X htab s) (Yj.through ?_ (fun _ _ _ h=>h));intro e;subst e;exact hne _ _ h
  . intro v l t H E0 E a hn hc X htab s;simp only[drawsC,Zok] at hd;simp only[Z0] at hn;obtain⟨p,hp,hwp⟩:=(ihx hd.1 hlp.1 fun q=>(Zqj.1 (hrd q)).1).2 v l t H E0 E a hn hc X htab s;refine⟨p,hp,fun ex t' H' h=>?_⟩;simp only[Je] at h;refine wpIn_seq ?_;split at h
    . rename_i t1 H1 hx;refine wpIn_mono (hwp _ _ _ hx) ?_;rintro e a' w' ⟨E',rfl,X',s',hr⟩;simp only[J5] at hr;subst hr;exact(ihy hd.2 hlp.2 fun q=>(Zqj.1 (hrd q)).2).1 t1 H1 ex t' H' E0 E' a' h X' htab s'
    . rename_i r hne;refine wpIn_mono (hwp _ _ _ h) (Yj.through ?_ (fun _ _ _ h=>h));intro e;subst e;exact hne _ _ h
 |cond c x y ihx ihy=>
  intro hd hlp hrd;refine⟨?_,?_⟩
  . intro t H ex t' H' E0 E a h X htab s;simp only[drawsC,Zok] at hd;simp only[Ze] at h;split at h
    case h_2=>cases h
    rename_i b hb;have hc:=s.ρ c;rw[hb] at hc;simp only[Rel] at hc;refine wpIn_cond hc ?_;cases b with
    |true=>simp only[if_true] at h⊢;exact(ihx hd.1 hlp.1 fun q=>(Zqj.1 (hrd q)).1).1 _ _ _ _ _ E0 E a h X htab s
    |false=>simp only[Zn5,if_false] at h⊢;exact(ihy hd.2 hlp.2 fun q=>(Zqj.1 (hrd q)).2).1 _ _ _ _ _ E0 E a h X htab s
  . intro x l t H E0 E a h;cases h
 |block id b ih=>
  intro hd hlp hrd;refine⟨?_,?_⟩
  . intro t H ex t' H' E0 E a h X htab s;simp only[drawsC,Zok] at hd;simp only[Ze] at h;refine wpIn_block ?_;split at h
    . rename_i i t1 H1 hb;refine wpIn_mono ((ih hd hlp hrd).1 _ _ _ _ _ E0 E a hb X htab s) ?_;rintro e a' w' ⟨E',rfl,X',s',hr⟩;simp only[J5] at hr;subst hr;simp only[Exit.inBlock];split at h
      . rename_i hi;cases h;rw[if_pos hi];exact⟨E',rfl,X',s',rfl⟩
      . rename_i hi;cases h;rw[if_neg hi];exact⟨E',rfl,X',s',rfl⟩
    . rename_i r hne;refine wpIn_mono ((ih hd hlp hrd).1 _ _ _ _ _ E0 E a h X htab s) ?_;intro e a' w' hx;have hx' :=hx;obtain⟨E',rfl,X',s',hr⟩:=hx';cases ex with
      |normal=>simp only[J5] at hr;subst hr;exact hx
      |exit i=>exact absurd h (by intro h';exact hne _ _ _ h')
      |ret=>simp only[J5] at hr;subst hr;exact hx
      |panic v=>obtain⟨c,rfl,_⟩:=hr;exact hx
  . intro x l t H E0 E a h;cases h
 |loop b ih=>
  intro hd hlp hrd;refine⟨?_,?_⟩
  . intro t H ex t' H' E0 E a h X htab s;simp only[drawsC] at hd;simp only[Ze] at h;obtain⟨N1,h⟩:=ls _ _ _ _ h;refine Qmp (Qjy (dp:=dp) ?_ N1 t H ex t' H' E0 E a h X htab s);intro t H E0 E a X htab s;cases hf:forget pol fn fr (Zt b) t H with
    |none=>exact⟨none,by simp,fun _ _ _ h=>by cases h⟩
    |some y=>
     obtain⟨t1,H1⟩:=y;obtain⟨E1,hw,X1,S1,hr,hl⟩:=s.sim.forget hf s.rel;have s1:St B F fr N E1 H1 t1 a:=⟨S1,by rw[hl];exact s.lt,hr,hw▸s.defers,hw▸s.nsz⟩;simp only;cases hn:Z0 b with
     |none=>
      refine⟨_,Zoh.2 rfl,fun ex t' H' h=>?_⟩;have:=(ih hd hlp hrd).1 t1 H1 ex t' H' E0 E1 a h (X.trans X1) htab s1;rwa[hw] at this
     |some x=>
      simp only;cases hc:Y8 (Qd H1) (rho t1 x) with
      |none=>exact⟨none,by simp,fun _ _ _ h=>by cases h⟩
      |some l=>
       obtain⟨p,hp,hwp⟩:=(ih hd hlp hrd).2 x l t1 H1 E0 E1 a hn hc (X.trans X1) htab s1;refine⟨_,Zpc.2 ⟨p,hp,rfl⟩,fun ex t' H' h=>?_⟩;have:=hwp ex t' H' h;rwa[hw] at this
  . intro x l t H E0 E a h;cases h
 |rangeFunc g ps as b iha ihb=>
  intro hd hlp hrd;refine⟨?_,?_⟩
  . intro t H ex t' H' E0 E a h X htab s;cases ro with
    |some l=>exact absurd (hrd rfl) (by simp[Q9])
    |none=>exact Qgs ok cs hlp.1 h X htab s
  . intro x l t H E0 E a h;cases h
 |exit id=>
  intro hd hlp hrd;refine⟨?_,?_⟩
  . intro t H ex t' H' E0 E a h X htab s;cases h;exact wpIn_exit ⟨E,rfl,X,s,rfl⟩
  . intro x l t H E0 E a h;cases h
 |scope b ih=>
  intro hd hlp hrd;refine⟨?_,?_⟩
  . intro t H ex t' H' E0 E a h X htab s;cases h
  . intro x l t H E0 E a h;cases h
 |label l=>
  intro hd hlp hrd;refine⟨?_,?_⟩
  . intro t H ex t' H' E0 E a h X htab s;cases h
  . intro x l t H E0 E a h;cases h
 |goto l=>
  intro hd hlp hrd;refine⟨?_,?_⟩
  . intro t H ex t' H' E0 E a h X htab s;cases h
  . intro x l t H E0 E a h;cases h
 |ret=>
  intro hd hlp hrd;refine⟨?_,?_⟩
  . intro t H ex t' H' E0 E a h X htab s;cases h;exact wpIn_ret ⟨E,rfl,X,s,rfl⟩
  . intro x l t H E0 E a h;cases h
 |refuse why=>
  intro hd hlp hrd;refine⟨?_,?_⟩
  . intro t H ex t' H' E0 E a h X htab s;cases h
  . intro x l t H E0 E a h;cases h
theorem Jz(ok:Okay P pol)(cs:Jm P C)(ls:Qa2 L)(c:Code)(hd:drawsC c=true)(hlp:Jw (Qt P fn) c)(hrd:ro.isSome=true->Q9 c=[])(t:List V)(H:Heap)(ex:Ex)(t' :List V)(H' :Heap)(E0 E:Env)(a:Act)
 (h:Ze P pol C L fn fr c t H=some (ex,t',H'))(X:Ext fr B E0 E)(htab:E0.tab=Qt P)(s:St B F fr N E H t a):c.wpIn (G ro) dp P (Yj B F fr N E0 ex t' H') a E.w:=
 (Qh0 ok cs ls c hd hlp hrd).1 t H ex t' H' E0 E a h X htab s
theorem Qgg{E:Env}{H:Heap}{t:List V}{a:Act}(s:St B F fr N E H t a){r:ResultVar}{v:V}(h:Qak P t H r=some v):
 ∃c,(match r with
  | .tmp i=>(Pure.pure (a.tmps.getD i undef):Sem Value)
  | .cell i T=>(do loadVar T (<-asAddr (a.tmps.getD i undef)):Sem Value)).run P E.w= .ok c E.w/\Rel E v c:=by
 cases r with
 |tmp i=>
  simp only[Qak,Zrd] at h;subst h;exact⟨_,rfl,s.ρ (.tmp i)⟩
 |cell i T=>
  simp only[Qak] at h;split at h
  case h_2=>cases h
  rename_i f sl o hp;split at h
  case h_2=>cases h
  rename_i xs hg;have hr:=s.ρ (.tmp i);simp only[rho,Act.eval] at hr;rw[hp] at hr;simp only[Rel] at hr;obtain⟨b,hb,he⟩:=hr;obtain⟨b2,cc,T2,vs,rest,q1,_,_,_,q5,_,_,q8⟩:=s.sim.lies hg;rw[hb] at q1;cases q1;obtain⟨c,h1,h2⟩:=Qbb (w:=E.w) h q5 q8;rw[Zod] at h1;refine⟨c,?_,h2⟩;simp only[he,asAddr,Zrf,Zrg,Zre,h1]
theorem Qaj{E:Env}{H:Heap}{t:List V}{a:Act}(s:St B F fr N E H t a):∀(rs:List ResultVar) (vs:List V),Qha P t H rs=some vs->
 ∃cs,(rs.mapM (m:=Sem) fun r=>(match r with
  | .tmp i=>(Pure.pure (a.tmps.getD i undef):Sem Value)
  | .cell i T=>(do loadVar T (<-asAddr (a.tmps.getD i undef)):Sem Value))).run P E.w= .ok cs E.w/\Qh E vs cs
 |[],vs,h=>by cases h;exact⟨[],rfl,.nil⟩
 |r::rs,vs,h=>by
  simp only[Qha] at h;split at h
  . rename_i v vs' h1 h2;cases h;obtain⟨c,g1,g2⟩:=Qgg s h1;obtain⟨cs,g3,g4⟩:=Qaj s rs vs' h2;exact⟨c::cs,by simp only[List.mapM_cons,Zrf,g1,Zre,g3,Zrg],.cons g2 g4⟩
  . cases h
theorem Qdb{E:Env}{H:Heap}{t:List V}{a:Act}(s:St B F fr N E H t a){f:Func}{v:V}(h:Qcb P f t H=some v):
 ∃c,(results f a.tmps).run P E.w= .ok c E.w/\Rel E v c:=by
 unfold Qcb at h;split at h
 . rename_i v' hl;cases h;obtain⟨cs,h1,h2⟩:=Qaj s _ _ hl;obtain⟨c,r,rfl,hc,hr⟩:=Qh.cons_iff.1 h2;rw[Qh.nil_iff] at hr;subst hr;refine⟨c,?_,hc⟩;simp only[results,Zrf];rw[Zqk];simp only[Sem.run_map];exact(congrArg (fun r:Result (List Value)=>(r.andThen fun a w' =>Result.ok a.toArray w').andThen fun a w' =>Sem.run P (Pure.pure (if h:a.size=1 then a[0] else Value.tuple a)) w') h1).trans rfl
 . rename_i vs hne hl;cases h;obtain⟨cs,h1,h2⟩:=Qaj s _ _ hl;refine⟨.tuple ⟨cs⟩,?_,by simp only[Rel];exact⟨cs,rfl,h2⟩⟩;simp only[results,Zrf];rw[Zqk];simp only[Sem.run_map];refine(congrArg (fun r:Result (List Value)=>(r.andThen fun a w' =>Result.ok a.toArray w').andThen fun a w' =>Sem.run P (Pure.pure (if h:a.size=1 then a[0] else Value.tuple a)) w') h1).trans ?_;have hlen:=h2.length;have:¬((⟨cs⟩:Array Value).size=1):=by
    intro e;have e1:vs.length=1:=by rw[hlen];exact e
    obtain⟨x,rfl⟩:=List.length_eq_one_iff.1 e1;exact hne x rfl
   simp only[Zre,this,dif_neg,not_false_eq_true,Zrg]
 . cases h
theorem Okay.loopsIn(ok:Okay P pol){f:FuncId}{Fn:Func}{c:Code}(hF:P.funcs[f]?=some Fn)(hc:Fn.body=some c):Jw (Qt P f) c:=
 Qc6 _ c (ok.loops f Fn c hF hc).1 fun rid _=>by simp only[Qt,hF,hc]
theorem Qhn(ok:Okay P pol)(cs:Jm P C)(ls:Qa2 L)(f:FuncId)(args:List V)(H:Heap)(r:Rt)(H' :Heap)(h:Qbk P pol C L f args H=some (r,H')):(∃(F:Func) (c:Code),P.funcs[f]?=some F/\F.body=some c)/\
 ∀B F E cargs,Sim B F H E->E.tab=Qt P->Qh E args cargs->Calls P f ⟨cargs⟩ E.w (Answer B F H E r H'):=by
 unfold Qbk at h;split at h
 case h_2=>cases h
 rename_i Fn hFn;split at h
 case h_2=>cases h
 rename_i c hc;refine⟨⟨Fn,c,hFn,hc⟩,?_⟩;intro B F E cargs S htab hr;have hl:=hr.length;have s:St B F H.length E.w.heap.size E (H++[[]]) (args++List.replicate (Fn.ntmps-args.length) .bad) {tmps:=(⟨cargs⟩:Array Value)++Array.replicate (Fn.ntmps-(⟨cargs⟩:Array Value).size) undef,defers:=[]}:=by
  refine⟨S.push,by simp,?_,Bw.nil,Zn6 _⟩;have:((⟨cargs⟩:Array Value)++Array.replicate (Fn.ntmps-(⟨cargs⟩:Array Value).size) undef).toList=cargs++List.replicate (Fn.ntmps-args.length) undef:=by simp[hl]
  rw[this];exact hr.append (Qh.replicate _ (by simp[Rel]))
 refine(callsIn_wide (n:=0)).1 (callsIn_of_wp_marks (F:=Fence.wide) hFn hc trivial ?_);have plain:∀(ex:Ex) (t:List V) (H1:Heap) (v:V),(ex= .normal\/ex= .ret)->Qea (pol.settle f) (Ze P pol C L f H.length c (args++List.replicate (Fn.ntmps-args.length) .bad) (H++[[]]))=some (ex,t,H1)->
  Qcb P Fn t H1=some v->c.wpIn Fence.wide 0 P (bodyPostM Fence.wide 0 P Fn (Answer B F H E (.ret v) (Yk H.length v H1))) {tmps:=(⟨cargs⟩:Array Value)++Array.replicate (Fn.ntmps-(⟨cargs⟩:Array Value).size) undef,defers:=[]} E.w:=by
  intro ex t H1 v hex hset hres;have hsplit:∃H0,Ze P pol C L f H.length c (args++List.replicate (Fn.ntmps-args.length) .bad) (H++[[]])=some (ex,t,H0)/\Qb0 (pol.settle f) t H0=some H1:=by
   cases hx:Ze P pol C L f H.length c (args++List.replicate (Fn.ntmps-args.length) .bad) (H++[[]]) with
   |none=>rw[hx] at hset;cases hset
   |some y=>
    obtain⟨e,t0,H0⟩:=y;rw[hx] at hset;cases e with
    |normal=>
     simp only[Qea] at hset;cases hl:Qb0 (pol.settle f) t0 H0 with
     |none=>rw[hl] at hset;cases hset
     |some H2=>rw[hl] at hset;cases hset;exact⟨H0,rfl,hl⟩
    |ret=>
     simp only[Qea] at hset;cases hl:Qb0 (pol.settle f) t0 H0 with
     |none=>rw[hl] at hset;cases hset
     |some H2=>rw[hl] at hset;cases hset;exact⟨H0,rfl,hl⟩
    |exit i=>cases hset;rcases hex with h|h<;>cases h
    |panic v=>cases hset;rcases hex with h|h<;>cases h
  obtain⟨H0,hrun,hset'⟩:=hsplit;refine wpIn_mono (Jz (ro:=none) (dp:=0) ok cs ls c (ok.draws f Fn c hFn hc) (ok.loopsIn hFn hc) (fun q=>by cases q) _ _ _ _ _ E E _ hrun (Ext.refl _ _ _) htab s) ?_;rintro e a' w' ⟨E',rfl,X',s',he⟩;obtain⟨E1,hw1,X1,s1⟩:=Qi8 s' hset';obtain⟨rs,m1,m2,m3⟩:=s1.defers;have hleave:LeavesInM Fence.wide 0 P Fn a'.tmps (Answer B F H E (.ret v) (Yk H.length v H1)) a'.defers .returning E'.w:=by rw[m1,<-hw1];refine Qbd (B:=B) (F:=F) (H:=H1) (E:=E1) (N:=E.w.heap.size) (E0:=E) (t:=t) (k:=H.length) (fun q=>by cases q) S.bsz (Zn6 _) ?_ rs E1 (X'.trans X1) s1.sim s1.rel (fun _ _ h=>h) m2 m3;intro E3 X3 S3 r3 hx3;have s3:St B F H.length E.w.heap.size E3 H1 t {a' with defers:=[]}:=⟨S3,s1.lt,r3,Bw.nil,X3.size⟩;obtain⟨cv,h1,h2⟩:=Qdb s3 hres;obtain⟨E2,hw,X2,S2,hr2⟩:=S3.pop H.length v cv h2;exact⟨cv,h1,E2,hw,⟨cv,rfl,hr2⟩,S2,X3.trans X2,Qg9 _ _ _ (Zp6 s1.lt)⟩
  rcases hex with rfl|rfl
  . simp only[J5] at he;subst he;exact hleave
  . simp only[J5] at he;subst he;exact hleave
 split at h
 . rename_i t H1 hex;split at h
   case h_2=>cases h
   rename_i v hv;cases h;exact plain _ t H1 v (.inl rfl) hex hv
 . rename_i t H1 hex;split at h
   case h_2=>cases h
   rename_i v hv;cases h;exact plain _ t H1 v (.inr rfl) hex hv
 . rename_i v t H1 hex;cases h;have hrun:Ze P pol C L f H.length c (args++List.replicate (Fn.ntmps-args.length) .bad) (H++[[]])=some (.panic v,t,H1):=by
    cases hx:Ze P pol C L f H.length c (args++List.replicate (Fn.ntmps-args.length) .bad) (H++[[]]) with
    |none=>rw[hx] at hex;cases hex
    |some y=>
     obtain⟨e,t0,H0⟩:=y;rw[hx] at hex;cases e with
     |normal=>simp only[Qea] at hex;cases hl:Qb0 (pol.settle f) t0 H0<;>(rw[hl] at hex;cases hex)
     |ret=>simp only[Qea] at hex;cases hl:Qb0 (pol.settle f) t0 H0<;>(rw[hl] at hex;cases hex)
     |exit i=>cases hex
     |panic v=>exact hex
   refine wpIn_mono (Jz (ro:=none) (dp:=0) ok cs ls c (ok.draws f Fn c hFn hc) (ok.loopsIn hFn hc) (fun q=>by cases q) _ _ _ _ _ E E _ hrun (Ext.refl _ _ _) htab s) ?_;rintro e a' w' ⟨E',rfl,X',s',cv,rfl,hcv⟩;obtain⟨rs,m1,m2,m3⟩:=s'.defers;show LeavesInM Fence.wide 0 P Fn a'.tmps _ a'.defers (.panicking _) E'.w;rw[m1];refine Qbd (B:=B) (F:=F) (H:=H1) (E:=E') (N:=E.w.heap.size) (E0:=E) (t:=t) (k:=H.length) (by simp) S.bsz (Zn6 _) ?_ rs E' X' s'.sim s'.rel (fun _ _ h=>h) m2 m3;intro E3 X3 S3 r3 hx3;obtain⟨E2,hw,X2,S2,hr2⟩:=S3.pop H.length v cv (hx3 _ _ hcv);exact⟨E2,hw,⟨cv,rfl,hr2⟩,S2,X3.trans X2,Qg9 _ _ _ (Zp6 s'.lt)⟩
 . cases h
theorem Qch{E:Env}:∀(ps:List Tmp) (args:List V) (cargs:List Value) (t:List V) (vs:Array Value),args.length=ps.length->Qh E args cargs->Qh E t vs.toList->
 Qh E (Bt t (ps.zip args)) ((ps.zip cargs).foldl (fun(tmps:Array Value) (p:Tmp×Value)=>tmps.setIfInBounds p.1 p.2) vs).toList
 |[],_,_,_,_,_,_,h=>by simpa [Bt] using h
 |p::ps,[],_,_,_,hl,_,_=>by simp at hl
 |p::ps,x::args,cargs,t,vs,hl,hr,h=>by
  obtain⟨v,r,rfl,h1,h2⟩:=Qh.cons_iff.1 hr;simp only[List.zip_cons_cons,Bt,Zpq];refine Qch ps args r _ _ (by simpa using hl) h2 ?_;have:=h.set p h1;simpa using this
theorem Qg7(ok:Okay P pol)(cs:Jm P C)(ls:Qa2 L)(fo so:Nat)(rest:List V)(H:Heap)(r:Rt)(H' :Heap)(h:Qay P pol C L fo so rest H=some (r,H')):
 ∀B F E b cargs (n:Nat),Sim B F H E->E.tab=Qt P->E.mu fo so=some b->Qh E rest cargs->
 ∃rec:Loop,E.w.heap[b]?=some (.loop rec)/\cargs.length=rec.params.size/\
  RoundIn Fence.wide n P b rec.fn ((rec.params.zip (⟨cargs⟩:Array Value)).foldl (fun tmps (t,a)=>tmps.setIfInBounds t a) rec.tmps) rec.assign rec.body E.w (Answer B F H E r H'):=by
 intro B F E b cargs n S htab hb hr;unfold Qay at h;split at h
 case h_2=>cases h
 rename_i pend fL rid t0 hg;split at h
 case h_2=>cases h
 rename_i ps as bd hla;split at h
 case isFalse=>cases h
 rename_i hlen;obtain⟨b',r0,q1,q2,q3,q4,q5,q7,q8⟩:=S.obj _ _ _ hg;rw[hb] at q1;cases q1;rw[htab,hla] at q7;simp only[Zrd,Prod.mk.injEq] at q7;obtain⟨rfl,rfl,rfl⟩:=q7;refine⟨r0,q3,by rw[<-hr.length];exact hlen,?_⟩;split at h
 case h_2=>cases h
 rename_i t1 H1 hx1;split at h
 case h_2=>cases h
 rename_i pend1 fL1 rid1 t01 hg1;split at h
 case h_2=>cases h
 rename_i e2 t2 H2 hx2;obtain⟨Fn,c,hF,hc,hfl⟩:∃Fn c,P.funcs[fL]?=some Fn/\Fn.body=some c/\Q6 rid c=some (r0.params,r0.assign,r0.body):=by
  unfold Qt at hla;split at hla
  case h_2=>cases hla
  rename_i Fn hF;split at hla
  case h_2=>cases hla
  rename_i c hc;exact⟨Fn,c,hF,hc,hla⟩
 obtain⟨d1,d2,e1,e3⟩:=Qfy c hfl (ok.draws fL Fn c hF hc) (ok.loops fL Fn c hF hc).2;have hfo:fo<H.length:=Ys hg;refine roundIn_of_wpIn (F:=Fence.wide) trivial ?_;have s0:St B F H.length E.w.heap.size E (H++[[]]) (Bt t0 (r0.params.toList.zip rest)) {tmps:=(r0.params.zip (⟨cargs⟩:Array Value)).foldl (fun tmps (t,a)=>tmps.setIfInBounds t a) r0.tmps,defers:=[]}:=by
  refine⟨S.push,by simp,?_,Bw.nil,Zn6 _⟩;have:=Qch r0.params.toList rest cargs t0 r0.tmps (by simpa using hlen) hr q8;have e:(r0.params.zip (⟨cargs⟩:Array Value)).foldl (fun tmps (t,a)=>tmps.setIfInBounds t a) r0.tmps=(r0.params.toList.zip cargs).foldl (fun(tmps:Array Value) (p:Tmp×Value)=>tmps.setIfInBounds p.1 p.2) r0.tmps:=by rw[<-Zps,Array.toList_zip]
  rw[e];exact this
 refine wpIn_mono (Jz (ro:=some b) (dp:=n) ok cs ls r0.assign d1 (Qb8 _ _ e1) (fun _=>e1) _ _ _ _ _ E E _ hx1 (Ext.refl _ _ _) htab s0) ?_;rintro ee a1 w1 ⟨E1,rfl,X1,s1,he⟩;simp only[J5] at he;subst he;obtain⟨b1,r1,g1,g2,g3,g4,g5,g7,g8⟩:=s1.sim.obj _ _ _ hg1;have mu1:=X1.mu fo so b hfo hb;rw[mu1] at g1;cases g1;obtain⟨Xb,Sb⟩:=s1.sim.setLoop hg1 mu1 g3 {r1 with state:= .busy} 1 pend1 rfl g5 ⟨rfl,rfl,rfl,rfl⟩;refine⟨_,run_beginRound g3 g4,?_⟩;have tab1:E1.tab=Qt P:=X1.tab.trans htab;have s2:St B F H.length E.w.heap.size (E1.put b (.loop {r1 with state:= .busy})) (hset H1 fo so (.loop 1 pend1 fL1 rid1 t01)) t1 a1:=by refine⟨Sb,by rw[Jo];exact s1.lt,Qh.mono Xb s1.sim.lt _ _ s1.rel,s1.defers.on Xb,Zn7 s1.nsz Xb.size⟩
 have X2:Ext H.length B E (E1.put b (.loop {r1 with state:= .busy})):=X1.trans (Xb.less (Zp6 s1.lt) (Zn6 _));refine wpIn_mono (Jz (ro:=some b) (dp:=n) ok cs ls r0.body d2 (Qb8 _ _ e3) (fun _=>e3) _ _ _ _ _ E _ _ hx2 X2 htab s2) ?_;rintro ee a3 w3 ⟨E3,rfl,X3,s3,he⟩;unfold Bn at h;split at h
 case h_2=>cases h
 rename_i st3 pend3 fL3 rid3 t03 hg3;obtain⟨b3,r3,k1,k2,k3,k4,k5,k7,k8⟩:=s3.sim.obj _ _ _ hg3;have mu3:=X3.mu fo so b hfo hb;rw[mu3] at k1;cases k1;have fin:∀(jump:Option Code) (st' :Nat) (pend' :Option (Option Nat)) (v:Bool),jump=Qt1 pend' ->stL st' =(if jump.isNone then LoopState.ready else .done)->v=jump.isNone->
  ∃vv w',(Instr.endRound b jump).run P E3.w= .ok vv w' /\Answer B F H E (.ret (.bool v)) (Yk H.length (.bool v) (hset H2 fo so (.loop st' pend' fL3 rid3 t03))) (.returned vv) w' :=by
  intro jump st' pend' v hj hs hv;obtain⟨Xe,Se⟩:=s3.sim.setLoop hg3 mu3 k3 {r3 with state:=if jump.isNone then LoopState.ready else .done,pending:=jump} st' pend' hs.symm hj ⟨rfl,rfl,rfl,rfl⟩;obtain⟨E5,hw5,X5,S5,hr5⟩:=Se.pop H.length (.bool v) (.bool v) (by simp[Rel]);refine⟨_,_,run_endRound jump k3,E5,hw5,⟨.bool v,by rw[hv],hr5⟩,S5,(X3.trans (Xe.less (Zp6 s3.lt) (Zn6 _))).trans X5,Qg9 _ _ _ (by rw[Jo];exact Zp6 s3.lt)⟩
 cases e2 with
 |normal=>
  cases h;simp only[J5] at he;subst he;exact fin none 0 none true rfl rfl rfl
 |ret=>
  cases h;simp only[J5] at he;subst he;exact fin (some .ret) 2 (some none) false rfl rfl rfl
 |exit i=>
  cases h;simp only[J5] at he;subst he;exact fin (some (.exit i)) 2 (some (some i)) false rfl rfl rfl
 |panic v=>cases h
theorem Qhh(ok:Okay P pol)(cs:Jm P C)(ls:Qa2 L):Jm P (Qdt P pol C L):=
 ⟨fun f args H r H' h=>Qhn ok cs ls f args H r H' h,fun fo so rest H r H' h=>Qg7 ok cs ls fo so rest H r H' h⟩
theorem Qap(ok:Okay P pol):∀n,Jm P (Yh P pol n)
 |0=>⟨fun _ _ _ _ _ h=>(by cases h),fun _ _ _ _ _ _ h=>(by cases h)⟩
 |n+1=>Qhh ok (Qap ok n) (fun _ _ _ _ h=>⟨n,h⟩)
end
def BLe(b b' :Kz):Prop:=∀t H r,b t H=some r->b' t H=some r
def CLe(C C' :Call):Prop:=∀f a H r,C f a H=some r->C' f a H=some r
inductive Qu0{α β:Type}(R:α->β->Prop):List α->List β->Prop where
 |nil:Qu0 R [] []
 |cons {x y l m}:R x y->Qu0 R l m->Qu0 R (x::l) (y::m)
def OLe(x y:Out):Prop:=∀r,x=some r->y=some r
def MLe(b b' :Kg):Prop:=∀t H,Qu0 OLe (b t H) (b' t H)
def LLe(L L' :Kg->Kz):Prop:=∀b b',MLe b b' ->BLe (L b) (L' b')
theorem OLe.refl(x:Out):OLe x x:=fun _ h=>h
theorem MLe.refl(b:Kg):MLe b b:=fun t H=>by
 induction b t H with
 |nil=>exact .nil
 |cons x l ih=>exact .cons (OLe.refl x) ih
theorem Q0z{l l' :List Out}(h:Qu0 OLe l l'):∀y∈l',∃x∈l,OLe x y:=by
 induction h with
 |nil=>intro y hy;cases hy
 |cons h1 _ ih=>
  intro y hy;rcases Zph.1 hy with rfl|hy
  . exact⟨_,Zpj,h1⟩
  . obtain⟨x,hx,hxy⟩:=ih y hy;exact⟨x,Zpk _ hx,hxy⟩
theorem Qqo{l l' :List Out}(h:Qu0 OLe l l'):OLe (Qdw l) (Qdw l'):=by
 intro r hr;obtain⟨hne,hall⟩:=Qly.1 hr;refine Qe1 ?_ fun y hy=>?_
 . rintro rfl;cases h;exact hne rfl
 . obtain⟨x,hx,hxy⟩:=Q0z h y hy;exact hxy _ (hall x hx)
theorem Qph{k k' :List V->Heap->Out}(hk:∀t H,OLe (k t H) (k' t H)){x y:Out}(h:OLe x y):OLe (after k x) (after k' y):=by
 intro r hr;unfold after at hr;split at hr
 . rename_i t H;rw[h _ rfl];exact hk t H r hr
 . rename_i hne;have hy:=h r hr;subst hr hy;unfold after;split
   . exact(hne _ _ (by assumption)).elim
   . rfl
theorem Qq7{f g:Out->Out}{l l' :List Out}(hf:∀x y,OLe x y->OLe (f x) (g y))(h:Qu0 OLe l l'):Qu0 OLe (l.map f) (l'.map g):=by
 induction h with
 |nil=>exact .nil
 |cons h1 _ ih=>exact .cons (hf _ _ h1) ih
theorem Qwx{α:Type}{f g:α->Out}{l:List α}(hf:∀x,OLe (f x) (g x)):Qu0 OLe (l.map f) (l.map g):=by
 induction l with
 |nil=>exact .nil
 |cons x l ih=>exact .cons (hf x) ih
theorem most{α:Type}{l:List α}{p:α->Nat->Prop}(h:∀x∈l,∃n,∀m,n<=m->p x m):∃n,∀m,n<=m->∀x∈l,p x m:=by
 induction l with
 |nil=>exact⟨0,fun _ _ _ h=>by cases h⟩
 |cons a l ih=>
  obtain⟨n,hn⟩:=h a Zpj;obtain⟨k,hk⟩:=ih fun x hx=>h x (Zpk _ hx);refine⟨max n k,fun m hm x hx=>?_⟩;rcases Zph.1 hx with rfl|hx
  . exact hn m (by omega)
  . exact hk m (by omega) x hx
section
variable {P : Program} {pol : Pol} {C C' : Call} {L L' : Kg -> Kz} {fn fr : Nat}
theorem Qd9(hC:CLe C C'){dst:Option Nat}{f:FuncId}{args:List V}{H:Heap}{r:Rt×Heap}(h:callOp pol C fn fr dst f args H=some r):callOp pol C' fn fr dst f args H=some r:=by
 unfold callOp at h⊢;split
 . rename_i g hg;rw[hg] at h;exact h
 . rename_i hg;rw[hg] at h;simp only at h;split
   . rename_i hp;rw[if_pos hp] at h;split
     . rename_i ys hys;rw[hys] at h;simp only at h;cases hc:C f ys [] with
       |none=>rw[hc] at h;cases h
       |some x=>rw[hc] at h;rw[hC _ _ _ _ hc];exact h
     . rename_i hys;rw[hys] at h;exact h
   . rename_i hp;rw[if_neg hp] at h;by_cases hl:pol.lift fn f=true
     . rw[if_pos hl] at h⊢;cases hys:Q5 (frz (fun _ _=>none) depth) args with
       |none=>rw[hys] at h;cases h
       |some ys=>
        rw[hys] at h;simp only at h⊢;cases hc:C f ys [] with
        |none=>rw[hc] at h;cases h
        |some x=>rw[hc] at h;rw[hC _ _ _ _ hc];exact h
     . rw[if_neg hl] at h⊢;by_cases hk:pol.look fn f=true
       . rw[if_pos hk] at h⊢;cases hys:Q5 (frz (Qd H) depth) args with
         |none=>rw[hys] at h;cases h
         |some ys=>
          rw[hys] at h;simp only at h⊢;cases hc:C f ys [] with
          |none=>rw[hc] at h;cases h
          |some x=>rw[hc] at h;rw[hC _ _ _ _ hc];exact h
       . rw[if_neg hk] at h⊢;cases ht:Qdm pol fn f args with
         |none=>rw[ht] at h;cases h
         |some ys=>
          rw[ht] at h;simp only at h⊢;have e:=Qju h;rw[e] at h;rw[hC _ _ _ _ e];exact h
theorem Xp(hC:CLe C C'){t:List V}{H:Heap}{o:Oper}{r:Ex×List V×Heap}(h:Zi P pol C fn fr t H o=some r):Zi P pol C' fn fr t H o=some r:=by
 unfold Zi at h⊢;cases hev:Zv P (pol.mt fn) fr (Qd H) (rho t) o with
 |none=>rw[hev] at h;cases h
 |some st=>
  rw[hev] at h;cases st with
  |val v w=>exact h
  |panic v=>exact h
  |call f args=>
   simp only at h⊢;cases hc:callOp pol C fn fr o.dst f args H with
   |none=>rw[hc] at h;cases h
   |some x=>rw[hc] at h;rw[Qd9 hC hc];exact h
  |round f s args=>
   simp only at h⊢;cases hc:C none (.yield f s::args) H with
   |none=>rw[hc] at h;cases h
   |some x=>rw[hc] at h;rw[hC _ _ _ _ hc];exact h
theorem Yg(hC:CLe C C'){ops:Array Oper}:∀(l:List Oper) (t:List V) (H:Heap) (r:Ex×List V×Heap),Zp P pol C fn fr ops l t H=some r->Zp P pol C' fn fr ops l t H=some r
 |[],_,_,_,h=>h
 |o::l,t,H,r,h=>by
  simp only[Zp] at h⊢;split
  . rename_i hw;rw[hw] at h;cases h
  . rename_i hw;rw[hw] at h;exact Yg hC l _ _ _ h
  . rename_i hw;rw[hw] at h;simp only at h;cases hop:Zi P pol C fn fr t H o with
    |none=>rw[hop] at h;cases h
    |some x=>
     rw[hop] at h;rw[Xp hC hop];obtain⟨e,t1,H1⟩:=x;cases e with
     |normal=>exact Yg hC l _ _ _ h
     |exit i=>exact h
     |ret=>exact h
     |panic v=>exact h
theorem Kl(hC:CLe C C'){ops:Array Oper}:∀(l:List Oper) (t:List V) (H:Heap) (r:List V×Heap×List FP),Zb P pol C fn fr ops l t H=some r->Zb P pol C' fn fr ops l t H=some r
 |[],_,_,_,h=>h
 |o::l,t,H,r,h=>by
  simp only[Zb] at h⊢;split
  . rename_i hw;rw[hw] at h;cases h
  . rename_i hw;rw[hw] at h;simp only at h;cases hr:Zb P pol C fn fr ops l (Q1 t o.dst nov) H with
    |none=>rw[hr] at h;cases h
    |some x=>rw[hr] at h;rw[Kl hC l _ _ _ hr];exact h
  . rename_i hw;rw[hw] at h;simp only at h;cases hop:Zi P pol C fn fr t H o with
    |none=>rw[hop] at h;cases h
    |some x=>
     rw[hop] at h;rw[Xp hC hop];obtain⟨e,t1,H1⟩:=x;cases e with
     |normal=>
      simp only at h⊢;cases hr:Zb P pol C fn fr ops l t1 H1 with
      |none=>rw[hr] at h;cases h
      |some y=>rw[hr] at h;rw[Kl hC l _ _ _ hr];exact h
     |exit i=>exact h
     |ret=>exact h
     |panic v=>exact h
theorem Y9(hC:CLe C C')(hL:LLe L L'):∀c:Code,BLe (Ze P pol C L fn fr c) (Ze P pol C' L' fn fr c)/\∀v w,BLe (Je P pol C L fn fr c v w) (Je P pol C' L' fn fr c v w):=by
 intro c;have no:∀{c:Code},(∀v w t H,Je P pol C L fn fr c v w t H=none)->∀v w,BLe (Je P pol C L fn fr c v w) (Je P pol C' L' fn fr c v w):=fun h v w t H r hr=>by rw[h] at hr;cases hr
 induction c with
 |skip=>exact⟨fun _ _ _ h=>h,no fun _ _ _ _=>rfl⟩
 |region id ops draw=>
  refine⟨fun t H r h=>?_,fun v w t H r h=>?_⟩
  . cases draw with
    |true=>
     simp only[Ze,if_true] at h⊢;cases hr:Zb P pol C fn fr ops ops.toList t H with
     |none=>rw[hr] at h;cases h
     |some x=>rw[hr] at h;rw[Kl hC _ _ _ _ hr];exact h
    |false=>
     simp only[Ze,Zn5,if_false] at h⊢;exact Yg hC _ _ _ _ h
  . simp only[Je] at h⊢;split
    . rename_i o l ho;rw[ho] at h;exact Yg hC _ _ _ _ h
    . rename_i ho;rw[ho] at h;cases h
 |seq a b iha ihb=>
  refine⟨fun t H r h=>?_,fun v w t H r h=>?_⟩
  . simp only[Ze] at h⊢;cases hx:Ze P pol C L fn fr a t H with
    |none=>rw[hx] at h;cases h
    |some x=>
     rw[hx] at h;rw[iha.1 _ _ _ hx];obtain⟨e,t1,H1⟩:=x;cases e with
     |normal=>exact ihb.1 _ _ _ h
     |exit i=>exact h
     |ret=>exact h
     |panic v=>exact h
  . simp only[Je] at h⊢;cases hx:Je P pol C L fn fr a v w t H with
    |none=>rw[hx] at h;cases h
    |some x=>
     rw[hx] at h;rw[iha.2 v w _ _ _ hx];obtain⟨e,t1,H1⟩:=x;cases e with
     |normal=>exact ihb.1 _ _ _ h
     |exit i=>exact h
     |ret=>exact h
     |panic v=>exact h
 |cond c x y ihx ihy=>
  refine⟨fun t H r h=>?_,no fun _ _ _ _=>rfl⟩;simp only[Ze] at h⊢;cases hc:rho t c with
  |bool b=>
   rw[hc] at h;cases b with
   |true=>exact ihx.1 _ _ _ h
   |false=>exact ihy.1 _ _ _ h
  |_=>rw[hc] at h;cases h
 |block id b ih=>
  refine⟨fun t H r h=>?_,no fun _ _ _ _=>rfl⟩;simp only[Ze] at h⊢;cases hx:Ze P pol C L fn fr b t H with
  |none=>rw[hx] at h;cases h
  |some x=>rw[hx] at h;rw[ih.1 _ _ _ hx];exact h
 |loop b ih=>
  refine⟨fun t H r h=>?_,no fun _ _ _ _=>rfl⟩;simp only[Ze] at h⊢;refine hL _ _ ?_ _ _ _ h;intro t H;simp only;split
  . split
    . exact .cons (fun r h=>ih.1 _ _ _ h) .nil
    . split
      . exact Qwx fun c r h=>ih.2 c.1 c.2 _ _ _ h
      . exact .cons (OLe.refl _) .nil
  . exact .cons (OLe.refl _) .nil
 |rangeFunc g ps a b iha ihb=>
  refine⟨fun t H r h=>?_,no fun _ _ _ _=>rfl⟩;simp only[Ze] at h⊢;split at h
  case h_2=>cases h
  rename_i f first cap hg
  split at h
  case h_2=>cases h
  rename_i hn;split at h
  case h_2=>cases h
  rename_i v H2 hc;rw[hC _ _ _ _ hc];exact h
 |_=>exact⟨fun _ _ _ h=>h,no fun _ _ _ _=>rfl⟩
theorem Qc0(hC:CLe C C')(hL:LLe L L')(c:Code):BLe (Ze P pol C L fn fr c) (Ze P pol C' L' fn fr c):=(Y9 hC hL c).1
theorem Q17(hC:CLe C C')(hL:LLe L L'):∀f args H r,Qbk P pol C L f args H=some r->Qbk P pol C' L' f args H=some r:=by
 intro f args H r h;unfold Qbk at h⊢;cases hF:P.funcs[f]? with
 |none=>rw[hF] at h;cases h
 |some F=>
  rw[hF] at h;simp only at h⊢;cases hb:F.body with
  |none=>rw[hb] at h;cases h
  |some c=>
   rw[hb] at h;simp only at h⊢;cases hx:Ze P pol C L f H.length c (args++List.replicate (F.ntmps-args.length) .bad) (H++[[]]) with
   |none=>rw[hx] at h;cases h
   |some x=>rw[hx] at h;rw[Qc0 hC hL c _ _ _ hx];exact h
theorem Q0y(hC:CLe C C')(hL:LLe L L'):∀fo so args H r,Qay P pol C L fo so args H=some r->Qay P pol C' L' fo so args H=some r:=by
 intro fo so args H r h;unfold Qay at h⊢;split at h
 case h_2=>cases h
 rename_i pend fL rid t0 hg;split at h
 case h_2=>cases h
 rename_i ps a b hl;split at h
 case isFalse=>cases h
 rename_i hlen;rw[if_pos hlen];split at h
 case h_2=>cases h
 rename_i t1 H1 hx1;rw[Qc0 hC hL _ _ _ _ hx1];simp only;split at h
 case h_2=>cases h
 rename_i pend1 fL1 rid1 t01 hg1;split at h
 case h_2=>cases h
 rename_i e t2 H2 hx2;rw[Qc0 hC hL _ _ _ _ hx2];exact h
theorem Qjn(hC:CLe C C')(hL:LLe L L'):CLe (Qdt P pol C L) (Qdt P pol C' L'):=by
 intro f args H r h;cases f with
 |some f=>exact Q17 hC hL f args H r h
 |none=>
  simp only[Qdt] at h⊢;split at h
  . exact Q0y hC hL _ _ _ _ _ h
  . cases h
theorem Ym{b b' :Kg}(hb:MLe b b'):∀(n m:Nat),n<=m->BLe (Zz b n) (Zz b' m)
 |0,_,_=>fun _ _ _ h=>by cases h
 |n+1,0,hm=>by omega
 |n+1,m+1,hm=>by
  intro t H r h;simp only[Zz] at h⊢;exact Qqo (Qq7 (fun x y hxy=>Qph (fun t H r h=>Ym hb n m (by omega) t H r h) hxy) (hb t H)) r h
theorem J7:∀(n m:Nat),n<=m->CLe (Yh P pol n) (Yh P pol m)
 |0,_,_=>fun _ _ _ _ h=>by cases h
 |n+1,0,hm=>by omega
 |n+1,m+1,hm=>Qjn (J7 n m (by omega)) fun b b' hb=>Ym hb n m (by omega)
end
open Classical in
noncomputable def lim{α:Type}(f:Nat->Option α):Option α:=if h:∃r n,f n=some r then some h.choose else none
theorem Qxs{α:Type}{f:Nat->Option α}{r:α}(hm:∀n m a,n<=m->f n=some a->f m=some a):lim f=some r↔∃n,f n=some r:=by
 unfold lim;constructor
 . intro h;split at h
   . rename_i hx;cases h;exact hx.choose_spec
   . cases h
 . rintro⟨n,hn⟩;have hx:∃r n,f n=some r:=⟨r,n,hn⟩;rw[dif_pos hx];obtain⟨k,hk⟩:=hx.choose_spec;have h1:=hm _ (max n k) _ (Zrb _ _) hn;have h2:=hm _ (max n k) _ (Zrc _ _) hk;rw[h1] at h2;exact congrArg some (Option.some.inj h2).symm
noncomputable def Z4(b:Kg):Kz:=fun t H=>lim fun n=>Zz b n t H
noncomputable def Qn(P:Program)(pol:Pol):Call:=fun f args H=>lim fun n=>Yh P pol n f args H
theorem Qfz{b:Kg}{t:List V}{H:Heap}{r:Ex×List V×Heap}:Z4 b t H=some r↔∃n,Zz b n t H=some r:=
 Qxs fun n m _ hn h=>Ym (MLe.refl b) n m hn _ _ _ h
theorem Qy8(b:Kg)(t:List V)(H:Heap):Z4 b t H=Qdw ((b t H).map (after (Z4 b))):=by
 have hiff:∀r,Z4 b t H=some r↔Qdw ((b t H).map (after (Z4 b)))=some r:=by
  intro r;rw[Qfz];constructor
  . rintro⟨n,hn⟩;cases n with
    |zero=>cases hn
    |succ n=>
     simp only[Zz] at hn;exact Qqo (Qq7 (fun x y hxy=>Qph (fun t H r h=>Qfz.2 ⟨n,h⟩) hxy) (MLe.refl b t H)) r hn
  . intro h;obtain⟨hne,hall⟩:=Qly.1 h;have:∀x∈b t H,∃n,∀m,n<=m->after (Zz b m) x=some r:=by
     intro x hx;have h1:=hall _ (Zpc.2 ⟨x,hx,rfl⟩);unfold after at h1;split at h1
     . rename_i t1 H1;obtain⟨n,hn⟩:=Qfz.1 h1;exact⟨n,fun m hm=>Ym (MLe.refl b) n m hm _ _ _ hn⟩
     . rename_i hne1;refine⟨0,fun m _=>?_⟩;unfold after;split
       . exact absurd rfl (hne1 _ _)
       . exact h1
    obtain⟨n,hn⟩:=most this;refine⟨n+1,?_⟩;simp only[Zz];refine Qe1 (by simpa using hne) fun y hy=>?_;obtain⟨x,hx,rfl⟩:=Zpc.1 hy;exact hn n (Zn6 n) x hx
 cases h1:Z4 b t H with
 |some r=>exact((hiff r).1 h1).symm
 |none=>
  cases h2:Qdw ((b t H).map (after (Z4 b))) with
  |none=>rfl
  |some r=>rw[(hiff r).2 h2] at h1;cases h1
theorem Q5g{b:Kg}{t:List V}{H:Heap}{x:Out}(h:b t H=[x]):Z4 b t H=after (Z4 b) x:=by rw[Qy8,h];rfl
section
variable {P : Program} {pol : Pol} {fn fr : Nat}
theorem Y6{f:Option FuncId}{args:List V}{H:Heap}{r:Rt×Heap}:Qn P pol f args H=some r↔∃n,Yh P pol n f args H=some r:=
 Qxs fun n m _ hn h=>J7 n m hn _ _ _ _ h
theorem Qed(ok:Okay P pol):Jm P (Qn P pol):=by
 refine⟨fun f args H r H' h=>?_,fun fo so rest H r H' h=>?_⟩
 . obtain⟨n,hn⟩:=Y6.1 h;exact(Qap ok n).1 f args H r H' hn
 . obtain⟨n,hn⟩:=Y6.1 h;exact(Qap ok n).2 fo so rest H r H' hn
theorem Qyi{dst:Option Nat}{f:FuncId}{args:List V}{H:Heap}{r:Rt×Heap}(h:callOp pol (Qn P pol) fn fr dst f args H=some r):∃n,callOp pol (Yh P pol n) fn fr dst f args H=some r:=by
 unfold callOp at h;split at h
 . rename_i g hg;exact⟨0,by simp only[callOp,hg];exact h⟩
 . rename_i hg;split at h
   . rename_i hp;split at h
     . rename_i ys hys;cases hc:Qn P pol f ys [] with
       |none=>rw[hc] at h;cases h
       |some x=>
        obtain⟨n,hn⟩:=Y6.1 hc;rw[hc] at h;exact⟨n,by simp only[callOp,hg,hp,if_true,hys,hn];exact h⟩
     . cases h
   . rename_i hp;by_cases hl:pol.lift fn f=true
     . rw[if_pos hl] at h;cases hys:Q5 (frz (fun _ _=>none) depth) args with
       |none=>rw[hys] at h;cases h
       |some ys=>
        rw[hys] at h;simp only at h;cases hc:Qn P pol f ys [] with
        |none=>rw[hc] at h;cases h
        |some x=>
         obtain⟨n,hn⟩:=Y6.1 hc;rw[hc] at h;exact⟨n,by simp only[callOp,hg,hp,Zn5,if_false,hl,if_true,hys,hn];exact h⟩
     . rw[if_neg hl] at h;by_cases hk:pol.look fn f=true
       . rw[if_pos hk] at h;cases hys:Q5 (frz (Qd H) depth) args with
         |none=>rw[hys] at h;cases h
         |some ys=>
          rw[hys] at h;simp only at h;cases hc:Qn P pol f ys [] with
          |none=>rw[hc] at h;cases h
          |some x=>
           obtain⟨n,hn⟩:=Y6.1 hc;rw[hc] at h;exact⟨n,by simp only[callOp,hg,hp,Zn5,if_false,hl,hk,if_true,hys,hn];exact h⟩
       . rw[if_neg hk] at h;cases ht:Qdm pol fn f args with
         |none=>rw[ht] at h;cases h
         |some ys=>
          rw[ht] at h;simp only at h;have e:=Qju h;rw[e] at h;obtain⟨n,hn⟩:=Y6.1 e;exact⟨n,by simp only[callOp,hg,hp,Zn5,if_false,hl,hk,ht,hn];exact h⟩
theorem Qqd{t:List V}{H:Heap}{o:Oper}{r:Ex×List V×Heap}(h:Zi P pol (Qn P pol) fn fr t H o=some r):∃n,Zi P pol (Yh P pol n) fn fr t H o=some r:=by
 unfold Zi at h;cases hev:Zv P (pol.mt fn) fr (Qd H) (rho t) o with
 |none=>rw[hev] at h;cases h
 |some st=>
  rw[hev] at h;cases st with
  |val v w=>exact⟨0,by simp only[Zi,hev];exact h⟩
  |panic v=>exact⟨0,by simp only[Zi,hev];exact h⟩
  |call f args=>
   simp only at h;cases hc:callOp pol (Qn P pol) fn fr o.dst f args H with
   |none=>rw[hc] at h;cases h
   |some x=>
    obtain⟨n,hn⟩:=Qyi hc;rw[hc] at h;exact⟨n,by simp only[Zi,hev,hn];exact h⟩
  |round f s args=>
   simp only at h;cases hc:Qn P pol none (.yield f s::args) H with
   |none=>rw[hc] at h;cases h
   |some x=>
    obtain⟨n,hn⟩:=Y6.1 hc;rw[hc] at h;exact⟨n,by simp only[Zi,hev,hn];exact h⟩
theorem Qdu{ops:Array Oper}:∀(l:List Oper) (t:List V) (H:Heap) (r:Ex×List V×Heap),Zp P pol (Qn P pol) fn fr ops l t H=some r->∃n,Zp P pol (Yh P pol n) fn fr ops l t H=some r
 |[],_,_,_,h=>⟨0,h⟩
 |o::l,t,H,r,h=>by
  simp only[Zp] at h;split at h
  . cases h
  . rename_i hw;obtain⟨n,hn⟩:=Qdu l _ _ _ h;exact⟨n,by simp only[Zp,hw];exact hn⟩
  . rename_i hw;cases hop:Zi P pol (Qn P pol) fn fr t H o with
    |none=>rw[hop] at h;cases h
    |some x=>
     rw[hop] at h;obtain⟨n,hn⟩:=Qqd hop;obtain⟨e,t1,H1⟩:=x;cases e with
     |normal=>
      simp only at h;obtain⟨m,hm⟩:=Qdu l _ _ _ h;refine⟨max n m,?_⟩;simp only[Zp,hw];rw[Xp (J7 n (max n m) (Zrb _ _)) hn];exact Yg (J7 m (max n m) (Zrc _ _)) l _ _ _ hm
     |exit i=>exact⟨n,by simp only[Zp,hw,hn];exact h⟩
     |ret=>exact⟨n,by simp only[Zp,hw,hn];exact h⟩
     |panic v=>exact⟨n,by simp only[Zp,hw,hn];exact h⟩
theorem Qf8{ops:Array Oper}:∀(l:List Oper) (t:List V) (H:Heap) (r:List V×Heap×List FP),Zb P pol (Qn P pol) fn fr ops l t H=some r->∃n,Zb P pol (Yh P pol n) fn fr ops l t H=some r
 |[],_,_,_,h=>⟨0,h⟩
 |o::l,t,H,r,h=>by
  simp only[Zb] at h;split at h
  . cases h
  . rename_i hw;cases hr:Zb P pol (Qn P pol) fn fr ops l (Q1 t o.dst nov) H with
    |none=>rw[hr] at h;cases h
    |some x=>
     rw[hr] at h;obtain⟨n,hn⟩:=Qf8 l _ _ _ hr;exact⟨n,by simp only[Zb,hw,hn];exact h⟩
  . rename_i hw;cases hop:Zi P pol (Qn P pol) fn fr t H o with
    |none=>rw[hop] at h;cases h
    |some x=>
     rw[hop] at h;obtain⟨n,hn⟩:=Qqd hop;obtain⟨e,t1,H1⟩:=x;cases e with
     |normal=>
      simp only at h;cases hr:Zb P pol (Qn P pol) fn fr ops l t1 H1 with
      |none=>rw[hr] at h;cases h
      |some y=>
       rw[hr] at h;obtain⟨m,hm⟩:=Qf8 l _ _ _ hr;refine⟨max n m,?_⟩;simp only[Zb,hw];rw[Xp (J7 n (max n m) (Zrb _ _)) hn];simp only;rw[Kl (J7 m (max n m) (Zrc _ _)) l _ _ _ hm];exact h
     |exit i=>cases h
     |ret=>cases h
     |panic v=>cases h
theorem Q0d:∀(c:Code),(∀(t:List V) (H:Heap) (r:Ex×List V×Heap),Ze P pol (Qn P pol) Z4 fn fr c t H=some r->
 ∃n,Ze P pol (Yh P pol n) (fun b=>Zz b n) fn fr c t H=some r)/\
 ∀v w (t:List V) (H:Heap) (r:Ex×List V×Heap),Je P pol (Qn P pol) Z4 fn fr c v w t H=some r->∃n,Je P pol (Yh P pol n) (fun b=>Zz b n) fn fr c v w t H=some r:=by
 have up:∀(c:Code) (n m:Nat),n<=m->BLe (Ze P pol (Yh P pol n) (fun b=>Zz b n) fn fr c) (Ze P pol (Yh P pol m) (fun b=>Zz b m) fn fr c):=
  fun c n m hn=>Qc0 (J7 n m hn) (fun b b' hb=>Ym hb n m hn) c
 have upF:∀(c:Code) (n m:Nat) v w,n<=m->BLe (Je P pol (Yh P pol n) (fun b=>Zz b n) fn fr c v w) (Je P pol (Yh P pol m) (fun b=>Zz b m) fn fr c v w):=
  fun c n m v w hn=>(Y9 (J7 n m hn) (fun b b' hb=>Ym hb n m hn) c).2 v w
 have no:∀{c:Code},(∀v w t H,Je P pol (Qn P pol) Z4 fn fr c v w t H=none)->∀v w (t:List V) (H:Heap) (r:Ex×List V×Heap),Je P pol (Qn P pol) Z4 fn fr c v w t H=some r->
  ∃n,Je P pol (Yh P pol n) (fun b=>Zz b n) fn fr c v w t H=some r:=fun h v w t H r hr=>by rw[h] at hr;cases hr
 intro c
 induction c with
 |skip=>exact⟨fun _ _ _ h=>⟨0,h⟩,no fun _ _ _ _=>rfl⟩
 |region id ops draw=>
  refine⟨fun t H r h=>?_,fun v w t H r h=>?_⟩
  . cases draw with
    |true=>
     simp only[Ze,if_true] at h⊢;cases hr:Zb P pol (Qn P pol) fn fr ops ops.toList t H with
     |none=>rw[hr] at h;cases h
     |some x=>
      rw[hr] at h;obtain⟨n,hn⟩:=Qf8 _ _ _ _ hr;exact⟨n,by rw[hn];exact h⟩
    |false=>
     simp only[Ze,Zn5,if_false] at h⊢;exact Qdu _ _ _ _ h
  . simp only[Je] at h⊢;cases ho:ops.toList with
    |nil=>rw[ho] at h;cases h
    |cons o l=>rw[ho] at h;exact Qdu _ _ _ _ h
 |seq a b iha ihb=>
  refine⟨fun t H r h=>?_,fun v w t H r h=>?_⟩
  . simp only[Ze] at h⊢;cases hx:Ze P pol (Qn P pol) Z4 fn fr a t H with
    |none=>rw[hx] at h;cases h
    |some x=>
     rw[hx] at h;obtain⟨n,hn⟩:=iha.1 _ _ _ hx;obtain⟨e,t1,H1⟩:=x;cases e with
     |normal=>
      obtain⟨m,hm⟩:=ihb.1 _ _ _ h;refine⟨max n m,?_⟩;rw[up a n (max n m) (Zrb _ _) _ _ _ hn];exact up b m (max n m) (Zrc _ _) _ _ _ hm
     |exit i=>exact⟨n,by rw[hn];exact h⟩
     |ret=>exact⟨n,by rw[hn];exact h⟩
     |panic v=>exact⟨n,by rw[hn];exact h⟩
  . simp only[Je] at h⊢;cases hx:Je P pol (Qn P pol) Z4 fn fr a v w t H with
    |none=>rw[hx] at h;cases h
    |some x=>
     rw[hx] at h;obtain⟨n,hn⟩:=iha.2 v w _ _ _ hx;obtain⟨e,t1,H1⟩:=x;cases e with
     |normal=>
      obtain⟨m,hm⟩:=ihb.1 _ _ _ h;refine⟨max n m,?_⟩;rw[upF a n (max n m) v w (Zrb _ _) _ _ _ hn];exact up b m (max n m) (Zrc _ _) _ _ _ hm
     |exit i=>exact⟨n,by rw[hn];exact h⟩
     |ret=>exact⟨n,by rw[hn];exact h⟩
     |panic v=>exact⟨n,by rw[hn];exact h⟩
 |cond c x y ihx ihy=>
  refine⟨fun t H r h=>?_,no fun _ _ _ _=>rfl⟩;simp only[Ze] at h⊢;cases hc:rho t c with
  |bool b=>
   rw[hc] at h;cases b with
   |true=>exact ihx.1 _ _ _ h
   |false=>exact ihy.1 _ _ _ h
  |_=>rw[hc] at h;cases h
 |block id b ih=>
  refine⟨fun t H r h=>?_,no fun _ _ _ _=>rfl⟩;simp only[Ze] at h⊢;cases hx:Ze P pol (Qn P pol) Z4 fn fr b t H with
  |none=>rw[hx] at h;cases h
  |some x=>
   rw[hx] at h;obtain⟨n,hn⟩:=ih.1 _ _ _ hx;exact⟨n,by rw[hn];exact h⟩
 |loop b ih=>
  refine⟨fun t H r h=>?_,no fun _ _ _ _=>rfl⟩;simp only[Ze] at h⊢;obtain⟨k,hk⟩:=Qfz.1 h;have:∀(k:Nat) t H r,Zz (fun t H=>match forget pol fn fr (Zt b) t H with
   |some (t,H)=>(match Z0 b with
    |none=>[Ze P pol (Qn P pol) Z4 fn fr b t H]
    |some x=>(match Y8 (Qd H) (rho t x) with
     |some cs=>cs.map fun c=>Je P pol (Qn P pol) Z4 fn fr b c.1 c.2 t H
     |none=>[none]))
   |none=>[none]) k t H=some r->∃n,∀m,n<=m->Zz (fun t H=>match forget pol fn fr (Zt b) t H with
   |some (t,H)=>(match Z0 b with
    |none=>[Ze P pol (Yh P pol m) (fun b=>Zz b m) fn fr b t H]
    |some x=>(match Y8 (Qd H) (rho t x) with
     |some cs=>cs.map fun c=>Je P pol (Yh P pol m) (fun b=>Zz b m) fn fr b c.1 c.2 t H
     |none=>[none]))
   |none=>[none]) k t H=some r:=by
   intro k
   induction k with
   |zero=>intro t H r h;cases h
   |succ k ihk=>
    intro t H r h;simp only[Zz] at h⊢;have one:∀(W:Out) (N:Nat->Out),(∀y,W=some y->∃n,∀m,n<=m->N m=some y)->after (Zz (fun t H=>match forget pol fn fr (Zt b) t H with
     |some (t,H)=>(match Z0 b with
      |none=>[Ze P pol (Qn P pol) Z4 fn fr b t H]
      |some x=>(match Y8 (Qd H) (rho t x) with
       |some cs=>cs.map fun c=>Je P pol (Qn P pol) Z4 fn fr b c.1 c.2 t H
       |none=>[none]))
     |none=>[none]) k) W=some r->∃n,∀m,n<=m->after (Zz (fun t H=>match forget pol fn fr (Zt b) t H with
     |some (t,H)=>(match Z0 b with
      |none=>[Ze P pol (Yh P pol m) (fun b=>Zz b m) fn fr b t H]
      |some x=>(match Y8 (Qd H) (rho t x) with
       |some cs=>cs.map fun c=>Je P pol (Yh P pol m) (fun b=>Zz b m) fn fr b c.1 c.2 t H
       |none=>[none]))
     |none=>[none]) k) (N m)=some r:=by
     intro W N hWN hW;cases W with
     |none=>cases hW
     |some y=>
      obtain⟨n,hn⟩:=hWN y rfl;obtain⟨e,t1,H1⟩:=y;cases e with
      |normal=>
       obtain⟨m,hm⟩:=ihk _ _ _ hW;refine⟨max n m,fun q hq=>?_⟩;rw[hn q (by omega)];exact hm q (by omega)
      |exit i=>exact⟨n,fun q hq=>by rw[hn q hq];exact hW⟩
      |ret=>exact⟨n,fun q hq=>by rw[hn q hq];exact hW⟩
      |panic v=>exact⟨n,fun q hq=>by rw[hn q hq];exact hW⟩
    cases hf:forget pol fn fr (Zt b) t H with
    |none=>rw[hf] at h;cases h
    |some x=>
     rw[hf] at h;simp only at h⊢;cases hd:Z0 b with
     |none=>
      rw[hd] at h one;simp only[Zo4,Zpm,Q6o] at h⊢;exact one _ (fun m=>Ze P pol (Yh P pol m) (fun b=>Zz b m) fn fr b x.1 x.2) (fun y hy=>by
       obtain⟨n,hn⟩:=ih.1 _ _ _ hy
       exact⟨n,fun m hm=>up b n m hm _ _ _ hn⟩) h
     |some z=>
      rw[hd] at h one;simp only at h⊢;cases hc:Y8 (Qd x.2) (rho x.1 z) with
      |none=>rw[hc] at h;cases h
      |some cs=>
       rw[hc] at h;simp only[List.map_map] at h⊢;obtain⟨hne,hall⟩:=Qly.1 h;obtain⟨n,hn⟩:=most (l:=cs) (p:=fun c m=>after _ (Je P pol (Yh P pol m) (fun b=>Zz b m) fn fr b c.1 c.2 x.1 x.2)=some r) (fun c hc' =>by
        exact one _ (fun m=>Je P pol (Yh P pol m) (fun b=>Zz b m) fn fr b c.1 c.2 x.1 x.2) (fun y hy=>by
         obtain⟨n,hn⟩:=ih.2 _ _ _ _ _ hy
         exact⟨n,fun m hm=>upF b n m _ _ hm _ _ _ hn⟩) (hall _ (Zpc.2 ⟨c,hc',rfl⟩)))
       refine⟨n,fun m hm=>Qe1 (by simpa using hne) fun y hy=>?_⟩;obtain⟨c,hc',rfl⟩:=Zpc.1 hy;exact hn m hm c hc'
  obtain⟨n,hn⟩:=this k t H r hk;refine⟨max n k,?_⟩;exact Ym (MLe.refl _) k (max n k) (Zrc _ _) _ _ _ (hn (max n k) (Zrb _ _))
 |rangeFunc g ps a b iha ihb=>
  refine⟨?_,no fun _ _ _ _=>rfl⟩;intro t H r h;simp only[Ze] at h;split at h
  case h_2=>cases h
  rename_i f first cap hg
  split at h
  case h_2=>cases h
  rename_i hn;split at h
  case h_2=>cases h
  rename_i v H2 hc;obtain⟨n,hn'⟩:=Y6.1 hc;refine⟨n,?_⟩;simp only[Ze,hg,hn,hn'];exact h
 |_=>
  refine⟨?_,no fun _ _ _ _=>rfl⟩;intro t H r h;cases h<;>exact⟨0,rfl⟩
theorem Qma(c:Code)(t:List V)(H:Heap)(r:Ex×List V×Heap)(h:Ze P pol (Qn P pol) Z4 fn fr c t H=some r):
 ∃n,Ze P pol (Yh P pol n) (fun b=>Zz b n) fn fr c t H=some r:=(Q0d c).1 t H r h
theorem Zbb{f:FuncId}{args:List V}{H:Heap}{r:Rt×Heap}(h:Qdt P pol (Qn P pol) Z4 f args H=some r):Qn P pol f args H=some r:=by
 have:∃n,Qdt P pol (Yh P pol n) (fun b=>Zz b n) f args H=some r:=by
  simp only[Qdt] at h⊢;unfold Qbk at h⊢;cases hF:P.funcs[f]? with
  |none=>rw[hF] at h;cases h
  |some F=>
   rw[hF] at h;simp only at h⊢;cases hb:F.body with
   |none=>rw[hb] at h;cases h
   |some c=>
    rw[hb] at h;simp only at h⊢;cases hx:Ze P pol (Qn P pol) Z4 f H.length c (args++List.replicate (F.ntmps-args.length) .bad) (H++[[]]) with
    |none=>rw[hx] at h;cases h
    |some x=>
     rw[hx] at h;obtain⟨n,hn⟩:=Qma c _ _ _ hx;exact⟨n,by rw[hn];exact h⟩
 obtain⟨n,hn⟩:=this;exact Y6.2 ⟨n+1,hn⟩
theorem Qxe{fo so:Nat}{args:List V}{H:Heap}{r:Rt×Heap}(h:Qay P pol (Qn P pol) Z4 fo so args H=some r):Qn P pol none (.yield fo so::args) H=some r:=by
 have:∃n,Qay P pol (Yh P pol n) (fun b=>Zz b n) fo so args H=some r:=by
  unfold Qay at h;split at h
  case h_2=>cases h
  rename_i pend fL rid t0 hg;split at h
  case h_2=>cases h
  rename_i ps a b hl;split at h
  case isFalse=>cases h
  rename_i hlen;split at h
  case h_2=>cases h
  rename_i t1 H1 hx1;split at h
  case h_2=>cases h
  rename_i pend1 fL1 rid1 t01 hg1;split at h
  case h_2=>cases h
  rename_i e t2 H2 hx2;obtain⟨n1,h1⟩:=Qma _ _ _ _ hx1;obtain⟨n2,h2⟩:=Qma _ _ _ _ hx2;have m1:=Qc0 (J7 (P:=P) (pol:=pol) n1 (max n1 n2) (Zrb _ _)) (fun b b' hb=>Ym hb n1 (max n1 n2) (Zrb _ _)) _ _ _ _ h1;have m2:=Qc0 (J7 (P:=P) (pol:=pol) n2 (max n1 n2) (Zrc _ _)) (fun b b' hb=>Ym hb n2 (max n1 n2) (Zrc _ _)) _ _ _ _ h2;refine⟨max n1 n2,?_⟩;unfold Qay;simp only[hg,hl,if_pos hlen,m1,hg1,m2];exact h
 obtain⟨n,hn⟩:=this;exact Y6.2 ⟨n+1,hn⟩
end
end Go.AM
end
