/- This file holds in one the texts Bx18, Bx26, Bx27, Bx28; each says at its head what it proves. -/
import Derived.Test.YtpdimkonjmoadaaGreatDoorT10
import Derived.Test.YtpdimkonjmoadaaGreatDoorT12
import Derived.Test.YtpdimkonjmoadaaGreatDoorT15
set_option linter.unusedSimpArgs false
set_option linter.unusedVariables false
section
namespace Go.AM.BM
section
variable {P : Program} {pol : Pol} {C : Call} {L : Kv -> Kv} {B : Nat} {F : Nat -> Nat -> Prop} {fn N : Nat} {D : MD} {ro : Option Nat} {dp : Nat}
def wpL(ro:Option Nat)(P:Program)(c:Code)(Q:Exit->Act->World->Prop)(a:Act)(w:World):Prop:=
 ∀(b:Go.Frame) (k:List Item) (cs:List Go.Frame),b.roundOf=ro->∃e a' w',Q e a' w' /\ArrivesIn (Machine.fenced P (G ro)) P (lone (b.atR a (.code c:: .inLoop c::k)) cs w) b k cs e a' w'
theorem Qp4{n:Nat}:(G ro).room n:=fun _ h=>by cases h
theorem Ql4{c:Code}{Q:Exit->Act->World->Prop}{a:Act}{w:World}(h:wpL ro P c Q a w):(Code.loop c).wpIn (G ro) dp P Q a w:=
 fun b k cs hro hb hr=>let⟨e,a',w',q,r⟩:=h b k cs hro;⟨e,a',w',q,.of_steps (.one (fenced_calm hb hr rfl) stepR_loop) r⟩
theorem Ql8{c:Code}{Q:Exit->Act->World->Prop}{a:Act}{w:World}(h:c.wpIn (G ro) dp P (Exit.then (wpL ro P c Q) Q) a w):wpL ro P c Q a w:=by
 intro b k cs hro;obtain⟨e,a₁,w₁,hq,harr⟩:=h b (.inLoop c::k) cs hro trivial Qp4;cases e with
 |normal=>
  obtain⟨e₂,a₂,w₂,hq₂,harr₂⟩:=hq b k cs hro;exact⟨e₂,a₂,w₂,hq₂,.of_steps (StepsIn.trans harr (.one (fenced_calm (n:=dp) trivial Qp4 rfl) stepR_inLoop)) harr₂⟩
 |exit id=>exact⟨_,a₁,w₁,hq,.pass (x:= .inLoop c) rfl (fun _ _=> .inl (by simp)) harr⟩
 |goto l=>exact⟨_,a₁,w₁,hq,.pass (x:= .inLoop c) rfl (fun _ _=> .inl (by simp)) harr⟩
 |ret=>exact⟨_,a₁,w₁,hq,.pass (x:= .inLoop c) rfl (fun _ _=> .inl (by simp)) harr⟩
 |panic ch=>exact⟨_,a₁,w₁,hq,.pass (x:= .inLoop c) rfl (fun _ _=> .inl (by simp)) harr⟩
 |outgrown=>exact⟨_,a₁,w₁,hq,.pass (x:= .inLoop c) rfl (fun _ _=> .inl (by simp)) harr⟩
theorem Yd.through{E0:Env}{ex:Ex}{t' :List V}{H' :Heap}(hne:ex≠ .normal){next:Act->World->Prop}{Q:Exit->Act->World->Prop}
 (hQ:∀e a w,Yd B F N D E0 ex t' H' e a w->Q e a w):∀e a w,Yd B F N D E0 ex t' H' e a w->Exit.then next Q e a w:=by
 intro e a w h;have hx:=h;obtain⟨E',rfl,X,s,hr⟩:=hx;cases ex with
 |normal=>exact absurd rfl hne
 |exit i=>simp only[Jz] at hr;subst hr;exact hQ _ _ _ h
 |ret=>simp only[Jz] at hr;subst hr;exact hQ _ _ _ h
 |panic v=>obtain⟨c,rfl,_⟩:=hr;exact hQ _ _ _ h
theorem Qj3{c:Code}{f:Kv}
 (hf:∀t H E0 E a,Ext 1 B E0 E->E0.tab=Qn P->St B F N D E H t a->∀ex t' H',f t H=some (ex,t',H')->c.wpIn (G ro) dp P (Yd B F N D E0 ex t' H') a E.w):
 ∀(n:Nat) t H ex t' H' E0 E a,Zu f n t H=some (ex,t',H')->Ext 1 B E0 E->E0.tab=Qn P->St B F N D E H t a->wpL ro P c (Yd B F N D E0 ex t' H') a E.w:=by
 intro n
 induction n with
 |zero=>intro t H ex t' H' E0 E a h;cases h
 |succ n ih=>
  intro t H ex t' H' E0 E a h X htab s;simp only[Zu] at h;refine Ql8 (dp:=dp) ?_;split at h
  . rename_i t1 H1 h1;refine wpIn_mono (hf t H E0 E a X htab s _ _ _ h1) ?_;rintro e a' w' ⟨E',rfl,X',s',hr⟩;simp only[Jz] at hr;subst hr;exact ih t1 H1 ex t' H' E0 E' a' h X' htab s'
  . rename_i r hne;refine wpIn_mono (hf t H E0 E a X htab s _ _ _ h) (Yd.through ?_ (fun _ _ _ h=>h));intro e;subst e;exact hne _ _ h
def Qax(L:Kv->Kv):Prop:=∀f t H r,L f t H=some r->∃n,Zu f n t H=some r
def Jr(look:Nat->Option (Array Tmp×Code×Code)):Code->Prop
 | .seq a b| .cond _ a b=>Jr look a/\Jr look b
 | .block _ b| .loop b| .scope b=>Jr look b
 | .rangeFunc _ ps a b=>look (Ze a b)=some (ps,a,b)/\Jr look a/\Jr look b
 |_=>True
theorem J7(rid:Nat):∀(c:Code),rid∉Q2 c->Qz rid c=none:=by
 intro c
 induction c with
 |seq a b iha ihb|cond _ a b iha ihb=>
  intro h;simp only[Q2,Zp8,not_or] at h;simp only[Qz,iha h.1,ihb h.2]
 |block _ b ih|loop b ih|scope b ih=>intro h;exact ih h
 |rangeFunc g ps a b iha ihb=>
  intro h;simp only[Q2,Zpy,Zp8,not_or] at h;simp only[Qz];rw[if_neg (fun e=>h.1 e.symm),iha h.2.1,ihb h.2.2]
 |_=>intro _;rfl
theorem Qc2(look:Nat->Option (Array Tmp×Code×Code)):∀(c:Code),(Q2 c).Nodup->(∀rid∈Q2 c,look rid=Qz rid c)->Jr look c:=by
 intro c;have some_:∀(c:Code) (rid:Nat),rid∈Q2 c->∃x,Qz rid c=some x:=by
  intro c
  induction c with
  |seq a b iha ihb|cond _ a b iha ihb=>
   intro rid h;simp only[Q2,Zp8] at h;simp only[Qz];rcases h with h|h
   . obtain⟨x,hx⟩:=iha rid h;exact⟨x,by rw[hx]⟩
   . obtain⟨x,hx⟩:=ihb rid h;cases hq:Qz rid a with
     |some y=>exact⟨y,rfl⟩
     |none=>exact⟨x,hx⟩
  |block _ b ih|loop b ih|scope b ih=>intro rid h;exact ih rid h
  |rangeFunc g ps a b iha ihb=>
   intro rid h;simp only[Q2,Zpy,Zp8] at h;simp only[Qz];by_cases e:Ze a b=rid
   . exact⟨_,if_pos e⟩
   . rw[if_neg e];rcases h with h|h|h
     . exact absurd h.symm e
     . obtain⟨x,hx⟩:=iha rid h;exact⟨x,by rw[hx]⟩
     . obtain⟨x,hx⟩:=ihb rid h;cases hq:Qz rid a with
       |some y=>exact⟨y,rfl⟩
       |none=>exact⟨x,hx⟩
  |_=>intro rid h;cases h
 induction c with
 |seq a b iha ihb|cond _ a b iha ihb=>
  intro hn hl;simp only[Q2] at hn hl;obtain⟨n1,n2,n3⟩:=List.nodup_append.1 hn;refine⟨iha n1 fun rid hr=>?_,ihb n2 fun rid hr=>?_⟩
  . rw[hl rid (List.mem_append_left _ hr)];obtain⟨x,hx⟩:=some_ a rid hr;simp only[Qz,hx]
  . rw[hl rid (List.mem_append_right _ hr)];simp only[Qz,J7 rid a (fun h=>n3 rid h rid hr rfl)]
 |block _ b ih|loop b ih|scope b ih=>intro hn hl;exact ih hn hl
 |rangeFunc g ps a b iha ihb=>
  intro hn hl;simp only[Q2] at hn hl;rw[Zr3,Zp8,not_or] at hn;obtain⟨n1,n2,n3⟩:=List.nodup_append.1 hn.2;refine⟨?_,iha n1 fun rid hr=>?_,ihb n2 fun rid hr=>?_⟩
  . rw[hl _ (by simp)];simp only[Qz,if_true]
  . rw[hl rid (Zp0 _ (List.mem_append_left _ hr))];obtain⟨x,hx⟩:=some_ a rid hr;simp only[Qz];rw[if_neg (by intro e;rw[e] at hn;exact hn.1.1 hr),hx]
  . rw[hl rid (Zp0 _ (List.mem_append_right _ hr))];simp only[Qz];rw[if_neg (by intro e;rw[e] at hn;exact hn.1.2 hr),J7 rid a (fun h=>n3 rid h rid hr rfl)]
 |_=>intro _ _;trivial
theorem Qga{rid:Nat}{x:Array Tmp×Code×Code}:∀(c:Code),Qz rid c=some x->drawsC c=true->flatC c=true->drawsC x.2.1=true/\drawsC x.2.2=true/\Q2 x.2.1=[]/\Q2 x.2.2=[]:=by
 intro c
 induction c with
 |seq a b iha ihb|cond _ a b iha ihb=>
  intro h hd hf;simp only[drawsC,flatC,Zqf] at hd hf;simp only[Qz] at h;split at h
  . rename_i y hy;cases h;exact iha hy hd.1 hf.1
  . exact ihb h hd.2 hf.2
 |block _ b ih|loop b ih|scope b ih=>intro h hd hf;exact ih h hd hf
 |rangeFunc g ps a b iha ihb=>
  intro h hd hf;simp only[drawsC,flatC,Zqf,List.isEmpty_iff] at hd hf;simp only[Qz] at h;split at h
  . cases h;exact⟨hd.1,hd.2,hf.1,hf.2⟩
  . rw[J7 rid a (by rw[hf.1];simp),J7 rid b (by rw[hf.2];simp)] at h;cases h
 |_=>intro h;cases h
theorem Qb4(look:Nat->Option (Array Tmp×Code×Code))(c:Code)(h:Q2 c=[]):Jr look c:=Qc2 look c (by rw[h];exact List.nodup_nil) (fun rid hr=>by rw[h] at hr;cases hr)
theorem Qg9(ok:Okay P pol)(cs:Jc P C){g:Operand}{ps:Array Tmp}{as b:Code}(hl:Qn P fn (Ze as b)=some (ps,as,b)){t t' :List V}{H H' :Heap}{ex:Ex}{E0 E:Env}{a:Act}
 (h:Q6 P pol C L fn (.rangeFunc g ps as b) t H=some (ex,t',H'))(X:Ext 1 B E0 E)(htab:E0.tab=Qn P)(s:St B F N D E H t a)(hnl:D.2=false):
 (Code.rangeFunc g ps as b).wpIn (G none) dp P (Yd B F N D E0 ex t' H') a E.w:=by
 simp only[Q6] at h;split at h
 case h_2=>cases h
 rename_i f first cap hg
 split at h
 case h_2=>cases h
 rename_i hn;split at h
 case h_2=>cases h
 rename_i v H2 hc;have hv:=s.ρ g;rw[hg] at hv;simp only[Rel] at hv;obtain⟨fs,cs',hge,h1,h2⟩:=hv;refine wpIn_rangeFunc fun fn' _=>?_;obtain⟨XD,SD⟩:=s.sim.newDfr;have tabD:E.newDfr.tab=Qn P:=XD.tab.trans (X.tab.trans htab);obtain⟨XL,SL⟩:=SD.newLoop s.lt hn {state:= .ready,pending:=none,fn:=fn',tmps:=a.tmps,params:=ps,assign:=as,body:=b,defers:=E.w.heap.size} fn (Ze as b) t rfl rfl (by rw[tabD];exact hl) (Qe.mono XD s.sim.lt _ _ s.rel);have hsz:E.newDfr.w.heap.size=E.w.heap.size+1:=by simp[Env.newDfr,Env.push]
 have hmu:((E.newDfr).newLoop 0 (Q5 H) {state:= .ready,pending:=none,fn:=fn',tmps:=a.tmps,params:=ps,assign:=as,body:=b,defers:=E.w.heap.size}).mu 0 (Q5 H)=some (E.w.heap.size+1):=by simp only[Env.newLoop,Ql,hsz]
 have hw:((E.newDfr).newLoop 0 (Q5 H) {state:= .ready,pending:=none,fn:=fn',tmps:=a.tmps,params:=ps,assign:=as,body:=b,defers:=E.w.heap.size}).w=(E.w.alloc (Obj.deferred (some []))).alloc (.loop {state:= .ready,pending:=none,fn:=fn',tmps:=a.tmps,params:=ps,assign:=as,body:=b,defers:=E.w.heap.size}):=rfl;have hdD:((E.newDfr).newLoop 0 (Q5 H) {state:= .ready,pending:=none,fn:=fn',tmps:=a.tmps,params:=ps,assign:=as,body:=b,defers:=E.w.heap.size}).w.heap[E.w.heap.size]?=some (Obj.deferred (some [])):=
  XL.dfr _ (Yq E _ _)
 generalize hE2:(E.newDfr).newLoop 0 (Q5 H) {state:= .ready,pending:=none,fn:=fn',tmps:=a.tmps,params:=ps,assign:=as,body:=b,defers:=E.w.heap.size}=E2 at*;have X2:Ext H.length B E E2:=XD.trans XL;have tab2:E2.tab=Qn P:=X2.tab.trans (X.tab.trans htab);have hrel:Qe E2 (first++[.yield 0 (Q5 H)]++cap) (fs++[.func (.yield (E.w.heap.size+1)) #[] #[]]++cs'):=by refine((Qe.mono X2 s.sim.lt _ _ h1).append (.cons ?_ .nil)).append (Qe.mono X2 s.sim.lt _ _ h2);simp only[Rel];exact⟨_,hmu,rfl⟩
 obtain⟨hbody,hall⟩:=cs.1 f _ _ _ _ hc;have hlen2:(hset H 0 (Q5 H) (.loop 0 none fn (Ze as b) t)).length=1:=by rw[Zy];exact s.one
 have hcall:=hall B F E2 _ SL hlen2 tab2 hrel;obtain⟨Fn,cc,hF1,hF2⟩:=hbody;have hnum:=ok.num f Fn hF1 (by rw[hF2];rfl);refine⟨E.w.heap.size+1,[{target:= .collected E.w.heap.size,args:= #[]}],E2.w,{target:= .fn (.func f) ⟨cs'⟩,args:=⟨fs++[.func (.yield (E.w.heap.size+1)) #[] #[]]⟩},E2.w,f,⟨fs++[.func (.yield (E.w.heap.size+1)) #[] #[]]++cs'⟩,E2.w,?_,?_,fun _ _=>trivial,?_,Qdh,?_⟩
 . rw[hw];exact run_enterLoop_outer _ _ _ _ _
 . have hcv:a.eval (.const (.func (.yield (E.w.heap.size+1)) #[] #[]))= .func (.yield (E.w.heap.size+1)) #[] #[]:=rfl;simp only[resolve,hge,Deferred.ofValue,Zsu,Zsv,Zst];simp[hcv]
 . have e1:((⟨fs++[.func (.yield (E.w.heap.size+1)) #[] #[]]⟩:Array Value)++(⟨cs'⟩:Array Value))=⟨fs++[.func (.yield (E.w.heap.size+1)) #[] #[]]++cs'⟩:=by simp
   simp only[invoke,e1,callFunc,Zsu,run_program,Zst,hF1,hnum,Zpo,if_false,hF2,Option.isNone_some,Zsv]
 . refine(callsIn_wide (n:=dp-1)).2 (hcall.mono ?_);rintro e w' ⟨E3,rfl,⟨c,rfl,hcr⟩,S3,X3,hl3⟩;have mu3:=X3.mu 0 (Q5 H) _ Nat.one_pos hmu;unfold Qab at h;split at h
   case h_2=>cases h
   rename_i st pend fn2 rid2 t2 hg2;split at h
   . cases h
   rename_i hst;obtain⟨b3,r3,q1,q2,q3,q4,q5,q7,q8⟩:=S3.obj _ _ _ hg2;rw[mu3] at q1;cases q1;have hbusy:r3.state≠ .busy:=by
    rw[q4]
    match st,hst with
    |0,_=>simp[stL]
    |2,_=>simp[stL]
    |(n+3),_=>simp[stL]
   have Sd:=S3.kill hg2 (fun n e=>by cases e);have hno:∀f s o,Qd (hset H2 0 (Q5 H) .dead) f s=some o->blk E3 f s o≠some (E.w.heap.size+1):=by
    intro f s o ho hb;rcases Qtx (by omega) hg2 f s o ho with⟨_,_,rfl⟩|⟨hne,ho'⟩
    . cases hb
    . have:=S3.inj f s o 0 (Q5 H) _ _ ho' hg2 hb mu3;exact hne this
   obtain⟨Xj,Sj⟩:=Sd.junkLoop (b:=E.w.heap.size+1) (r:=r3) q3 q2 (k:=1) hno {r3 with state:= .exhausted};have rel3:Qe E3 t a.tmps.toList:=Qe.mono X3 (fun f i q=>hlen2▸SL.lt f i q) _ _ (Qe.mono X2 s.sim.lt _ _ s.rel);have rel4:Qe (E3.put (E.w.heap.size+1) (.loop {r3 with state:= .exhausted})) t a.tmps.toList:=
    Qe.mono Xj (fun f i q=>hl3▸S3.lt f i q) _ _ rel3
   have X4:Ext 1 B E (E3.put (E.w.heap.size+1) (.loop {r3 with state:= .exhausted})):=
    ((X2.less s.lt (Zpp _)).trans X3).trans Xj
   have hfin:St B F N D (E3.put (E.w.heap.size+1) (.loop {r3 with state:= .exhausted})) (hset H2 0 (Q5 H) .dead) t {a with defers:=[{target:= .collected E.w.heap.size,args:= #[]}]++a.defers}:=by
    refine⟨Sj,by rw[Zy];exact hl3,rel4,?_,Zpq s.nsz X4.size⟩;obtain⟨rs,m1,m2,m3,_⟩:=s.defers;refine⟨E.w.heap.size::rs,by rw[m1];rfl,?_,?_,fun q=>by rw[hnl] at q;cases q⟩
    . rw[Zr3];refine⟨fun hm=>?_,m2⟩;have:=(Zpt.1 (m3 _ hm).2).1;omega
    . intro r hr;rcases Zpy.1 hr with rfl|hr
      . exact⟨s.nsz,Xj.dfr _ (X3.dfr _ hdD)⟩
      . exact⟨(m3 r hr).1,X4.dfr r (m3 r hr).2⟩
   refine⟨Qt9 pend,(E3.put (E.w.heap.size+1) (.loop {r3 with state:= .exhausted})).w,by rw[<-q5];exact run_endLoop q3 hbusy,?_⟩;cases pend with
   |none=>
    cases h;exact⟨_,rfl,X.trans X4,hfin,rfl⟩
   |some j=>
    cases j with
    |none=>
     cases h;exact wpIn_ret ⟨_,rfl,X.trans X4,hfin,rfl⟩
    |some i=>
     cases h;exact wpIn_exit ⟨_,rfl,X.trans X4,hfin,rfl⟩
theorem Qw9{rid:Nat}{x:Array Tmp×Code×Code}:∀(c:Code),Qz rid c=some x->Qbo P pol fn c->Qbo P pol fn x.2.1/\Qbo P pol fn x.2.2:=by
 intro c
 induction c with
 |seq a b iha ihb|cond _ a b iha ihb=>
  intro h hd;simp only[Qz] at h;split at h
  . rename_i y hy;cases h;exact iha hy hd.1
  . exact ihb h hd.2
 |block _ b ih|scope b ih=>intro h hd;exact ih h hd
 |loop b ih=>intro h hd;exact ih h hd.2
 |rangeFunc g ps a b iha ihb=>
  intro h hd;simp only[Qz] at h;split at h
  . cases h;exact hd
  . split at h
    . rename_i y hy;cases h;exact iha hy hd.1
    . exact ihb h hd.2
 |_=>intro h;cases h
theorem Qhr(ok:Okay P pol)(cs:Jc P C)(ls:Qax L)(hC:Xm C):∀(c:Code),Qbo P pol fn c->drawsC c=true->Jr (Qn P fn) c->(ro.isSome=true\/D.2=true->Q2 c=[])->
 (∀(t:List V) (H:Heap) (ex:Ex) (t' :List V) (H' :Heap) (E0 E:Env) (a:Act),
   Q6 P pol C L fn c t H=some (ex,t',H')->Ext 1 B E0 E->E0.tab=Qn P->St B F N D E H t a->c.wpIn (G ro) dp P (Yd B F N D E0 ex t' H') a E.w)/\
 (∀(x:Operand) (l:List (V×Option (Nat×Nat×O))) (t:List V) (H:Heap) (E0 E:Env) (a:Act),Zt c=some x->Y3 (Qd H) (rho t x)=some l->Ext 1 B E0 E->E0.tab=Qn P->St B F N D E H t a->
   ∃p∈l,∀(ex:Ex) (t' :List V) (H' :Heap),Z7 P pol C L fn c p.1 p.2 t H=some (ex,t',H')->c.wpIn (G ro) dp P (Yd B F N D E0 ex t' H') a E.w):=by
 intro c
 induction c with
 |skip=>
  intro hlk hd hlp hrd;refine⟨?_,?_⟩
  . intro t H ex t' H' E0 E a h X htab s;cases h;exact wpIn_skip ⟨E,rfl,X,s,rfl⟩
  . intro x l t H E0 E a h;cases h
 |region id ops draw=>
  intro hlk hd hlp hrd;refine⟨?_,?_⟩
  . intro t H ex t' H' E0 E a h X htab s;simp only[Q6] at h;cases draw with
    |true=>
     simp only[if_true] at h;split at h
     . cases h
     rename_i hfree;split at h
     case h_2=>cases h
     rename_i t1 H1 T hT;split at h
     case isFalse=>cases h
     rename_i hok;cases h;exact Qkd ok cs (by simpa [drawsC] using hd) hC hfree hT hok X htab s
    |false=>
     simp only[Zpo,if_false] at h;refine wpIn_region ?_;have:=Yv (ro:=ro) (dp:=dp) ok cs ops.toList [] t H ex t' H' E a (by simp) h X htab s;simpa [Zrn] using this
  . intro x l t H E0 E a hn hc X htab s;cases draw with
    |true=>cases hn
    |false=>
     simp only[Zt] at hn;cases hops:ops.toList with
     |nil=>rw[hops] at hn;cases hn
     |cons o r=>
      rw[hops] at hn;simp only at hn;split at hn
      case h_2=>cases hn
      rename_i y hg hop;cases hn;obtain⟨p,hp,E',cv,X',s',hwp⟩:=Qwt (P:=P) s hop hc;refine⟨p,hp,fun ex t' H' h=>?_⟩;simp only[Z7,hops] at h;refine wpIn_region ?_;have h0:ops[0]?=some o:=by
       have:ops.toList[0]?=some o:=by rw[hops];rfl
       simpa using this
      have hsz:ops.size=r.length+1:=by
       have:ops.toList.length=r.length+1:=by rw[hops];rfl
       simpa using this
      have hrun:=Yv (ro:=ro) (dp:=dp) (E0:=E0) ok cs r [o] _ _ ex t' H' E' _ (by rw[hops];rfl) h (X.trans X') htab s';have hrange:List.range ops.size=0::List.range' 1 r.length:=by rw[hsz,Zrn,Zq3]
      rw[hrange];simp only[wpOpsIn,h0];have hw:Region.wanted o (yielded ops a.tmps)=true:=by simp[Region.wanted,hg]
      rw[if_pos hw];exact hwp _ _ (by simpa using hrun)
 |seq x y ihx ihy=>
  intro hlk hd hlp hrd;refine⟨?_,?_⟩
  . intro t H ex t' H' E0 E a h X htab s;simp only[drawsC,Zqf] at hd;simp only[Q6] at h;refine wpIn_seq ?_;split at h
    . rename_i t1 H1 hx;refine wpIn_mono ((ihx hlk.1 hd.1 hlp.1 fun q=>(Zr4.1 (hrd q)).1).1 _ _ _ _ _ E0 E a hx X htab s) ?_;rintro e a' w' ⟨E',rfl,X',s',hr⟩;simp only[Jz] at hr;subst hr;exact(ihy hlk.2 hd.2 hlp.2 fun q=>(Zr4.1 (hrd q)).2).1 t1 H1 ex t' H' E0 E' a' h X' htab s'
    . rename_i r hne;refine wpIn_mono ((ihx hlk.1 hd.1 hlp.1 fun q=>(Zr4.1 (hrd q)).1).1 _ _ _ _ _ E0 E a h X htab s) (Yd.through ?_ (fun _ _ _ h=>h));intro e;subst e;exact hne _ _ h
  . intro v l t H E0 E a hn hc X htab s;simp only[drawsC,Zqf] at hd;simp only[Zt] at hn;obtain⟨p,hp,hwp⟩:=(ihx hlk.1 hd.1 hlp.1 fun q=>(Zr4.1 (hrd q)).1).2 v l t H E0 E a hn hc X htab s;refine⟨p,hp,fun ex t' H' h=>?_⟩;simp only[Z7] at h;refine wpIn_seq ?_;split at h
    . rename_i t1 H1 hx;refine wpIn_mono (hwp _ _ _ hx) ?_;rintro e a' w' ⟨E',rfl,X',s',hr⟩;simp only[Jz] at hr;subst hr;exact(ihy hlk.2 hd.2 hlp.2 fun q=>(Zr4.1 (hrd q)).2).1 t1 H1 ex t' H' E0 E' a' h X' htab s'
    . rename_i r hne;refine wpIn_mono (hwp _ _ _ h) (Yd.through ?_ (fun _ _ _ h=>h));intro e;subst e;exact hne _ _ h
 |cond c x y ihx ihy=>
  intro hlk hd hlp hrd;refine⟨?_,?_⟩
  . intro t H ex t' H' E0 E a h X htab s;simp only[drawsC,Zqf] at hd;simp only[Q6] at h;split at h
    case h_2=>cases h
    rename_i b hb;have hc:=s.ρ c;rw[hb] at hc;simp only[Rel] at hc;refine wpIn_cond hc ?_;cases b with
    |true=>simp only[if_true] at h⊢;exact(ihx hlk.1 hd.1 hlp.1 fun q=>(Zr4.1 (hrd q)).1).1 _ _ _ _ _ E0 E a h X htab s
    |false=>simp only[Zpo,if_false] at h⊢;exact(ihy hlk.2 hd.2 hlp.2 fun q=>(Zr4.1 (hrd q)).2).1 _ _ _ _ _ E0 E a h X htab s
  . intro x l t H E0 E a h;cases h
 |block id b ih=>
  intro hlk hd hlp hrd;refine⟨?_,?_⟩
  . intro t H ex t' H' E0 E a h X htab s;simp only[drawsC,Zqf] at hd;simp only[Q6] at h;refine wpIn_block ?_;split at h
    . rename_i i t1 H1 hb;refine wpIn_mono ((ih hlk hd hlp hrd).1 _ _ _ _ _ E0 E a hb X htab s) ?_;rintro e a' w' ⟨E',rfl,X',s',hr⟩;simp only[Jz] at hr;subst hr;simp only[Exit.inBlock];split at h
      . rename_i hi;cases h;rw[if_pos hi];exact⟨E',rfl,X',s',rfl⟩
      . rename_i hi;cases h;rw[if_neg hi];exact⟨E',rfl,X',s',rfl⟩
    . rename_i r hne;refine wpIn_mono ((ih hlk hd hlp hrd).1 _ _ _ _ _ E0 E a h X htab s) ?_;intro e a' w' hx;have hx' :=hx;obtain⟨E',rfl,X',s',hr⟩:=hx';cases ex with
      |normal=>simp only[Jz] at hr;subst hr;exact hx
      |exit i=>exact absurd h (by intro h';exact hne _ _ _ h')
      |ret=>simp only[Jz] at hr;subst hr;exact hx
      |panic v=>obtain⟨c,rfl,_⟩:=hr;exact hx
  . intro x l t H E0 E a h;cases h
 |loop b ih=>
  intro hlk hd hlp hrd;refine⟨?_,?_⟩
  . intro t H ex t' H' E0 E a h X htab s;simp only[drawsC] at hd;simp only[Q6] at h;split at h
    . rename_i g hg;obtain⟨⟨t1,H1⟩,h1,h2⟩:=Zq8.1 h;cases h2;exact hlk.1 g hg ro dp B F N D E0 E t t1 H H1 a h1 X htab s
    obtain⟨N1,h⟩:=ls _ _ _ _ h;refine Ql4 (Qj3 (dp:=dp) ?_ N1 t H ex t' H' E0 E a h X htab s);intro t H E0 E a X htab s ex t' H' h;split at h
    . exact(ih hlk.2 hd hlp hrd).1 t H ex t' H' E0 E a h X htab s
    . rename_i x hn;split at h
      case h_2=>cases h
      rename_i c hc;obtain⟨p,hp,hwp⟩:=(ih hlk.2 hd hlp hrd).2 x _ t H E0 E a hn hc X htab s;rw[Zp9] at hp;subst hp;exact hwp ex t' H' h
  . intro x l t H E0 E a h;cases h
 |rangeFunc g ps as b iha ihb=>
  intro hlk hd hlp hrd;refine⟨?_,?_⟩
  . intro t H ex t' H' E0 E a h X htab s;cases ro with
    |some l=>exact absurd (hrd (.inl rfl)) (by simp[Q2])
    |none=>exact Qg9 ok cs hlp.1 h X htab s (by cases hD:D.2 with|false=>rfl|true=>exact absurd (hrd (.inr hD)) (by simp[Q2]))
  . intro x l t H E0 E a h;cases h
 |exit id=>
  intro hlk hd hlp hrd;refine⟨?_,?_⟩
  . intro t H ex t' H' E0 E a h X htab s;cases h;exact wpIn_exit ⟨E,rfl,X,s,rfl⟩
  . intro x l t H E0 E a h;cases h
 |scope b ih=>
  intro hlk hd hlp hrd;refine⟨?_,?_⟩
  . intro t H ex t' H' E0 E a h X htab s;cases h
  . intro x l t H E0 E a h;cases h
 |label l=>
  intro hlk hd hlp hrd;refine⟨?_,?_⟩
  . intro t H ex t' H' E0 E a h X htab s;cases h
  . intro x l t H E0 E a h;cases h
 |goto l=>
  intro hlk hd hlp hrd;refine⟨?_,?_⟩
  . intro t H ex t' H' E0 E a h X htab s;cases h
  . intro x l t H E0 E a h;cases h
 |ret=>
  intro hlk hd hlp hrd;refine⟨?_,?_⟩
  . intro t H ex t' H' E0 E a h X htab s;cases h;exact wpIn_ret ⟨E,rfl,X,s,rfl⟩
  . intro x l t H E0 E a h;cases h
 |refuse why=>
  intro hlk hd hlp hrd;refine⟨?_,?_⟩
  . intro t H ex t' H' E0 E a h X htab s;cases h
  . intro x l t H E0 E a h;cases h
theorem Jv(ok:Okay P pol)(cs:Jc P C)(ls:Qax L)(hC:Xm C)(c:Code)(hlk:Qbo P pol fn c)(hd:drawsC c=true)(hlp:Jr (Qn P fn) c)(hrd:ro.isSome=true\/D.2=true->Q2 c=[])(t:List V)(H:Heap)(ex:Ex)(t' :List V)(H' :Heap)(E0 E:Env)(a:Act)
 (h:Q6 P pol C L fn c t H=some (ex,t',H'))(X:Ext 1 B E0 E)(htab:E0.tab=Qn P)(s:St B F N D E H t a):c.wpIn (G ro) dp P (Yd B F N D E0 ex t' H') a E.w:=
 (Qhr ok cs ls hC c hlk hd hlp hrd).1 t H ex t' H' E0 E a h X htab s
theorem Qfi{E:Env}{H:Heap}{t:List V}{a:Act}(s:St B F N D E H t a){r:ResultVar}{v:V}(h:Bx P t H r=some v):
 ∃c,(match r with
  | .tmp i=>(Pure.pure (a.tmps.getD i undef):Sem Value)
  | .cell i T=>(do loadVar T (<-asAddr (a.tmps.getD i undef)):Sem Value)).run P E.w= .ok c E.w/\Rel E v c:=by
 cases r with
 |tmp i=>
  simp only[Bx,Zss] at h;subst h;exact⟨_,rfl,s.ρ (.tmp i)⟩
 |cell i T=>
  simp only[Bx] at h;split at h
  case h_2=>cases h
  rename_i f sl o hp;split at h
  case h_2=>cases h
  rename_i xs hg;have hr:=s.ρ (.tmp i);simp only[rho,Act.eval] at hr;rw[hp] at hr;simp only[Rel] at hr;obtain⟨b,hb,he⟩:=hr;obtain⟨b2,cc,T2,vs,rest,q1,_,_,_,q5,_,_,q8⟩:=s.sim.lies hg;rw[hb] at q1;cases q1;obtain⟨c,h1,h2⟩:=Qa1 (w:=E.w) h q5 q8;rw[Zpw] at h1;refine⟨c,?_,h2⟩;simp only[he,asAddr,Zsu,Zsv,Zst,h1]
theorem Qai{E:Env}{H:Heap}{t:List V}{a:Act}(s:St B F N D E H t a):∀(rs:List ResultVar) (vs:List V),Qgk P t H rs=some vs->
 ∃cs,(rs.mapM (m:=Sem) fun r=>(match r with
  | .tmp i=>(Pure.pure (a.tmps.getD i undef):Sem Value)
  | .cell i T=>(do loadVar T (<-asAddr (a.tmps.getD i undef)):Sem Value))).run P E.w= .ok cs E.w/\Qe E vs cs
 |[],vs,h=>by cases h;exact⟨[],rfl,.nil⟩
 |r::rs,vs,h=>by
  simp only[Qgk] at h;split at h
  . rename_i v vs' h1 h2;cases h;obtain⟨c,g1,g2⟩:=Qfi s h1;obtain⟨cs,g3,g4⟩:=Qai s rs vs' h2;exact⟨c::cs,by simp only[List.mapM_cons,Zsu,g1,Zst,g3,Zsv],.cons g2 g4⟩
  . cases h
theorem Qdl{E:Env}{H:Heap}{t:List V}{a:Act}(s:St B F N D E H t a){f:Func}{v:V}(h:Qa5 P f t H=some v):
 ∃c,(results f a.tmps).run P E.w= .ok c E.w/\Rel E v c:=by
 unfold Qa5 at h;split at h
 . rename_i v' hl;cases h;obtain⟨cs,h1,h2⟩:=Qai s _ _ hl;obtain⟨c,r,rfl,hc,hr⟩:=Qe.cons_iff.1 h2;rw[Qe.nil_iff] at hr;subst hr;refine⟨c,?_,hc⟩;simp only[results,Zsu];rw[Zr5];simp only[Sem.run_map];exact(congrArg (fun r:Result (List Value)=>(r.andThen fun a w' =>Result.ok a.toArray w').andThen fun a w' =>Sem.run P (Pure.pure (if h:a.size=1 then a[0] else Value.tuple a)) w') h1).trans rfl
 . rename_i vs hne hl;cases h;obtain⟨cs,h1,h2⟩:=Qai s _ _ hl;refine⟨.tuple ⟨cs⟩,?_,by simp only[Rel];exact⟨cs,rfl,h2⟩⟩;simp only[results,Zsu];rw[Zr5];simp only[Sem.run_map];refine(congrArg (fun r:Result (List Value)=>(r.andThen fun a w' =>Result.ok a.toArray w').andThen fun a w' =>Sem.run P (Pure.pure (if h:a.size=1 then a[0] else Value.tuple a)) w') h1).trans ?_;have hlen:=h2.length;have:¬((⟨cs⟩:Array Value).size=1):=by
    intro e;have e1:vs.length=1:=by rw[hlen];exact e
    obtain⟨x,rfl⟩:=List.length_eq_one_iff.1 e1;exact hne x rfl
   simp only[Zst,this,dif_neg,not_false_eq_true,Zsv]
 . cases h
theorem Okay.loopsIn(ok:Okay P pol){f:FuncId}{Fn:Func}{c:Code}(hF:P.funcs[f]?=some Fn)(hc:Fn.body=some c):Jr (Qn P f) c:=
 Qc2 _ c (ok.loops f Fn c hF hc).1 fun rid _=>by simp only[Qn,hF,hc]
def DsR(E:Env):List V->List Deferred->Prop
 |[],Ds=>Ds=[]
 |v::ds,Ds=>∃fn fi ca r,Ds=({target:= .fn fn ca,args:=fi}:Deferred)::r/\Rel E v (.func fn fi ca)/\DsR E ds r
theorem DsR.append{E:Env}:∀{ds es:List V} {Ds Es:List Deferred},DsR E ds Ds->DsR E es Es->DsR E (ds++es) (Ds++Es)
 |[],_,_,_,h,h2=>by cases h;exact h2
 |v::ds,es,_,_,h,h2=>by
  obtain⟨fn,fi,ca,r,rfl,h3,h4⟩:=h;exact⟨fn,fi,ca,_,rfl,h3,h4.append h2⟩
theorem DsR.mono{E E' :Env}{k:Nat}(X:Ext k B E E')(hk:∀f s,(E.mu f s).isSome->f<k):∀{ds:List V} {Ds:List Deferred},DsR E ds Ds->DsR E' ds Ds
 |[],_,h=>h
 |v::ds,_,h=>by
  obtain⟨fn,fi,ca,r,rfl,h3,h4⟩:=h;exact⟨fn,fi,ca,r,rfl,Rel.mono X hk _ _ h3,DsR.mono X hk h4⟩
theorem St.weak{D0:List Deferred}{E:Env}{H:Heap}{t:List V}{a:Act}(s:St B F N (D0,true) E H t a):St B F N (D0,false) E H t a:=by obtain⟨rs,h1,h2,h3,_⟩:=s.defers;exact⟨s.sim,s.one,s.rel,⟨rs,h1,h2,h3,fun q=>by cases q⟩,s.nsz⟩
def Q82(B:Nat)(F:Nat->Nat->Prop)(N:Nat)(D0:List Deferred)(E0:Env)(ex:Ex)(t' :List V)(H' :Heap)(ds:List V):Exit->Act->World->Prop:=
 fun e a' w' =>∃E' Ds,E'.w=w' /\Ext 1 B E0 E' /\DsR E' ds Ds/\St B F N (Ds++D0,false) E' H' t' a' /\Jz E' ex e
theorem Qwa{a:Code}{ops:Array Oper}{l:List Oper}{d:Option Nat}{x:Operand}(h:Qie a=some (ops,l,d,x)):
 ∃id o c,a= .region id ops false/\ops.toList=l++[o]/\o.guard=none/\o.op= .defer c/\o.dst=d/\c.callee= .value x/\c.args.toList=[]:=by
 unfold Qie at h;split at h
 case h_2=>cases h
 rename_i id ops';split at h
 case h_2=>cases h
 rename_i o r hr;split at h
 case h_2=>cases h
 rename_i c hg ho;split at h
 case h_2=>cases h
 rename_i y hc ha;cases h;refine⟨id,o,c,rfl,?_,hg,ho,rfl,hc,ha⟩;have:=congrArg List.reverse hr;simpa using this
theorem Qh2(ok:Okay P pol)(cs:Jc P C){ops:Array Oper}{E0:Env}{post:List Oper}{Q:Exit->Act->World->Prop}:∀(l pre:List Oper) (t:List V) (H:Heap) (t' :List V) (H' :Heap) (E:Env) (a:Act),
 ops.toList=pre++(l++post)->Zf P pol C ops l t H=some (.normal,t',H')->Ext 1 B E0 E->E0.tab=Qn P->St B F N D E H t a->
 (∀a' E',Ext 1 B E0 E' ->St B F N D E' H' t' a' ->wpOpsIn (G ro) dp P ops Q (List.range' (pre.length+l.length) post.length) a' E'.w)->
 wpOpsIn (G ro) dp P ops Q (List.range' pre.length (l.length+post.length)) a E.w
 |[],pre,t,H,t',H',E,a,_,h,X0,htab,s,hk=>by
  cases h;simpa using hk a E X0 s
 |o::l,pre,t,H,t',H',E,a,he,h,X0,htab,s,hk=>by
  have ho:ops[pre.length]?=some o:=by
   have:ops.toList[pre.length]?=some o:=by rw[he];simp
   simpa using this
  have he' :ops.toList=(pre++[o])++(l++post):=by rw[he];simp
  have hk' :∀a' E',Ext 1 B E0 E' ->St B F N D E' H' t' a' ->wpOpsIn (G ro) dp P ops Q (List.range' ((pre++[o]).length+l.length) post.length) a' E'.w:=by intro a' E' X' s';have:=hk a' E' X' s';simp only[Zq2] at this;simp only[Zqp,List.length_singleton];rwa[show pre.length+1+l.length=pre.length+(l.length+1) by omega]
  have hlen:(o::l).length+post.length=(l.length+post.length)+1:=by simp only[Zq2];omega
  rw[hlen];simp only[Zq3,wpOpsIn,ho];simp only[Zf] at h;split at h
  . cases h
  . rename_i hw;have:=Jt s hw;rw[if_neg (by rw[this];decide)];refine⟨fun _ _=>trivial,?_⟩;have ih:=Qh2 ok cs l (pre++[o]) _ _ _ _ E _ he' h X0 htab (s.put o.dst (v:=nov) (c:=undef) (by simp[Rel,Qe,undef])) hk';simpa using ih
  . rename_i hw;have:=Jt s hw;rw[if_pos this];split at h
    . rename_i t1 H1 hop;refine Xg ok cs hop X0 htab s ?_ (fun hne=>absurd rfl hne);intro _ a' E' X' s';have ih:=Qh2 ok cs l (pre++[o]) _ _ _ _ E' a' he' h X' htab s' hk';simpa using ih
    . rename_i x hne;exact absurd h (fun h' =>hne _ _ h')
theorem Qxr(ok:Okay P pol)(cs:Jc P C)(ls:Qax L)(hC:Xm C):∀(c:Code),Qbo P pol fn c->drawsC c=true->Jr (Qn P fn) c->
 ∀(t:List V) (H:Heap) (ex:Ex) (t' :List V) (H' :Heap) (ds:List V) (D0:List Deferred) (E0 E:Env) (a:Act),Qd1 P pol C L fn c t H=some (ex,t',H',ds)->Ext 1 B E0 E->E0.tab=Qn P->St B F N (D0,true) E H t a->
  c.wpIn (G none) dp P (Q82 B F N D0 E0 ex t' H' ds) a E.w:=by
 have base:∀(c:Code),Qbo P pol fn c->drawsC c=true->Jr (Qn P fn) c->
  ∀(t:List V) (H:Heap) (ex:Ex) (t' :List V) (H' :Heap) (ds:List V) (D0:List Deferred) (E0 E:Env) (a:Act),noD (Q6 P pol C L fn c t H)=some (ex,t',H',ds)->Ext 1 B E0 E->E0.tab=Qn P->St B F N (D0,true) E H t a->
   c.wpIn (G none) dp P (Q82 B F N D0 E0 ex t' H' ds) a E.w:=by
  intro c hlk hd hlp t H ex t' H' ds D0 E0 E a h X htab s;cases he:Q6 P pol C L fn c t H with
  |none=>rw[he] at h;cases h
  |some q=>
   obtain⟨e,t1,H1⟩:=q;rw[he] at h;cases h;refine wpIn_mono (Jv (ro:=none) (dp:=dp) ok cs ls hC c hlk hd hlp (fun q=>by rcases q with q|q<;>cases q) _ _ _ _ _ E0 E a he X htab s.weak) ?_;rintro e a' w' ⟨E',rfl,X',s',he'⟩;exact⟨E',[],rfl,X',rfl,s',he'⟩
 intro c
 induction c with
 |seq a b iha ihb=>
  intro hlk hd hlp t H ex t' H' ds D0 E0 E ac h X htab s;have hd2:=hd;simp only[drawsC,Zqf] at hd2;simp only[Qd1] at h;split at h
  . rename_i ops l d x hdo;obtain⟨id,o,c,rfl,hops,hg,ho,hdst,hcal,harg⟩:=Qwa hdo;split at h
    case h_2=>cases h
    rename_i t1 H1 h1;split at h
    case h_2=>cases h
    rename_i f p q hv;split at h
    case h_2=>cases h
    rename_i ex2 t2 H2 ds2 h2;cases h;refine wpIn_seq ?_;refine wpIn_region ?_;have hsz:List.range ops.size=List.range' 0 (l.length+1):=by have:=congrArg List.length hops;simp only[Zrh,Zqp,List.length_singleton] at this;rw[Zrn,this]
    rw[hsz];refine Qh2 (ro:=none) (dp:=dp) (post:=[o]) ok cs l [] t H t1 H1 E ac (by simpa using hops) h1 X htab s ?_;intro a1 E1 X1 s1;have hoi:ops[l.length]?=some o:=by
     have:ops.toList[l.length]?=some o:=by rw[hops];simp
     simpa using this
    have hw:Region.wanted o (yielded ops a1.tmps)=true:=by simp[Region.wanted,hg]
    simp only[Zq4,Zpw,List.length_singleton,List.range'_one,wpOpsIn,hoi];rw[if_pos hw];refine⟨fun _ _=>trivial,?_⟩;have hr:=s1.ρ x;rw[hv] at hr;have hr0:=hr;simp only[Rel] at hr;obtain⟨fi,ca,hfe,h3,h4⟩:=hr;rw[hfe] at hr0;have hrun:(o.semAt (G none).round a1.eval).run P E1.w= .ok (.defer {target:= .fn f ⟨ca⟩,args:=⟨fi⟩}) E1.w:=by
     have ha:c.args= #[]:=by apply Array.ext';simpa using harg
     show(execOp a1.eval o).run P E1.w=_;unfold execOp;simp only[ho,resolve,hcal,hfe,ha,Deferred.ofValue,Zsu,Zsv,Zst];simp
    rw[hrun,Oper.uponIn_defer];have s2:St B F N (({target:= .fn f ⟨ca⟩,args:=⟨fi⟩}:Deferred)::D0,true) E1 H1 (Qs t1 o.dst nov) ({a1 with defers:=({target:= .fn f ⟨ca⟩,args:=⟨fi⟩}:Deferred)::a1.defers}.put o.dst undef):=by
     have s3:=s1.put o.dst (v:=nov) (c:=undef) (by simp[Rel,Qe,undef]);obtain⟨rs,m1,m2,m3,m4⟩:=s1.defers;have:=m4 rfl;subst this;refine⟨s1.sim,s1.one,?_,?_,s1.nsz⟩
     . have:=s3.rel;cases hq:o.dst<;>rw[hq] at this<;>exact this
     . refine⟨[],?_,List.nodup_nil,(fun _ h=>by cases h),fun _=>rfl⟩;cases hq:o.dst<;>simp[Act.put,m1]
    rw[hdst] at s2⊢;have ih:=ihb hlk.2 hd2.2 hlp.2 _ _ _ _ _ _ _ E1 E1 _ h2 (Ext.refl _ _ _) (X1.tab.trans htab) s2;refine wpIn_mono ih ?_;rintro e a' w' ⟨E',Ds,rfl,X',hD,s',he⟩;refine⟨E',Ds++[{target:= .fn f ⟨ca⟩,args:=⟨fi⟩}],rfl,X1.trans X',hD.append ⟨f,⟨fi⟩,⟨ca⟩,[],rfl,?_,rfl⟩,by simpa using s',he⟩;exact Rel.mono X' (fun f i q=>s1.one▸s1.sim.lt f i q) _ _ hr0
  . split at h
    . rename_i hl;have hnl:Q2 a=[]:=by simpa using hl
      refine wpIn_seq ?_;split at h
      . rename_i t1 H1 hx;refine wpIn_mono (Jv (ro:=none) (dp:=dp) ok cs ls hC a hlk.1 hd2.1 hlp.1 (fun _=>hnl) _ _ _ _ _ E0 E ac hx X htab s) ?_;rintro e a' w' ⟨E',rfl,X',s',hr⟩;simp only[Jz] at hr;subst hr;exact ihb hlk.2 hd2.2 hlp.2 _ _ _ _ _ _ _ E0 E' _ h X' htab s'
      . rename_i e t1 H1 hne hx;cases h;refine wpIn_mono (Jv (ro:=none) (dp:=dp) ok cs ls hC a hlk.1 hd2.1 hlp.1 (fun _=>hnl) _ _ _ _ _ E0 E ac hx X htab s) (Yd.through (fun q=>?_) ?_)
        . subst q;exact(hne rfl).elim
        . rintro e a' w' ⟨E',rfl,X',s',he⟩;exact⟨E',[],rfl,X',rfl,s'.weak,he⟩
      . cases h
    . exact base _ hlk hd hlp _ _ _ _ _ _ _ _ _ _ h X htab s
 |_=>intro hlk hd hlp t H ex t' H' ds D0 E0 E a h X htab s;simp only[Qd1] at h;exact base _ hlk hd hlp _ _ _ _ _ _ _ _ _ _ h X htab s
theorem Qiw{fn:Func}{tmps:Array Value}{R:Ending->World->Prop}{E E0:Env}{H:Heap}{t:List V}{k n:Nat}{u:FrameMode}{Ds:List Deferred}(hu:u≠ .run)(hB:B<=N)(h0:E0.w.heap.size<=N)
 (fin:∀E',Ext k B E0 E' ->Sim B F H E' ->Qe E' t tmps.toList->(∀x v,Rel E x v->Rel E' x v)->LeavesInM Fence.wide n P fn tmps R Ds u E'.w):
 ∀(rs:List Nat) (E1:Env),Ext k B E0 E1->Sim B F H E1->Qe E1 t tmps.toList->(∀x v,Rel E x v->Rel E1 x v)->rs.Nodup->(∀r∈rs,N<=r/\E1.w.heap[r]?=some (Obj.deferred (some [])))->
  LeavesInM Fence.wide n P fn tmps R ((rs.map fun r=>({target:= .collected r,args:= #[]}:Deferred))++Ds) u E1.w
 |[],E1,X,S,hr,hx,_,_=>fin E1 X S hr hx
 |r::rs,E1,X,S,hr,hx,hnd,hm=>by
  obtain⟨q1,q2⟩:=hm r (by simp);rw[Zr3] at hnd;simp only[Zp4,Zqo,LeavesInM];refine⟨hu,.inl ⟨r,(E1.put r (Obj.deferred none)).w,rfl,run_takeDeferred q2,?_⟩⟩;refine Qiw hu hB h0 fin rs (E1.put r (Obj.deferred none)) (X.shut q2 (by omega) (by omega)) (S.shut q2) (Qe.lite (Qct q2) S.lt _ _ hr) (fun x v h=>Rel.lite (Qct q2) S.lt _ _ (hx x v h)) hnd.2 ?_;intro r' hr';refine⟨(hm r' (Zp0 _ hr')).1,?_⟩;rw[Jd E1 r _ r' (fun e=>hnd.1 (e▸hr'))];exact(hm r' (Zp0 _ hr')).2
theorem Qlp(ok:Okay P pol)(cs:Jc P C){Fn:Func}{tmps:Array Value}{R:Ending->World->Prop}{E:Env}{H2:Heap}{t:List V}
 (fin:∀E3,Ext 1 B E E3->Sim B F H2 E3->H2.length=1->Qe E3 t tmps.toList->LeavesInM Fence.wide 0 P Fn tmps R [] .returning E3.w)(tab0:E.tab=Qn P):
 ∀(ds:List V) (Ds:List Deferred) (H:Heap) (E1:Env),DsR E1 ds Ds->Qem P C ds H=some H2->Ext 1 B E E1->Sim B F H E1->H.length=1->Qe E1 t tmps.toList->LeavesInM Fence.wide 0 P Fn tmps R Ds .returning E1.w
 |[],Ds,H,E1,hD,h,X,S,one,hr=>by
  cases hD;cases h;exact fin E1 X S one hr
 |v::ds,Ds,H,E1,hD,h,X,S,one,hr=>by
  obtain⟨fn',fi,ca,r,rfl,hv,hD'⟩:=hD;have key:∃g first cap,v= .func (.func g) first cap:=by
   cases v with
   |func f p q=>
    cases f with
    |func g=>exact⟨g,p,q,rfl⟩
    |_=>simp[Qem] at h
   |_=>simp[Qem] at h
  obtain⟨g,first,cap,rfl⟩:=key;simp only[Qem] at h
  .
   split at h
   case isFalse=>cases h
   rename_i hp;split at h
   case h_2=>cases h
   rename_i w H1 h1;simp only[Rel] at hv;obtain⟨fi',ca',e,r1,r2⟩:=hv;cases e;obtain⟨Fg,cg,hF1,hF2⟩:=(cs.1 g _ _ _ _ h1).1;have hnum:=ok.num g Fg hF1 (by rw[hF2];rfl);have tab1:E1.tab=Qn P:=X.tab.trans tab0;refine⟨by simp,.inr ⟨(fun q=>by cases q),.func g,⟨ca'⟩,g,⟨fi' ++ca'⟩,rfl,?_,(fun _ _=>trivial),?_⟩⟩
   . have e1:((⟨fi'⟩:Array Value)++(⟨ca'⟩:Array Value))=⟨fi' ++ca'⟩:=by simp
     simp only[invoke,e1,callFunc,Zsu,run_program,Zst,hF1,hnum,Zpo,if_false,hF2,Option.isNone_some,Zsv]
   . refine(cs.2.2 g (first++cap) H (.ret w) H1 hp h1 B F E1 (fi' ++ca') (0-1) .returning S one tab1 (r1.append r2)).mono ?_;rintro en u' w' ⟨rfl,E',rfl,⟨c,rfl,_⟩,S',X',one'⟩;exact Qlp ok cs fin tab0 ds r H1 E' (hD'.mono X' (fun f i q=>one▸S.lt f i q)) h (X.trans X') S' one' (Qe.mono X' (fun f i q=>one▸S.lt f i q) _ _ hr)
theorem Qy8(ok:Okay P pol)(cs:Jc P C)(ls:Qax L)(hC:Xm C)(f:FuncId){Fn:Func}{c:Code}(hFn:P.funcs[f]?=some Fn)(hc:Fn.body=some c)(args:List V)(H:Heap)(r:Rt)(H' :Heap)(h:Qxk P pol C L f Fn c args H=some (r,H')):
 ∀B F E cargs,Sim B F H E->H.length=1->E.tab=Qn P->Qe E args cargs->Calls P f ⟨cargs⟩ E.w (Answer B F H E r H'):=by
 intro B F E cargs S one htab hr;have hl:=hr.length;have s:St B F E.w.heap.size ([],true) E H (args++List.replicate (Fn.ntmps-args.length) .bad) {tmps:=(⟨cargs⟩:Array Value)++Array.replicate (Fn.ntmps-(⟨cargs⟩:Array Value).size) undef,defers:=[]}:=by
  refine⟨S,one,?_,Bu.nil,Zpp _⟩;have:((⟨cargs⟩:Array Value)++Array.replicate (Fn.ntmps-(⟨cargs⟩:Array Value).size) undef).toList=cargs++List.replicate (Fn.ntmps-args.length) undef:=by simp[hl]
  rw[this];exact hr.append (Qe.replicate _ (by simp[Rel]))
 refine(callsIn_wide (n:=0)).1 (callsIn_of_wp_marks (F:=Fence.wide) hFn hc trivial ?_);have plain:∀(ex:Ex) (t:List V) (H1 H2:Heap) (ds:List V) (v:V),(ex= .normal\/ex= .ret)->Qd1 P pol C L f c (args++List.replicate (Fn.ntmps-args.length) .bad) H=some (ex,t,H1,ds)->
  Qem P C ds H1=some H2->Qa5 P Fn t H2=some v->c.wpIn Fence.wide 0 P (bodyPostM Fence.wide 0 P Fn (Answer B F H E (.ret v) H2)) {tmps:=(⟨cargs⟩:Array Value)++Array.replicate (Fn.ntmps-(⟨cargs⟩:Array Value).size) undef,defers:=[]} E.w:=by
  intro ex t H1 H2 ds v hex hrun hds hres;refine wpIn_mono (Qxr (dp:=0) ok cs ls hC c (ok.loop f Fn c hFn hc) (ok.draws f Fn c hFn hc) (ok.loopsIn hFn hc) _ _ _ _ _ _ [] E E _ hrun (Ext.refl _ _ _) htab s) ?_;rintro e a' w' ⟨E',Ds,rfl,X',hD,s',he⟩;obtain⟨rs,m1,m2,m3,_⟩:=s'.defers;rw[Zqd] at m1;have hleave:LeavesInM Fence.wide 0 P Fn a'.tmps (Answer B F H E (.ret v) H2) a'.defers .returning E'.w:=by
   rw[m1];refine Qiw (B:=B) (F:=F) (H:=H1) (E:=E') (N:=E.w.heap.size) (E0:=E) (t:=t) (k:=1) (fun q=>by cases q) S.bsz (Zpp _) ?_ rs E' X' s'.sim s'.rel (fun _ _ h=>h) m2 m3;intro E3 X3 S3 r3 hx3;refine Qlp (B:=B) (F:=F) (t:=t) ok cs ?_ htab ds Ds H1 E3 ?_ hds X3 S3 s'.one r3
   . intro E4 X4 S4 one4 r4;have s4:St B F E.w.heap.size ([],false) E4 H2 t {a' with defers:=[]}:=⟨S4,one4,r4,Bu.nil,X4.size⟩;obtain⟨cv,h1,h2⟩:=Qdl s4 hres;exact⟨cv,h1,E4,rfl,⟨cv,rfl,h2⟩,S4,X4,one4⟩
   . have key:∀(ds:List V) (Ds:List Deferred),DsR E' ds Ds->DsR E3 ds Ds:=by
      intro ds
      induction ds with
      |nil=>intro Ds h;exact h
      |cons v ds ih=>
       intro Ds h;obtain⟨fn,fi,ca,r,rfl,h3,h4⟩:=h;exact⟨fn,fi,ca,r,rfl,hx3 _ _ h3,ih _ h4⟩
     exact key _ _ hD
  rcases hex with rfl|rfl
  . simp only[Jz] at he;subst he;exact hleave
  . simp only[Jz] at he;subst he;exact hleave
 unfold Qxk at h;split at h
 . rename_i t H1 ds hrun;split at h
   case h_2=>cases h
   rename_i H2 hds;split at h
   case h_2=>cases h
   rename_i v hv;cases h;exact plain _ t _ _ _ v (.inl rfl) hrun hds hv
 . rename_i t H1 ds hrun;split at h
   case h_2=>cases h
   rename_i H2 hds;split at h
   case h_2=>cases h
   rename_i v hv;cases h;exact plain _ t _ _ _ v (.inr rfl) hrun hds hv
 . cases h
theorem Qx4(ok:Okay P pol)(cs:Jc P C)(ls:Qax L)(hC:Xm C)(f:FuncId)(args:List V)(H:Heap)(r:Rt)(H' :Heap)(hp:Qmq P f=true)(h:Qbi P pol C L f args H=some (r,H')):
 ∀B F E cargs (n:Nat) (u:FrameMode),Sim B F H E->H.length=1->E.tab=Qn P->Qe E args cargs->CallsDIn Fence.wide n P f ⟨cargs⟩ u E.w fun e u' w' =>u' =u/\Answer B F H E r H' e w' :=by
 unfold Qmq at hp;unfold Qbi at h;split at h
 case h_2=>cases h
 rename_i Fn hFn;rw[hFn] at hp;simp only at hp;split at h
 case h_2=>cases h
 rename_i c hc;rw[hc] at hp;simp only[Zqf,List.isEmpty_iff,Zqg] at hp;rw[if_neg (by rw[hp.2];decide)] at h;intro B F E cargs n u S one htab hr;have hl:=hr.length;have s:St B F E.w.heap.size ([],true) E H (args++List.replicate (Fn.ntmps-args.length) .bad) {tmps:=(⟨cargs⟩:Array Value)++Array.replicate (Fn.ntmps-(⟨cargs⟩:Array Value).size) undef,defers:=[]}:=by
  refine⟨S,one,?_,Bu.nil,Zpp _⟩;have:((⟨cargs⟩:Array Value)++Array.replicate (Fn.ntmps-(⟨cargs⟩:Array Value).size) undef).toList=cargs++List.replicate (Fn.ntmps-args.length) undef:=by simp[hl]
  rw[this];exact hr.append (Qe.replicate _ (by simp[Rel]))
 refine callsDIn_of_wp (R:=Answer B F H E r H') hFn hc trivial ?_;have none_:∀{E' :Env} {H1:Heap} {t:List V} {a' :Act},St B F E.w.heap.size ([],true) E' H1 t a' ->a'.defers=[]:=by intro E' H1 t a' s';obtain⟨rs,m1,_,_,m4⟩:=s'.defers;have:=m4 rfl;subst this;exact m1
 have plain:∀(ex:Ex) (t:List V) (H1:Heap) (v:V),(ex= .normal\/ex= .ret)->Q6 P pol C L f c (args++List.replicate (Fn.ntmps-args.length) .bad) H=some (ex,t,H1)->
  Qa5 P Fn t H1=some v->c.wpIn Fence.wide n P (bodyPost P Fn (Answer B F H E (.ret v) H1)) {tmps:=(⟨cargs⟩:Array Value)++Array.replicate (Fn.ntmps-(⟨cargs⟩:Array Value).size) undef,defers:=[]} E.w:=by
  intro ex t H1 v hex hrun hres;refine wpIn_mono (Jv (ro:=none) (dp:=n) ok cs ls hC c (ok.loop f Fn c hFn hc) (ok.draws f Fn c hFn hc) (ok.loopsIn hFn hc) (fun _=>hp.1) _ _ _ _ _ E E _ hrun (Ext.refl _ _ _) htab s) ?_;rintro e a' w' ⟨E',rfl,X',s',he⟩;obtain⟨cv,h1,h2⟩:=Qdl s' hres;have fin:a'.defers=[]/\∃v_1,(results Fn a'.tmps).run P E'.w= .ok v_1 E'.w/\Answer B F H E (.ret v) H1 (.returned v_1) E'.w:=⟨none_ s',cv,h1,E',rfl,⟨cv,rfl,h2⟩,s'.sim,X',s'.one⟩;rcases hex with rfl|rfl
  . simp only[Jz] at he;subst he;exact fin
  . simp only[Jz] at he;subst he;exact fin
 split at h
 . rename_i t H1 hex;split at h
   case h_2=>cases h
   rename_i v hv;cases h;exact plain _ t _ v (.inl rfl) hex hv
 . rename_i t H1 hex;split at h
   case h_2=>cases h
   rename_i v hv;cases h;exact plain _ t _ v (.inr rfl) hex hv
 . rename_i v t H1 hrun;cases h;refine wpIn_mono (Jv (ro:=none) (dp:=n) ok cs ls hC c (ok.loop f Fn c hFn hc) (ok.draws f Fn c hFn hc) (ok.loopsIn hFn hc) (fun _=>hp.1) _ _ _ _ _ E E _ hrun (Ext.refl _ _ _) htab s) ?_;rintro e a' w' ⟨E',rfl,X',s',cv,rfl,hcv⟩;exact⟨none_ s',E',rfl,⟨cv,rfl,hcv⟩,s'.sim,X',s'.one⟩
 . cases h
theorem Qhu(ok:Okay P pol)(cs:Jc P C)(ls:Qax L)(hC:Xm C)(f:FuncId)(args:List V)(H:Heap)(r:Rt)(H' :Heap)(h:Qbi P pol C L f args H=some (r,H')):(∃(F:Func) (c:Code),P.funcs[f]?=some F/\F.body=some c)/\
 ∀B F E cargs,Sim B F H E->H.length=1->E.tab=Qn P->Qe E args cargs->Calls P f ⟨cargs⟩ E.w (Answer B F H E r H'):=by
 unfold Qbi at h;split at h
 case h_2=>cases h
 rename_i Fn hFn;split at h
 case h_2=>cases h
 rename_i c hc;refine⟨⟨Fn,c,hFn,hc⟩,?_⟩;by_cases hdc:Qjx c=true
 . rw[if_pos hdc] at h;exact Qy8 ok cs ls hC f hFn hc args H r H' h
 rw[if_neg hdc] at h;intro B F E cargs S one htab hr;have hl:=hr.length;have s:St B F E.w.heap.size ([],false) E H (args++List.replicate (Fn.ntmps-args.length) .bad) {tmps:=(⟨cargs⟩:Array Value)++Array.replicate (Fn.ntmps-(⟨cargs⟩:Array Value).size) undef,defers:=[]}:=by
  refine⟨S,one,?_,Bu.nil,Zpp _⟩;have:((⟨cargs⟩:Array Value)++Array.replicate (Fn.ntmps-(⟨cargs⟩:Array Value).size) undef).toList=cargs++List.replicate (Fn.ntmps-args.length) undef:=by simp[hl]
  rw[this];exact hr.append (Qe.replicate _ (by simp[Rel]))
 refine(callsIn_wide (n:=0)).1 (callsIn_of_wp_marks (F:=Fence.wide) hFn hc trivial ?_);have plain:∀(ex:Ex) (t:List V) (H1:Heap) (v:V),(ex= .normal\/ex= .ret)->Q6 P pol C L f c (args++List.replicate (Fn.ntmps-args.length) .bad) H=some (ex,t,H1)->
  Qa5 P Fn t H1=some v->c.wpIn Fence.wide 0 P (bodyPostM Fence.wide 0 P Fn (Answer B F H E (.ret v) H1)) {tmps:=(⟨cargs⟩:Array Value)++Array.replicate (Fn.ntmps-(⟨cargs⟩:Array Value).size) undef,defers:=[]} E.w:=by
  intro ex t H1 v hex hrun hres;refine wpIn_mono (Jv (ro:=none) (dp:=0) ok cs ls hC c (ok.loop f Fn c hFn hc) (ok.draws f Fn c hFn hc) (ok.loopsIn hFn hc) (fun q=>by rcases q with q|q<;>cases q) _ _ _ _ _ E E _ hrun (Ext.refl _ _ _) htab s) ?_;rintro e a' w' ⟨E',rfl,X',s',he⟩;obtain⟨rs,m1,m2,m3,_⟩:=s'.defers;rw[Zqd] at m1;have hleave:LeavesInM Fence.wide 0 P Fn a'.tmps (Answer B F H E (.ret v) H1) a'.defers .returning E'.w:=by rw[m1];refine Qa7 (B:=B) (F:=F) (H:=H1) (E:=E') (N:=E.w.heap.size) (E0:=E) (t:=t) (k:=1) (fun q=>by cases q) S.bsz (Zpp _) ?_ rs E' X' s'.sim s'.rel (fun _ _ h=>h) m2 m3;intro E3 X3 S3 r3 hx3;have s3:St B F E.w.heap.size ([],false) E3 H1 t {a' with defers:=[]}:=⟨S3,s'.one,r3,Bu.nil,X3.size⟩;obtain⟨cv,h1,h2⟩:=Qdl s3 hres;exact⟨cv,h1,E3,rfl,⟨cv,rfl,h2⟩,S3,X3,s'.one⟩
  rcases hex with rfl|rfl
  . simp only[Jz] at he;subst he;exact hleave
  . simp only[Jz] at he;subst he;exact hleave
 split at h
 . rename_i t H1 hex;split at h
   case h_2=>cases h
   rename_i v hv;cases h;exact plain _ t _ v (.inl rfl) hex hv
 . rename_i t H1 hex;split at h
   case h_2=>cases h
   rename_i v hv;cases h;exact plain _ t _ v (.inr rfl) hex hv
 . rename_i v t H1 hrun;cases h;refine wpIn_mono (Jv (ro:=none) (dp:=0) ok cs ls hC c (ok.loop f Fn c hFn hc) (ok.draws f Fn c hFn hc) (ok.loopsIn hFn hc) (fun q=>by rcases q with q|q<;>cases q) _ _ _ _ _ E E _ hrun (Ext.refl _ _ _) htab s) ?_;rintro e a' w' ⟨E',rfl,X',s',cv,rfl,hcv⟩;obtain⟨rs,m1,m2,m3,_⟩:=s'.defers;rw[Zqd] at m1;show LeavesInM Fence.wide 0 P Fn a'.tmps _ a'.defers (.panicking _) E'.w;rw[m1];refine Qa7 (B:=B) (F:=F) (H:=H') (E:=E') (N:=E.w.heap.size) (E0:=E) (t:=t) (k:=1) (by simp) S.bsz (Zpp _) ?_ rs E' X' s'.sim s'.rel (fun _ _ h=>h) m2 m3;intro E3 X3 S3 r3 hx3;exact⟨E3,rfl,⟨cv,rfl,hx3 _ _ hcv⟩,S3,X3,s'.one⟩
 . cases h
theorem Qcb{E:Env}:∀(ps:List Tmp) (args:List V) (cargs:List Value) (t:List V) (vs:Array Value),args.length=ps.length->Qe E args cargs->Qe E t vs.toList->
 Qe E (Bo t (ps.zip args)) ((ps.zip cargs).foldl (fun(tmps:Array Value) (p:Tmp×Value)=>tmps.setIfInBounds p.1 p.2) vs).toList
 |[],_,_,_,_,_,_,h=>by simpa [Bo] using h
 |p::ps,[],_,_,_,hl,_,_=>by simp at hl
 |p::ps,x::args,cargs,t,vs,hl,hr,h=>by
  obtain⟨v,r,rfl,h1,h2⟩:=Qe.cons_iff.1 hr;simp only[List.zip_cons_cons,Bo,Zqw];refine Qcb ps args r _ _ (by simpa using hl) h2 ?_;have:=h.set p h1;simpa using this
theorem Qht(ok:Okay P pol)(cs:Jc P C)(ls:Qax L)(hC:Xm C)(fo so:Nat)(rest:List V)(H:Heap)(r:Rt)(H' :Heap)(h:Qba P pol C L fo so rest H=some (r,H')):
 ∀B F E b cargs (n:Nat),Sim B F H E->H.length=1->E.tab=Qn P->E.mu fo so=some b->Qe E rest cargs->
 ∃rec:Loop,E.w.heap[b]?=some (.loop rec)/\cargs.length=rec.params.size/\
  RoundIn Fence.wide n P b rec.fn ((rec.params.zip (⟨cargs⟩:Array Value)).foldl (fun tmps (t,a)=>tmps.setIfInBounds t a) rec.tmps) rec.assign rec.body E.w (Answer B F H E r H'):=by
 intro B F E b cargs n S one htab hb hr;unfold Qba at h;split at h
 case h_2=>cases h
 rename_i pend fL rid t0 hg;split at h
 case h_2=>cases h
 rename_i ps as bd hla;split at h
 case isFalse=>cases h
 rename_i hlen;obtain⟨b',r0,q1,q2,q3,q4,q5,q7,q8⟩:=S.obj _ _ _ hg;rw[hb] at q1;cases q1;rw[htab,hla] at q7;simp only[Zss,Prod.mk.injEq] at q7;obtain⟨rfl,rfl,rfl⟩:=q7;refine⟨r0,q3,by rw[<-hr.length];exact hlen,?_⟩;split at h
 case h_2=>cases h
 rename_i t1 H1 hx1;split at h
 case h_2=>cases h
 rename_i pend1 fL1 rid1 t01 hg1;split at h
 case h_2=>cases h
 rename_i e2 t2 H2 hx2;obtain⟨Fn,c,hF,hc,hfl⟩:∃Fn c,P.funcs[fL]?=some Fn/\Fn.body=some c/\Qz rid c=some (r0.params,r0.assign,r0.body):=by
  unfold Qn at hla;split at hla
  case h_2=>cases hla
  rename_i Fn hF;split at hla
  case h_2=>cases hla
  rename_i c hc;exact⟨Fn,c,hF,hc,hla⟩
 obtain⟨d1,d2,e1,e3⟩:=Qga c hfl (ok.draws fL Fn c hF hc) (ok.loops fL Fn c hF hc).2;have hfo:fo<1:=one▸Yt hg;have hlk:=Qw9 (P:=P) (pol:=pol) (fn:=fL) c hfl (ok.loop fL Fn c hF hc);refine roundIn_of_wpIn (F:=Fence.wide) trivial ?_;have s0:St B F E.w.heap.size ([],false) E H (Bo t0 (r0.params.toList.zip rest)) {tmps:=(r0.params.zip (⟨cargs⟩:Array Value)).foldl (fun tmps (t,a)=>tmps.setIfInBounds t a) r0.tmps,defers:=[]}:=by
  refine⟨S,one,?_,Bu.nil,Zpp _⟩;have:=Qcb r0.params.toList rest cargs t0 r0.tmps (by simpa using hlen) hr q8;have e:(r0.params.zip (⟨cargs⟩:Array Value)).foldl (fun tmps (t,a)=>tmps.setIfInBounds t a) r0.tmps=(r0.params.toList.zip cargs).foldl (fun(tmps:Array Value) (p:Tmp×Value)=>tmps.setIfInBounds p.1 p.2) r0.tmps:=by rw[<-Zrf,Array.toList_zip]
  rw[e];exact this
 refine wpIn_mono (Jv (ro:=some b) (dp:=n) ok cs ls hC r0.assign hlk.1 d1 (Qb4 _ _ e1) (fun _=>e1) _ _ _ _ _ E E _ hx1 (Ext.refl _ _ _) htab s0) ?_;rintro ee a1 w1 ⟨E1,rfl,X1,s1,he⟩;simp only[Jz] at he;subst he;obtain⟨b1,r1,g1,g2,g3,g4,g5,g7,g8⟩:=s1.sim.obj _ _ _ hg1;have mu1:=X1.mu fo so b hfo hb;rw[mu1] at g1;cases g1;obtain⟨Xb,Sb⟩:=s1.sim.setLoop hg1 mu1 g3 {r1 with state:= .busy} 1 pend1 rfl g5 ⟨rfl,rfl,rfl,rfl⟩;refine⟨_,run_beginRound g3 g4,?_⟩;have tab1:E1.tab=Qn P:=X1.tab.trans htab;have s2:St B F E.w.heap.size ([],false) (E1.put b (.loop {r1 with state:= .busy})) (hset H1 fo so (.loop 1 pend1 fL1 rid1 t01)) t1 a1:=by exact s1.on (Xb.less s1.lt (Zpp _)) Sb (by rw[Zy];exact s1.one)
 have X2:Ext 1 B E (E1.put b (.loop {r1 with state:= .busy})):=X1.trans (Xb.less s1.lt (Zpp _));refine wpIn_mono (Jv (ro:=some b) (dp:=n) ok cs ls hC r0.body hlk.2 d2 (Qb4 _ _ e3) (fun _=>e3) _ _ _ _ _ E _ _ hx2 X2 htab s2) ?_;rintro ee a3 w3 ⟨E3,rfl,X3,s3,he⟩;unfold Bd at h;split at h
 case h_2=>cases h
 rename_i st3 pend3 fL3 rid3 t03 hg3;obtain⟨b3,r3,k1,k2,k3,k4,k5,k7,k8⟩:=s3.sim.obj _ _ _ hg3;have mu3:=X3.mu fo so b hfo hb;rw[mu3] at k1;cases k1;have fin:∀(jump:Option Code) (st' :Nat) (pend' :Option (Option Nat)) (v:Bool),jump=Qt9 pend' ->stL st' =(if jump.isNone then LoopState.ready else .done)->v=jump.isNone->
  ∃vv w',(Instr.endRound b jump).run P E3.w= .ok vv w' /\Answer B F H E (.ret (.bool v)) (hset H2 fo so (.loop st' pend' fL3 rid3 t03)) (.returned vv) w' :=by
  intro jump st' pend' v hj hs hv;obtain⟨Xe,Se⟩:=s3.sim.setLoop hg3 mu3 k3 {r3 with state:=if jump.isNone then LoopState.ready else .done,pending:=jump} st' pend' hs.symm hj ⟨rfl,rfl,rfl,rfl⟩;exact⟨_,_,run_endRound jump k3,_,rfl,⟨.bool v,by rw[hv],by simp[Rel]⟩,Se,X3.trans (Xe.less s3.lt (Zpp _)),by rw[Zy];exact s3.one⟩
 cases e2 with
 |normal=>
  cases h;simp only[Jz] at he;subst he;exact fin none 0 none true rfl rfl rfl
 |ret=>
  cases h;simp only[Jz] at he;subst he;exact fin (some .ret) 2 (some none) false rfl rfl rfl
 |exit i=>
  cases h;simp only[Jz] at he;subst he;exact fin (some (.exit i)) 2 (some (some i)) false rfl rfl rfl
 |panic v=>cases h
theorem Qhs(ok:Okay P pol)(cs:Jc P C)(ls:Qax L)(hC:Xm C):Jc P (Qd4 P pol C L):=
 ⟨fun f args H r H' h=>Qhu ok cs ls hC f args H r H' h,fun fo so rest H r H' h=>Qht ok cs ls hC fo so rest H r H' h,fun f args H r H' hp h=>Qx4 ok cs ls hC f args H r H' hp h⟩
theorem Qao(ok:Okay P pol):∀n,Jc P (J0 P pol n)
 |0=>⟨fun _ _ _ _ _ h=>(by cases h),fun _ _ _ _ _ _ h=>(by cases h),fun _ _ _ _ _ _ h=>(by cases h)⟩
 |n+1=>Qhs ok (Qao ok n) (fun _ _ _ _ h=>⟨n,h⟩) (Js ok.tame n)
end
section
variable {P : Program} {pol : Pol}
end
def Qc4(K:List V->Option V):Prim:=fun _ _ g args=>match Qx (frz g depth) args with
 |some ys=>(match K ys with
  |some v=>some (v,none)
  |none=>none)
 |none=>none
section
variable {P : Program}
def FzN(P:Program)(pol:AM.Pol)(f:FuncId)(args:List V)(v:V):Prop:=∃v0 H',Qq P pol f args []=some (.ret v0,H')/\frzN (Qd H') depth v0=some v
theorem Qxq{polA:AM.Pol}(ok:AM.Okay P polA){f:FuncId}{ys:List V}{v:V}(h:FzN P polA f ys v){B:Nat}{F:Nat->Nat->Prop}{H:Heap}{E:Env}{args:List V}{cargs:List Value}(S:Sim B F H E)(one:H.length=1)(htab:E.tab=Qn P)
 (hr:Qe E args cargs)(hys:Qx (frz (Qd H) depth) args=some ys):Invokes P f ⟨cargs⟩ E.w (Answer B F H E (.ret v) H):=by
 obtain⟨hr',_⟩:=Z4 (E' :=bare E.tab E.w F) (fun x y v hf hx=>S.frz hf hx) _ _ _ hys hr;obtain⟨v0,H1,hc,hq⟩:=h;obtain⟨hbody,hall⟩:=(Qd8 ok).1 f ys [] _ H1 hc;have hcall:=hall _ _ (bare E.tab E.w F) cargs S.bareF htab hr';refine ok.invokes hbody (hcall.mono ?_);rintro e w' ⟨E1,rfl,⟨c,rfl,hcv⟩,S1,X1,_⟩;obtain⟨X,S'⟩:=S.behindM S.fmod X1;obtain⟨h1,h2⟩:=S1.frzN (M:=E.mod) S.modsz hq hcv;exact⟨{E with w:=E1.w},rfl,⟨c,rfl,Rel.dress (E:=bare E1.tab E1.w E.mod) (E' :={E with w:=E1.w}) rfl rfl _ _ h2 h1⟩,S',X.less (by omega) (Zpp _),one⟩
theorem Qbz{polA:AM.Pol}(ok:AM.Okay P polA){f:FuncId}{K:List V->Option V}(hK:∀ys v,K ys=some v->FzN P polA f ys v)(B:Nat)(F:Nat->Nat->Prop)(H:Heap)(E:Env)(fr:Nat)(dst:Option Nat)(args:List V)(cargs:List Value)(v:V)(x:Option (Nat×Nat×O))
 (S:Sim B F H E)(one:H.length=1)(_:fr=0)(htab:E.tab=Qn P)(hr:Qe E args cargs)(h:Qc4 K fr dst (Qd H) args=some (v,x)):Invokes P f ⟨cargs⟩ E.w (Answer B F H E (.ret v) (wr H x)):=by
 unfold Qc4 at h;split at h
 case h_2=>cases h
 rename_i ys hys;split at h
 case h_2=>cases h
 rename_i v' hv;cases h;exact Qxq ok (hK ys v hv) S one htab hr hys
theorem frz_le{G G' :Get}(h:GLe G G'):∀(n:Nat) (x y:V),frz G n x=some y->frz G' n x=some y:=by
 intro n
 induction n with
 |zero=>intro x y e;cases e
 |succ n ih=>
  have ihL:∀(l m:List V),Qx (frz G n) l=some m->Qx (frz G' n) l=some m:=by
   intro l
   induction l with
   |nil=>intro m e;exact e
   |cons x l ihl=>
    intro m e;simp only[Qx] at e⊢;cases hx:frz G n x with
    |none=>rw[hx] at e;cases e
    |some y=>
     rw[hx] at e;cases hl:Qx (frz G n) l with
     |none=>rw[hl] at e;cases e
     |some ys=>rw[hl] at e;cases e;rw[ih x y hx,ihl ys hl]
  have ihm:∀(l:List V) (f:List V->V) (y:V),(Qx (frz G n) l).map f=some y->(Qx (frz G' n) l).map f=some y:=by
   intro l f y e;cases hl:Qx (frz G n) l with
   |none=>rw[hl] at e;cases e
   |some ys=>rw[hl] at e;rw[ihL l ys hl];exact e
  intro x y e;cases x with
  |mS f s o len cap esz=>
   simp only[frz] at e⊢;cases hg:G f s with
   |none=>rw[hg] at e;cases e
   |some q=>
    rw[hg] at e;rw[h f s q hg];cases q with
    |cells xs=>
     simp only at e⊢;split at e
     . rename_i hc;rw[if_pos hc];exact ihm _ _ _ e
     . cases e
    |_=>cases e
  |ptr f s o=>
   simp only[frz] at e⊢;cases hg:G f s with
   |none=>rw[hg] at e;cases e
   |some q=>
    rw[hg] at e;rw[h f s q hg];cases q with
    |cells xs=>exact ihm _ _ _ e
    |_=>cases e
  |gS f s cs len q=>exact ihm _ _ _ e
  |rptr cs o=>exact ihm _ _ _ e
  |agg cs=>exact ihm _ _ _ e
  |tuple cs=>exact ihm _ _ _ e
  |face t v=>
   simp only[frz] at e⊢;cases hv:frz G n v with
   |none=>rw[hv] at e;cases e
   |some w=>rw[hv] at e;rw[ih v w hv];exact e
  |func fn a b=>
   simp only[frz] at e⊢;cases ha:Qx (frz G n) a with
   |none=>rw[ha] at e;cases e
   |some a' =>
    rw[ha] at e;cases hb:Qx (frz G n) b with
    |none=>rw[hb] at e;cases e
    |some b' =>rw[hb] at e;rw[ihL a a' ha,ihL b b' hb];exact e
  |_=>exact e
theorem Q3a{G G' :Get}(h:GLe G G')(n:Nat):∀(l m:List V),Qx (frz G n) l=some m->Qx (frz G' n) l=some m
 |[],_,e=>e
 |x::l,m,e=>by
  simp only[Qx] at e⊢;cases hx:frz G n x with
  |none=>rw[hx] at e;cases e
  |some y=>
   rw[hx] at e;cases hl:Qx (frz G n) l with
   |none=>rw[hl] at e;cases e
   |some ys=>rw[hl] at e;cases e;rw[frz_le h n x y hx,Q3a h n l ys hl]
theorem Qdf(K:List V->Option V)(nm:Nat)(G G' :Get)(args:List V)(v:V)(w:Option (Nat×Nat×O))(h:GLe G G')(e:Qc4 K 0 (some nm) G args=some (v,w)):
 Qc4 K 0 (some nm) G' args=some (v,w)/\∀x∈w.toList,(∃y,G x.1 x.2.1=some y)\/(x.1=0/\x.2.1=nm):=by
 unfold Qc4 at e⊢;split at e
 case h_2=>cases e
 rename_i ys hys;rw[Q3a h depth args ys hys];split at e
 case h_2=>cases e
 rename_i v' hv;cases e;exact⟨by simp only[hv],fun x hx=>by cases hx⟩
end
def conA(g:Get)(args:List V):Option (List V×Option (Nat×Nat×O)):=match args with
 | .agg [x,y]::r=>(Qiv g y).map fun z=>(.agg [x,z.1]::r,z.2)
 |l=>some (l,none)
def Qsa(K:List V->Option V):Prim:=fun _ _ g args=>match conA g args with
 |some (ys,w)=>(match Qx (frz (fun _ _=>none) depth) ys with
  |some zs=>(match K zs with
   |some v=>some (v,w)
   |none=>none)
  |none=>none)
 |none=>none
section
variable {P : Program} {E : Env} {B : Nat} {F : Nat -> Nat -> Prop} {H : Heap}
theorem Q0e(S:Sim B F H E){args ys:List V}{w:Option (Nat×Nat×O)}{cs:List Value}(h:conA (Qd H) args=some (ys,w))(hr:Qe E args cs):
 ∃E',E'.w=E.w/\Ext H.length B E E' /\Sim B F (wr H w) E' /\Qe E' ys cs:=by
 unfold conA at h;split at h
 . rename_i x y r;cases hx:Qiv (Qd H) y with
   |none=>rw[hx] at h;cases h
   |some z=>
    rw[hx] at h;cases h;obtain⟨u,us,rfl,h1,h2⟩:=Qe.cons_iff.1 hr;simp only[Rel] at h1;obtain⟨vs,rfl,hl⟩:=h1;obtain⟨u1,us1,rfl,h3,h4⟩:=Qe.cons_iff.1 hl;obtain⟨u2,us2,rfl,h5,h6⟩:=Qe.cons_iff.1 h4;obtain⟨E',e,X,S',h7⟩:=Qfq S (v' :=z.1) (w:=z.2) hx h5;refine⟨E',e,X,S',.cons ?_ (Qe.mono X S.lt _ _ h2)⟩;simp only[Rel];exact⟨_,rfl,.cons (Rel.mono X S.lt _ _ h3) (.cons h7 (Qe.mono X S.lt _ _ h6))⟩
 . cases h;exact⟨E,rfl,Ext.refl _ _ _,S,hr⟩
theorem Qkg{polA:AM.Pol}(ok:AM.Okay P polA){f:FuncId}{K:List V->Option V}(hK:∀ys v,K ys=some v->Fz P polA f ys (· =v))(B:Nat)(F:Nat->Nat->Prop)(H:Heap)(E:Env)(fr:Nat)(dst:Option Nat)(args:List V)(cargs:List Value)(v:V)(x:Option (Nat×Nat×O))
 (S:Sim B F H E)(one:H.length=1)(_:fr=0)(htab:E.tab=Qn P)(hr:Qe E args cargs)(h:Qsa K fr dst (Qd H) args=some (v,x)):Invokes P f ⟨cargs⟩ E.w (Answer B F H E (.ret v) (wr H x)):=by
 unfold Qsa at h;split at h
 case h_2=>cases h
 rename_i ys w hys;split at h
 case h_2=>cases h
 rename_i zs hzs;split at h
 case h_2=>cases h
 rename_i v' hv;cases h;obtain⟨E',e,X,S',hr'⟩:=Q0e S hys hr;have htab' :E'.tab=Qn P:=X.tab.trans htab;obtain⟨hr2,_⟩:=Qeh depth hzs hr';obtain⟨v0,H1,v1,hc,hq,rfl⟩:=hK zs _ hv;obtain⟨hbody,hall⟩:=(Qd8 ok).1 f zs [] _ H1 hc;have hcall:=hall _ _ (bare E'.tab E'.w E'.mod) cargs S'.bare htab' hr2;rw[<-e];refine ok.invokes hbody (hcall.mono ?_);rintro en w' ⟨E1,rfl,⟨c,rfl,hcv⟩,S1,X1,_⟩;obtain⟨X2,S2⟩:=S'.behind (E1:=E1) X1;obtain⟨h1,h2⟩:=S1.frz hq hcv;rw[wr_length] at X2;exact⟨{E' with w:=E1.w},rfl,⟨c,rfl,Rel.dress (E:=bare E1.tab E1.w E'.mod) (E' :={E' with w:=E1.w}) rfl rfl _ _ h2 h1⟩,S2,(X.less (by omega) (Zpp _)).trans (X2.less (by omega) (Zpp _)),by rw[wr_length];exact one⟩
theorem Zdw{G G' :Get}(h:GLe G G'){v v' :V}{w:Option (Nat×Nat×O)}(e:Qiv G v=some (v',w)):Qiv G' v=some (v',w)/\∀x∈w.toList,∃y,G x.1 x.2.1=some y:=by
 unfold Qiv at e⊢;split at e
 . rename_i f s o len cap esz;split at e
   case h_2=>cases e
   rename_i xs hg;split at e
   case isFalse=>cases e
   rename_i hc;cases e;simp only[h f s _ hg];rw[if_pos hc];refine⟨rfl,fun x hx=>?_⟩;simp only[Option.toList,Zp9] at hx;subst hx;exact⟨_,hg⟩
 . cases e;exact⟨rfl,fun x hx=>by cases hx⟩
theorem Qmi(K:List V->Option V)(nm:Nat)(G G' :Get)(args:List V)(v:V)(w:Option (Nat×Nat×O))(h:GLe G G')(e:Qsa K 0 (some nm) G args=some (v,w)):
 Qsa K 0 (some nm) G' args=some (v,w)/\∀x∈w.toList,(∃y,G x.1 x.2.1=some y)\/(x.1=0/\x.2.1=nm):=by
 have main:∀ys w,conA G args=some (ys,w)->conA G' args=some (ys,w)/\∀x∈w.toList,∃y,G x.1 x.2.1=some y:=by
  intro ys w hc;unfold conA at hc⊢;split at hc
  . rename_i x y r;cases hx:Qiv G y with
    |none=>rw[hx] at hc;cases hc
    |some z=>
     rw[hx] at hc;cases hc;obtain⟨g1,g2⟩:=Zdw h (v' :=z.1) (w:=z.2) hx;exact⟨by simp only[g1,Zpl],g2⟩
  . cases hc;exact⟨rfl,fun x hx=>by cases hx⟩
 unfold Qsa at e⊢;split at e
 case h_2=>cases e
 rename_i ys w' hys;obtain⟨g1,g2⟩:=main ys w' hys;rw[g1];split at e
 case h_2=>cases e
 rename_i zs hzs;split at e
 case h_2=>cases e
 rename_i v' hv;cases e;simp only[hzs,hv,true_and];exact fun x hx=> .inl (g2 x hx)
end
end Go.AM.BM
end
