/- This file holds in one the texts An50, An18; each says at its head what it proves. -/
import Derived.Test.YtmapmgfiamfocaaGreatT8
set_option linter.unusedSimpArgs false
set_option linter.unusedVariables false
section
namespace Go.AM
section
variable {P : Program} {B : Nat} {F : Nat -> Nat -> Prop} {H : Qg} {E : Env} {fr N : Nat} {ro : Option Nat} {dp : Nat}
def Env.newDfr(E:Env):Env:={w:=E.push (Obj.deferred (some [])) E.w.drawn,mu:=E.mu,reg:=E.reg,mod:=E.mod,tab:=E.tab}
theorem Sim.newDfr(S:Sim B F H E):Ext H.length B E E.newDfr/\Sim B F H E.newDfr:=by
 have X:Ext H.length B E E.newDfr:=by
  refine B5 S.bsz _ _ _ _ _ ?_ ?_ ?_
  . exact fun f s b h=>h
  . exact fun f s n b lo hi _ h=>⟨n,b,lo,hi,h,.inr ⟨rfl,rfl,rfl,rfl⟩⟩
  . exact fun b i hb hm h=>hm h
 refine⟨X,⟨S.dom,Ze9 S.bsz X.size,S.fb,S.fmod,?_,?_,S.nreg,?_⟩⟩
 . intro b i h;exact Zfa (S.modsz b i h) X.size
 . intro f s o ho;exact(S.obj f s o ho).mono X S.lt rfl rfl (fun b hb=>⟨K4 E _ _ b (S.blk_lt ho hb),fun i h=>h⟩)
 . intro f s o f' s' o' b h1 h2 h3 h4;refine S.inj f s o f' s' o' b h1 h2 ?_ ?_
   . cases o<;>exact h3
   . cases o' <;>exact h4
def Env.newLoop(E:Env)(f0 s0:Nat)(r:Loop):Env:=
 {w:=E.push (Obj.loop r) E.w.drawn,mu:=upd E.mu f0 s0 (some E.w.heap.size),reg:=E.reg,mod:=E.mod,tab:=E.tab}
theorem Sim.newLoop(S:Sim B F H E){f0 s0:Nat}(hf:f0<H.length)(hn:Qd H f0 s0=none)(r:Loop)(fn rid:Nat)(t:List V)(h1:r.state= .ready)(h2:r.pending=none)
 (h3:E.tab fn rid=some (r.params,r.assign,r.body))(h4:Qr E t r.tmps.toList):
 Ext H.length B E (E.newLoop f0 s0 r)/\Sim B F (Qs H f0 s0 (.loop 0 none fn rid t)) (E.newLoop f0 s0 r):=by
 have hmn:=S.mu_none hn;have X:Ext H.length B E (E.newLoop f0 s0 r):=by
  refine B5 S.bsz _ _ _ _ _ ?_ ?_ ?_
  . intro f s b h;by_cases e:f=f0/\s=s0
    . rw[e.1,e.2,hmn] at h;cases h
    . rw[Zp _ _ e];exact h
  . exact fun f s n b lo hi _ h=>⟨n,b,lo,hi,h,.inr ⟨rfl,rfl,rfl,rfl⟩⟩
  . exact fun b i hb hm h=>hm h
 refine⟨X,S.step f0 s0 _ hf X (fun f s e=>Zp _ _ e) (by simp[Env.newLoop,Q0]) (fun f s e=>rfl) ?_ ?_ ?_ ?_ ?_ ?_⟩
 . intro n x h;have:=S.reg_none hn;simp only[Env.newLoop] at h;rw[this] at h;cases h
 . intro f s o b e ho hb;exact⟨K4 E _ _ b (S.blk_lt ho hb),fun i h=>h⟩
 . exact fun b i h=>S.fmod b i h
 . intro b i h;simp only[Env.newLoop,Env.push,Zfd] at h⊢;exact Zfe (S.modsz b i h)
 . exact⟨E.w.heap.size,r,Q0 _ _ _ _,S.bsz,Kw E _ _,h1,h2,h3,Qr.mono X S.lt _ _ h4⟩
 . intro f s o b e ho hb h;simp only[blk,Env.newLoop,Q0,Zic] at h;have:=S.blk_lt ho hb;omega
def Env.put(E:Env)(b:Nat)(o:Obj):Env:={E with w:=E.w.putObj b o}
theorem Yl(E:Env)(b:Nat)(o:Obj)(b' :Nat)(h:b' ≠b):(E.put b o).w.heap[b']?=E.w.heap[b']?:=World.putObj_heap_other h
theorem Qm5{k:Nat}{b:Nat}{r:Loop}(hb:E.w.heap[b]?=some (.loop r))(hB:B<=b)(r' :Loop):Ext k B E (E.put b (.loop r')):=by
 have hlt:b<E.w.heap.size:=(Zfb.1 hb).1;refine⟨by simp[Env.put],?_,?_,fun _ _ _ _ h=>h,fun _ _ _ _ h=>h,fun f s n b lo hi _ _ h=>⟨n,b,lo,hi,h,.inr ⟨rfl,rfl,rfl,rfl⟩⟩,?_,⟨rfl,rfl,rfl⟩,rfl,
  fun b' h=>by rw[Yl E b _ b' (by rintro rfl;rw[hb] at h;cases h)];exact h⟩
 . intro b' T n h;by_cases e:b' =b
   . subst e;simp[World.shape?,hb] at h
   . rw[Kr (Yl E b _ b' e)];exact h
 . intro b' i v _ h;by_cases e:b' =b
   . subst e;simp[World.cell?,hb] at h
   . rw[K5 (Yl E b _ b' e)];exact h
 . intro b' hb';exact Yl E b _ b' (by omega)
theorem Sim.setLoop(S:Sim B F H E){f0 s0 st fn rid:Nat}{pend:Option (Option Nat)}{t:List V}(ho:Qd H f0 s0=some (.loop st pend fn rid t)){b:Nat}(hmu:E.mu f0 s0=some b){r:Loop}(hb:E.w.heap[b]?=some (.loop r))
 (r' :Loop)(st' :Nat)(pend' :Option (Option Nat))(h1:r'.state=stL st')(h2:r'.pending=Qy5 pend')(h3:r'.params=r.params/\r'.assign=r.assign/\r'.body=r.body/\r'.tmps=r.tmps):
 Ext H.length B E (E.put b (.loop r'))/\Sim B F (Qs H f0 s0 (.loop st' pend' fn rid t)) (E.put b (.loop r')):=by
 obtain⟨b0,r0,g1,g2,g3,g4,g5,g7,g8⟩:=S.obj f0 s0 _ ho;rw[hmu] at g1;cases g1;rw[hb] at g3;cases g3;have hlt:b<E.w.heap.size:=(Zfb.1 hb).1;have X:Ext H.length B E (E.put b (.loop r')):=Qm5 hb g2 r';have hblk:blk E f0 s0 (.loop st pend fn rid t)=some b:=hmu;refine⟨X,S.step f0 s0 _ (Q9 ho) X (fun f s e=>rfl) (by simp[Env.put,hmu]) (fun f s e=>rfl) ?_ ?_ ?_ ?_ ?_ ?_⟩
 . intro n x h;obtain⟨_,q1,q2⟩:=S.nreg f0 s0 n x h;rw[ho] at q1;cases q1;cases q2
 . intro f s o b' e ho' hb';refine⟨?_,fun i h=>h⟩;have hne:b' ≠b:=fun e' =>e (S.inj f s o f0 s0 _ b' ho' ho hb' (e' ▸hblk));exact Yl E b _ b' hne
 . exact fun b i h=>S.fmod b i h
 . intro b' i h;simp only[Env.put,World.putObj_size];exact S.modsz b' i h
 . refine⟨b,r',hmu,g2,World.putObj_heap_same hlt,h1,h2,?_,?_⟩
   . rw[h3.1,h3.2.1,h3.2.2.1];exact g7
   . rw[h3.2.2.2];exact Qr.mono X S.lt _ _ g8
 . intro f s o b' e ho' hb' h;have h' :E.mu f0 s0=some b' :=h;rw[hmu] at h';cases h';exact e (S.inj f s o f0 s0 _ b ho' ho hb' hblk)
theorem Sim.junkLoop(S:Sim B F H E){b:Nat}{r:Loop}(hb:E.w.heap[b]?=some (.loop r))(hB:B<=b)(hno:∀f s o,Qd H f s=some o->blk E f s o≠some b)(r' :Loop){k:Nat}:
 Ext k B E (E.put b (.loop r'))/\Sim B F H (E.put b (.loop r')):=by
 have X:∀k,Ext k B E (E.put b (.loop r')):=fun k=>Qm5 hb hB r';refine⟨X k,⟨S.dom,?_,S.fb,S.fmod,?_,?_,S.nreg,?_⟩⟩
 . simp only[Env.put,World.putObj_size];exact S.bsz
 . intro b' i h;simp only[Env.put,World.putObj_size];exact S.modsz b' i h
 . intro f s o ho;exact(S.obj f s o ho).mono (X H.length) S.lt rfl rfl (fun b' hb' =>⟨Yl E b _ b' (fun e=>hno f s o ho (e▸hb')),fun i h=>h⟩)
 . intro f s o f' s' o' b h1 h2 h3 h4;refine S.inj f s o f' s' o' b h1 h2 ?_ ?_
   . cases o<;>exact h3
   . cases o' <;>exact h4
theorem Qh2{k b:Nat}(hb:E.w.heap[b]?=some (Obj.deferred (some []))):Lite k E (E.put b (Obj.deferred none)):=by
 refine⟨?_,?_,fun _ _ _ _ h=>h,fun _ _ _ _ h=>h,fun f s n b lo hi _ _ h=>⟨n,b,lo,hi,h,.inr ⟨rfl,rfl,rfl,rfl⟩⟩⟩
 . intro b' T n h;by_cases e:b' =b
   . subst e;simp[World.shape?,hb] at h
   . rw[Kr (Yl E b _ b' e)];exact h
 . intro b' i v _ h;by_cases e:b' =b
   . subst e;simp[World.cell?,hb] at h
   . rw[K5 (Yl E b _ b' e)];exact h
theorem Js.lite{k:Nat}{E E' :Env}(h:Lite k E E')(hk:∀f s,(E.mu f s).isSome->f<k):∀(es:List (V×V)) (ces:List MapEntry),Js E es ces->Js E' es ces
 |[],_,r=>r
 |(_,_)::es,_,⟨e,r',he,h1,h2,h3⟩=>⟨e,r',he,Rel.lite h hk _ _ h1,Rel.lite h hk _ _ h2,Js.lite h hk es r' h3⟩
theorem Sim.shut(S:Sim B F H E){b:Nat}(hb:E.w.heap[b]?=some (Obj.deferred (some []))):Sim B F H (E.put b (Obj.deferred none)):=by
 have L:=Qh2 (k:=H.length) hb;have hk:=S.lt;refine⟨S.dom,?_,S.fb,S.fmod,?_,?_,S.nreg,?_⟩
 . simp only[Env.put,World.putObj_size];exact S.bsz
 . intro b' i h;simp only[Env.put,World.putObj_size];exact S.modsz b' i h
 . intro f s o ho;have:=S.obj f s o ho;cases o with
   |cells xs=>
    obtain⟨b',c,T,vs,rest,h1,h2,h3,h4,h5,h6,h7⟩:=this;exact⟨b',c,T,vs,rest,h1,h2,(Yl E b _ b' (by rintro rfl;rw[hb] at h3;cases h3)).trans h3,h4,Qr.lite L hk _ _ h5,h6,h7⟩
   |map es bs clk=>
    obtain⟨b',ces,h1,h2,h3,h4,h5⟩:=this;exact⟨b',ces,h1,h2,(Yl E b _ b' (by rintro rfl;rw[hb] at h3;cases h3)).trans h3,Js.lite L hk _ _ h4,h5⟩
   |iter m since seen stepped=>
    obtain⟨b',mb,h1,h2,h3,h4⟩:=this;refine⟨b',mb,h1,h2,(Yl E b _ b' (by rintro rfl;rw[hb] at h3;cases h3)).trans h3,?_⟩;cases m with
    |none=>exact h4
    |some x=>exact h4
   |grow n=>
    obtain⟨b',lo,hi,c,T,z,h1,h2,h3,h4⟩:=this;exact⟨b',lo,hi,c,T,z,h1,h2,(Yl E b _ b' (by rintro rfl;rw[hb] at h3;cases h3)).trans h3,h4⟩
   |loop st pend fn rid t=>
    obtain⟨b',r,h1,h2,h3,h4,h5,h7,h8⟩:=this;exact⟨b',r,h1,h2,(Yl E b _ b' (by rintro rfl;rw[hb] at h3;cases h3)).trans h3,h4,h5,h7,Qr.lite L hk _ _ h8⟩
   |siter l pos=>
    obtain⟨b',h1,h2,h3⟩:=this;exact⟨b',h1,h2,(Yl E b _ b' (by rintro rfl;rw[hb] at h3;cases h3)).trans h3⟩
   |mgrow xs n=>
    obtain⟨b',lo,hi,c,T,vs,rest,h1,h2,h3,h4,h5,h6,h7,h8⟩:=this;exact⟨b',lo,hi,c,T,vs,rest,h1,h2,(Yl E b _ b' (by rintro rfl;rw[hb] at h3;cases h3)).trans h3,h4,h5,Qr.lite L hk _ _ h6,h7,h8⟩
   |dead=>trivial
 . intro f s o f' s' o' b h1 h2 h3 h4;refine S.inj f s o f' s' o' b h1 h2 ?_ ?_
   . cases o<;>exact h3
   . cases o' <;>exact h4
theorem Ext.shut{k b:Nat}{E0:Env}(X:Ext k B E0 E)(hb:E.w.heap[b]?=some (Obj.deferred (some [])))(hn:E0.w.heap.size<=b)(hB:B<=b):Ext k B E0 (E.put b (Obj.deferred none)):=by
 have L:=Qh2 (k:=k) hb;refine⟨by simp only[Env.put,World.putObj_size];exact X.size,fun b' T n h=>L.shape _ _ _ (X.shape _ _ _ h),fun b' i v hm h=>L.cell _ _ _ (X.mod _ _ _ h hm) (X.cell _ _ _ hm h),X.mod,X.mu,X.reg,?_,X.rest,X.tab,?_⟩
 . intro b' hb';exact(Yl E b _ b' (by omega)).trans (X.old b' hb')
 . intro b' h;have:=(Zfb.1 h).1;rw[Yl E b _ b' (by omega)];exact X.dfr b' h
theorem Qfy{fn:Func}{tmps:Array Value}{R:Ending->World->Prop}{E0:Env}{t:List V}{k n:Nat}{u:FrameMode}(hu:u≠ .run)(hB:B<=N)(h0:E0.w.heap.size<=N)
 (fin:∀E',Ext k B E0 E' ->Sim B F H E' ->Qr E' t tmps.toList->(∀x v,Rel E x v->Rel E' x v)->LeavesIn Fence.wide n P fn tmps R [] u E'.w):
 ∀(rs:List Nat) (E1:Env),Ext k B E0 E1->Sim B F H E1->Qr E1 t tmps.toList->(∀x v,Rel E x v->Rel E1 x v)->rs.Nodup->(∀r∈rs,N<=r/\E1.w.heap[r]?=some (Obj.deferred (some [])))->
  LeavesInM Fence.wide n P fn tmps R (rs.map fun r=>({target:= .collected r,args:= #[]}:Deferred)) u E1.w
 |[],E1,X,S,hr,hx,_,_=>fin E1 X S hr hx
 |r::rs,E1,X,S,hr,hx,hnd,hm=>by
  obtain⟨q1,q2⟩:=hm r (by simp);rw[Zgq] at hnd;simp only[Zfn,LeavesInM];refine⟨hu,.inl ⟨r,(E1.put r (Obj.deferred none)).w,rfl,run_takeDeferred q2,?_⟩⟩;refine Qfy hu hB h0 fin rs (E1.put r (Obj.deferred none)) (X.shut q2 (by omega) (by omega)) (S.shut q2) (Qr.lite (Qh2 q2) S.lt _ _ hr) (fun x v h=>Rel.lite (Qh2 q2) S.lt _ _ (hx x v h)) hnd.2 ?_;intro r' hr';refine⟨(hm r' (Zfj _ hr')).1,?_⟩;rw[Yl E1 r _ r' (fun e=>hnd.1 (e▸hr'))];exact(hm r' (Zfj _ hr')).2
end
section
variable {P : Program} {pol : Pol} {C : Call} {L : Yu -> Qas} {B : Nat} {F : Nat -> Nat -> Prop} {fn fr N : Nat} {ro : Option Nat} {dp : Nat}
def wpL(ro:Option Nat)(P:Program)(c:Code)(Q:Exit->Act->World->Prop)(a:Act)(w:World):Prop:=
 ∀(b:Go.Frame) (k:List Item) (cs:List Go.Frame),b.roundOf=ro->∃e a' w',Q e a' w' /\ArrivesIn (Machine.fenced P (G ro)) P (lone (b.atR a (.code c:: .inLoop c::k)) cs w) b k cs e a' w'
theorem Q3s{n:Nat}:(G ro).room n:=fun _ h=>by cases h
theorem Q1z{c:Code}{Q:Exit->Act->World->Prop}{a:Act}{w:World}(h:wpL ro P c Q a w):(Code.loop c).wpIn (G ro) dp P Q a w:=
 fun b k cs hro hb hr=>let⟨e,a',w',q,r⟩:=h b k cs hro;⟨e,a',w',q,.of_steps (.one (fenced_calm hb hr rfl) stepR_loop) r⟩
theorem Q2b{c:Code}{Q:Exit->Act->World->Prop}{a:Act}{w:World}(h:c.wpIn (G ro) dp P (Exit.then (wpL ro P c Q) Q) a w):wpL ro P c Q a w:=by
 intro b k cs hro;obtain⟨e,a₁,w₁,hq,harr⟩:=h b (.inLoop c::k) cs hro trivial Q3s;cases e with
 |normal=>
  obtain⟨e₂,a₂,w₂,hq₂,harr₂⟩:=hq b k cs hro;exact⟨e₂,a₂,w₂,hq₂,.of_steps (StepsIn.trans harr (.one (fenced_calm (n:=dp) trivial Q3s rfl) stepR_inLoop)) harr₂⟩
 |exit id=>exact⟨_,a₁,w₁,hq,.pass (x:= .inLoop c) rfl (fun _ _=> .inl (by simp)) harr⟩
 |goto l=>exact⟨_,a₁,w₁,hq,.pass (x:= .inLoop c) rfl (fun _ _=> .inl (by simp)) harr⟩
 |ret=>exact⟨_,a₁,w₁,hq,.pass (x:= .inLoop c) rfl (fun _ _=> .inl (by simp)) harr⟩
 |panic ch=>exact⟨_,a₁,w₁,hq,.pass (x:= .inLoop c) rfl (fun _ _=> .inl (by simp)) harr⟩
 |outgrown=>exact⟨_,a₁,w₁,hq,.pass (x:= .inLoop c) rfl (fun _ _=> .inl (by simp)) harr⟩
theorem Qdq.through{E0:Env}{ex:Ex}{t' :List V}{H' :Qg}(hne:ex≠ .normal){next:Act->World->Prop}{Q:Exit->Act->World->Prop}
 (hQ:∀e a w,Qdq B F fr N E0 ex t' H' e a w->Q e a w):∀e a w,Qdq B F fr N E0 ex t' H' e a w->Exit.then next Q e a w:=by
 intro e a w h;have hx:=h;obtain⟨E',rfl,X,s,hr⟩:=hx;cases ex with
 |normal=>exact absurd rfl hne
 |exit i=>simp only[Qeb] at hr;subst hr;exact hQ _ _ _ h
 |ret=>simp only[Qeb] at hr;subst hr;exact hQ _ _ _ h
 |panic v=>obtain⟨c,rfl,_⟩:=hr;exact hQ _ _ _ h
theorem Qyr{c:Code}{f:Yu}
 (hf:∀t H E0 E a,Ext fr B E0 E->E0.tab=Km P->St B F fr N E H t a->∃x∈f t H,∀ex t' H',x=some (ex,t',H')->c.wpIn (G ro) dp P (Qdq B F fr N E0 ex t' H') a E.w):
 ∀(n:Nat) t H ex t' H' E0 E a,Kp f n t H=some (ex,t',H')->Ext fr B E0 E->E0.tab=Km P->St B F fr N E H t a->wpL ro P c (Qdq B F fr N E0 ex t' H') a E.w:=by
 intro n
 induction n with
 |zero=>intro t H ex t' H' E0 E a h;cases h
 |succ n ih=>
  intro t H ex t' H' E0 E a h X htab s;simp only[Kp] at h;refine Q2b (dp:=dp) ?_;obtain⟨x,hx,hwp⟩:=hf t H E0 E a X htab s;have h1:=(Qih h) _ (Zfm.2 ⟨x,hx,rfl⟩);unfold after at h1;split at h1
  . rename_i t1 H1;refine wpIn_mono (hwp _ _ _ rfl) ?_;rintro e a' w' ⟨E',rfl,X',s',hr⟩;simp only[Qeb] at hr;subst hr;exact ih t1 H1 ex t' H' E0 E' a' h1 X' htab s'
  . rename_i hne;refine wpIn_mono (hwp _ _ _ h1) (Qdq.through ?_ (fun _ _ _ h=>h));intro e;subst e;exact hne _ _ h1
def Qn0(L:Yu->Qas):Prop:=∀f t H r,L f t H=some r->∃n,Kp f n t H=some r
def Qcz(look:Nat->Option (Array Tmp×Code×Code)):Code->Prop
 | .seq a b| .cond _ a b=>Qcz look a/\Qcz look b
 | .block _ b| .loop b| .scope b=>Qcz look b
 | .rangeFunc _ ps a b=>look (Jy a b)=some (ps,a,b)/\Qcz look a/\Qcz look b
 |_=>True
theorem Qcx(rid:Nat):∀(c:Code),rid∉Ys c->Jv rid c=none:=by
 intro c
 induction c with
 |seq a b iha ihb|cond _ a b iha ihb=>
  intro h;simp only[Ys,Zfw,not_or] at h;simp only[Jv,iha h.1,ihb h.2]
 |block _ b ih|loop b ih|scope b ih=>intro h;exact ih h
 |rangeFunc g ps a b iha ihb=>
  intro h;simp only[Ys,Zfi,Zfw,not_or] at h;simp only[Jv];rw[if_neg (fun e=>h.1 e.symm),iha h.2.1,ihb h.2.2]
 |_=>intro _;rfl
theorem Qpu(look:Nat->Option (Array Tmp×Code×Code)):∀(c:Code),(Ys c).Nodup->(∀rid∈Ys c,look rid=Jv rid c)->Qcz look c:=by
 intro c;have some_:∀(c:Code) (rid:Nat),rid∈Ys c->∃x,Jv rid c=some x:=by
  intro c
  induction c with
  |seq a b iha ihb|cond _ a b iha ihb=>
   intro rid h;simp only[Ys,Zfw] at h;simp only[Jv];rcases h with h|h
   . obtain⟨x,hx⟩:=iha rid h;exact⟨x,by rw[hx]⟩
   . obtain⟨x,hx⟩:=ihb rid h;cases hq:Jv rid a with
     |some y=>exact⟨y,rfl⟩
     |none=>exact⟨x,hx⟩
  |block _ b ih|loop b ih|scope b ih=>intro rid h;exact ih rid h
  |rangeFunc g ps a b iha ihb=>
   intro rid h;simp only[Ys,Zfi,Zfw] at h;simp only[Jv];by_cases e:Jy a b=rid
   . exact⟨_,if_pos e⟩
   . rw[if_neg e];rcases h with h|h|h
     . exact absurd h.symm e
     . obtain⟨x,hx⟩:=iha rid h;exact⟨x,by rw[hx]⟩
     . obtain⟨x,hx⟩:=ihb rid h;cases hq:Jv rid a with
       |some y=>exact⟨y,rfl⟩
       |none=>exact⟨x,hx⟩
  |_=>intro rid h;cases h
 induction c with
 |seq a b iha ihb|cond _ a b iha ihb=>
  intro hn hl;simp only[Ys] at hn hl;obtain⟨n1,n2,n3⟩:=Zgx.1 hn;refine⟨iha n1 fun rid hr=>?_,ihb n2 fun rid hr=>?_⟩
  . rw[hl rid (Zg1 _ hr)];obtain⟨x,hx⟩:=some_ a rid hr;simp only[Jv,hx]
  . rw[hl rid (List.mem_append_right _ hr)];simp only[Jv,Qcx rid a (fun h=>n3 rid h rid hr rfl)]
 |block _ b ih|loop b ih|scope b ih=>intro hn hl;exact ih hn hl
 |rangeFunc g ps a b iha ihb=>
  intro hn hl;simp only[Ys] at hn hl;rw[Zgq,Zfw,not_or] at hn;obtain⟨n1,n2,n3⟩:=Zgx.1 hn.2;refine⟨?_,iha n1 fun rid hr=>?_,ihb n2 fun rid hr=>?_⟩
  . rw[hl _ (by simp)];simp only[Jv,if_true]
  . rw[hl rid (Zfj _ (Zg1 _ hr))];obtain⟨x,hx⟩:=some_ a rid hr;simp only[Jv];rw[if_neg (by intro e;rw[e] at hn;exact hn.1.1 hr),hx]
  . rw[hl rid (Zfj _ (List.mem_append_right _ hr))];simp only[Jv];rw[if_neg (by intro e;rw[e] at hn;exact hn.1.2 hr),Qcx rid a (fun h=>n3 rid h rid hr rfl)]
 |_=>intro _ _;trivial
theorem Qtn{rid:Nat}{x:Array Tmp×Code×Code}:∀(c:Code),Jv rid c=some x->Qab c=true->Qml c=true->Qab x.2.1=true/\Qab x.2.2=true/\Ys x.2.1=[]/\Ys x.2.2=[]:=by
 intro c
 induction c with
 |seq a b iha ihb|cond _ a b iha ihb=>
  intro h hd hf;simp only[Qab,Qml,Zfr] at hd hf;simp only[Jv] at h;split at h
  . rename_i y hy;cases h;exact iha hy hd.1 hf.1
  . exact ihb h hd.2 hf.2
 |block _ b ih|loop b ih|scope b ih=>intro h hd hf;exact ih h hd hf
 |rangeFunc g ps a b iha ihb=>
  intro h hd hf;simp only[Qab,Qml,Zfr,List.isEmpty_iff] at hd hf;simp only[Jv] at h;split at h
  . cases h;exact⟨hd.1,hd.2,hf.1,hf.2⟩
  . rw[Qcx rid a (by rw[hf.1];simp),Qcx rid b (by rw[hf.2];simp)] at h;cases h
 |_=>intro h;cases h
theorem Qmr(look:Nat->Option (Array Tmp×Code×Code))(c:Code)(h:Ys c=[]):Qcz look c:=Qpu look c (by rw[h];exact List.nodup_nil) (fun rid hr=>by rw[h] at hr;cases hr)
theorem Qvh(ok:Qe2 P pol)(cs:Qb8 P C){g:Operand}{ps:Array Tmp}{as b:Code}(hl:Km P fn (Jy as b)=some (ps,as,b)){t t' :List V}{H H' :Qg}{ex:Ex}{E0 E:Env}{a:Act}
 (h:Jh P pol C L fn fr (.rangeFunc g ps as b) t H=some (ex,t',H'))(X:Ext fr B E0 E)(htab:E0.tab=Km P)(s:St B F fr N E H t a):
 (Code.rangeFunc g ps as b).wpIn (G none) dp P (Qdq B F fr N E0 ex t' H') a E.w:=by
 simp only[Jh] at h;split at h
 case h_2=>cases h
 rename_i f first cap hg
 split at h
 case h_2=>cases h
 rename_i hn;split at h
 case h_2=>cases h
 rename_i v H2 hc;have hv:=s.ρ g;rw[hg] at hv;simp only[Rel] at hv;obtain⟨fs,cs',hge,h1,h2⟩:=hv;refine wpIn_rangeFunc fun fn' _=>?_;obtain⟨XD,SD⟩:=s.sim.newDfr;have tabD:E.newDfr.tab=Km P:=XD.tab.trans (X.tab.trans htab);obtain⟨XL,SL⟩:=SD.newLoop s.lt hn {state:= .ready,pending:=none,fn:=fn',tmps:=a.tmps,params:=ps,assign:=as,body:=b,defers:=E.w.heap.size} fn (Jy as b) t rfl rfl (by rw[tabD];exact hl) (Qr.mono XD s.sim.lt _ _ s.rel);have hsz:E.newDfr.w.heap.size=E.w.heap.size+1:=by simp[Env.newDfr,Env.push]
 have hmu:((E.newDfr).newLoop fr (Jk (Jy as b)) {state:= .ready,pending:=none,fn:=fn',tmps:=a.tmps,params:=ps,assign:=as,body:=b,defers:=E.w.heap.size}).mu fr (Jk (Jy as b))=some (E.w.heap.size+1):=by simp only[Env.newLoop,Q0,hsz]
 have hw:((E.newDfr).newLoop fr (Jk (Jy as b)) {state:= .ready,pending:=none,fn:=fn',tmps:=a.tmps,params:=ps,assign:=as,body:=b,defers:=E.w.heap.size}).w=(E.w.alloc (Obj.deferred (some []))).alloc (.loop {state:= .ready,pending:=none,fn:=fn',tmps:=a.tmps,params:=ps,assign:=as,body:=b,defers:=E.w.heap.size}):=rfl;have hdD:((E.newDfr).newLoop fr (Jk (Jy as b)) {state:= .ready,pending:=none,fn:=fn',tmps:=a.tmps,params:=ps,assign:=as,body:=b,defers:=E.w.heap.size}).w.heap[E.w.heap.size]?=some (Obj.deferred (some [])):=
  XL.dfr _ (Kw E _ _)
 generalize hE2:(E.newDfr).newLoop fr (Jk (Jy as b)) {state:= .ready,pending:=none,fn:=fn',tmps:=a.tmps,params:=ps,assign:=as,body:=b,defers:=E.w.heap.size}=E2 at*;have X2:Ext H.length B E E2:=XD.trans XL;have tab2:E2.tab=Km P:=X2.tab.trans (X.tab.trans htab);have hrel:Qr E2 (first++[.yield fr (Jk (Jy as b))]++cap) (fs++[.func (.yield (E.w.heap.size+1)) #[] #[]]++cs'):=by refine((Qr.mono X2 s.sim.lt _ _ h1).append (.cons ?_ .nil)).append (Qr.mono X2 s.sim.lt _ _ h2);simp only[Rel];exact⟨_,hmu,rfl⟩
 obtain⟨hbody,hall⟩:=cs.1 f _ _ _ _ hc;have hcall:=hall B F E2 _ SL tab2 hrel;obtain⟨Fn,cc,hF1,hF2⟩:=hbody;have hnum:=ok.num f Fn hF1 (by rw[hF2];rfl);refine⟨E.w.heap.size+1,[{target:= .collected E.w.heap.size,args:= #[]}],E2.w,{target:= .fn (.func f) ⟨cs'⟩,args:=⟨fs++[.func (.yield (E.w.heap.size+1)) #[] #[]]⟩},E2.w,f,⟨fs++[.func (.yield (E.w.heap.size+1)) #[] #[]]++cs'⟩,E2.w,?_,?_,fun _ _=>trivial,?_,Qoc,?_⟩
 . rw[hw];exact run_enterLoop_outer _ _ _ _ _
 . have hcv:a.eval (.const (.func (.yield (E.w.heap.size+1)) #[] #[]))= .func (.yield (E.w.heap.size+1)) #[] #[]:=rfl;simp only[resolve,hge,Deferred.ofValue,Zie,Zif,Zid];simp[hcv]
 . have e1:((⟨fs++[.func (.yield (E.w.heap.size+1)) #[] #[]]⟩:Array Value)++(⟨cs'⟩:Array Value))=⟨fs++[.func (.yield (E.w.heap.size+1)) #[] #[]]++cs'⟩:=by simp
   simp only[invoke,e1,callFunc,Zie,run_program,Zid,hF1,hnum,Ze7,if_false,hF2,Option.isNone_some,Zif]
 . refine(callsIn_wide (n:=dp-1)).2 (hcall.mono ?_);rintro e w' ⟨E3,rfl,⟨c,rfl,hcr⟩,S3,X3,hl3⟩;have hlen2:fr<(Qs H fr (Jk (Jy as b)) (.loop 0 none fn (Jy as b) t)).length:=by rw[Qa];exact s.lt
   have mu3:=X3.mu fr (Jk (Jy as b)) _ hlen2 hmu;unfold Qni at h;split at h
   case h_2=>cases h
   rename_i st pend fn2 rid2 t2 hg2;split at h
   . cases h
   rename_i hst;split at h
   . cases h
   rename_i hrf;split at h
   case isFalse=>cases h
   rename_i hclr;obtain⟨b3,r3,q1,q2,q3,q4,q5,q7,q8⟩:=S3.obj _ _ _ hg2;rw[mu3] at q1;cases q1;have hbusy:r3.state≠ .busy:=by
    rw[q4]
    match st,hst with
    |0,_=>simp[stL]
    |2,_=>simp[stL]
    |(n+3),_=>simp[stL]
   obtain⟨Xd,Sd⟩:=S3.drop (p:=Ko fr (Jk (Jy as b))) (H' :=H2.modify fr (Xq fun x=>[Jk (Jy as b)].contains x)) (k:=fr)
    (fun f s h=>by simp only[Ko,Zfr,beq_iff_eq] at h;omega) (fun f s' =>Qc3 H2 fr [Jk (Jy as b)] f s') (fun f s' o ho=>Qar _ f s' o hclr ho)
   have hgd:=fun f s' =>Qc3 H2 fr [Jk (Jy as b)] f s';have hld:(H2.modify fr (Xq fun x=>[Jk (Jy as b)].contains x)).length=H2.length:=by simp
   generalize hHd:H2.modify fr (Xq fun x=>[Jk (Jy as b)].contains x)=Hd at*;obtain⟨Xj,Sj⟩:=Sd.junkLoop (b:=E.w.heap.size+1) (r:=r3) q3 q2 (k:=fr) (fun f s' o ho hb=>by
    rw[hgd] at ho;split at ho
    . cases ho
    . rename_i hq;have hq' :Ko fr (Jk (Jy as b)) f s' =false:=by simpa using hq
      have hb3:blk E3 f s' o=some (E.w.heap.size+1):=by cases o<;>simp only[blk,E3.drop_mu hq',E3.drop_reg hq'] at hb⊢<;>exact hb
      have:=S3.inj f s' o fr (Jk (Jy as b)) _ _ ho hg2 hb3 mu3
      rw[Qd0.2 this] at hq';cases hq') {r3 with state:= .exhausted}
   have rel3:Qr E3 t a.tmps.toList:=Qr.mono X3 SL.lt _ _ (Qr.mono X2 s.sim.lt _ _ s.rel);have rel4:Qr ((E3.drop (Ko fr (Jk (Jy as b)))).put (E.w.heap.size+1) (.loop {r3 with state:= .exhausted})) t a.tmps.toList:=
    Qr.mono (Sd.junkLoop (b:=E.w.heap.size+1) (r:=r3) q3 q2 (k:=Hd.length) (fun f s' o ho hb=>by
     rw[hgd] at ho;split at ho
     . cases ho
     . rename_i hq;have hq' :Ko fr (Jk (Jy as b)) f s' =false:=by simpa using hq
       have hb3:blk E3 f s' o=some (E.w.heap.size+1):=by cases o<;>simp only[blk,E3.drop_mu hq',E3.drop_reg hq'] at hb⊢<;>exact hb
       have:=S3.inj f s' o fr (Jk (Jy as b)) _ _ ho hg2 hb3 mu3
       rw[Qd0.2 this] at hq';cases hq') {r3 with state:= .exhausted}).1 Sd.lt _ _ (Qr.strike _ _ (by simpa using hrf) rel3)
   have X4:Ext fr B E ((E3.drop (Ko fr (Jk (Jy as b)))).put (E.w.heap.size+1) (.loop {r3 with state:= .exhausted})):=
    (((X2.less (Zhr s.lt) (Ze8 _)).trans (X3.less (Zhr hlen2) (Ze8 _))).trans Xd).trans Xj
   have hfin:St B F fr N ((E3.drop (Ko fr (Jk (Jy as b)))).put (E.w.heap.size+1) (.loop {r3 with state:= .exhausted})) Hd t {a with defers:=[{target:= .collected E.w.heap.size,args:= #[]}]++a.defers}:=by
    refine⟨Sj,?_,rel4,?_,Ze9 s.nsz X4.size⟩
    . have:=hlen2;omega
    . obtain⟨rs,m1,m2,m3⟩:=s.defers;refine⟨E.w.heap.size::rs,by rw[m1];rfl,?_,?_⟩
      . rw[Zgq];refine⟨fun hm=>?_,m2⟩;have:=(Zfb.1 (m3 _ hm).2).1;omega
      . intro r hr;rcases Zfi.1 hr with rfl|hr
        . exact⟨s.nsz,Xj.dfr _ (Xd.dfr _ (X3.dfr _ hdD))⟩
        . exact⟨(m3 r hr).1,X4.dfr r (m3 r hr).2⟩
   refine⟨Qy5 pend,((E3.drop (Ko fr (Jk (Jy as b)))).put (E.w.heap.size+1) (.loop {r3 with state:= .exhausted})).w,by rw[<-q5];exact run_endLoop q3 hbusy,?_⟩;cases pend with
   |none=>
    cases h;exact⟨_,rfl,X.trans X4,hfin,rfl⟩
   |some j=>
    cases j with
    |none=>
     cases h;exact wpIn_ret ⟨_,rfl,X.trans X4,hfin,rfl⟩
    |some i=>
     cases h;exact wpIn_exit ⟨_,rfl,X.trans X4,hfin,rfl⟩
theorem Quy(ok:Qe2 P pol)(cs:Qb8 P C)(ls:Qn0 L):∀(c:Code),Qab c=true->Qcz (Km P fn) c->(ro.isSome=true->Ys c=[])->
 (∀(t:List V) (H:Qg) (ex:Ex) (t' :List V) (H' :Qg) (E0 E:Env) (a:Act),
   Jh P pol C L fn fr c t H=some (ex,t',H')->Ext fr B E0 E->E0.tab=Km P->St B F fr N E H t a->c.wpIn (G ro) dp P (Qdq B F fr N E0 ex t' H') a E.w)/\
 (∀(x:Operand) (l:List (V×Option (Nat×Nat×O))) (t:List V) (H:Qg) (E0 E:Env) (a:Act),Ki c=some x->Qbh (Qd H) (rho t x)=some l->Ext fr B E0 E->E0.tab=Km P->St B F fr N E H t a->
   ∃p∈l,∀(ex:Ex) (t' :List V) (H' :Qg),J7 P pol C L fn fr c p.1 p.2 t H=some (ex,t',H')->c.wpIn (G ro) dp P (Qdq B F fr N E0 ex t' H') a E.w):=by
 intro c
 induction c with
 |skip=>
  intro hd hlp hrd;refine⟨?_,?_⟩
  . intro t H ex t' H' E0 E a h X htab s;cases h;exact wpIn_skip ⟨E,rfl,X,s,rfl⟩
  . intro x l t H E0 E a h;cases h
 |region id ops draw=>
  intro hd hlp hrd;refine⟨?_,?_⟩
  . intro t H ex t' H' E0 E a h X htab s;simp only[Jh] at h;cases draw with
    |true=>
     simp only[if_true] at h;split at h
     case h_2=>cases h
     rename_i t1 H1 T hT;split at h
     case isFalse=>cases h
     rename_i hok;cases h;exact Qyb ok cs (by simpa [Qab] using hd) hT hok X htab s
    |false=>
     simp only[Ze7,if_false] at h;refine wpIn_region ?_;have:=Qdx (fn:=fn) (ro:=ro) (dp:=dp) ok cs ops.toList [] t H ex t' H' E a (by simp) h X htab s;simpa [Zh9] using this
  . intro x l t H E0 E a hn hc X htab s;cases draw with
    |true=>cases hn
    |false=>
     simp only[Ki] at hn;cases hops:ops.toList with
     |nil=>rw[hops] at hn;cases hn
     |cons o r=>
      rw[hops] at hn;simp only at hn;split at hn
      case h_2=>cases hn
      rename_i y hg hop;cases hn;obtain⟨p,hp,E',cv,X',s',hwp⟩:=Q6g (P:=P) s hop hc;refine⟨p,hp,fun ex t' H' h=>?_⟩;simp only[J7,hops] at h;refine wpIn_region ?_;have h0:ops[0]?=some o:=by
       have:ops.toList[0]?=some o:=by rw[hops];rfl
       simpa using this
      have hsz:ops.size=r.length+1:=by
       have:ops.toList.length=r.length+1:=by rw[hops];rfl
       simpa using this
      have hrun:=Qdx (fn:=fn) (ro:=ro) (dp:=dp) (E0:=E0) ok cs r [o] _ _ ex t' H' E' _ (by rw[hops];rfl) h (X.trans X') htab s';have hrange:List.range ops.size=0::List.range' 1 r.length:=by rw[hsz,Zh9,Zh5]
      rw[hrange];simp only[wpOpsIn,h0];have hw:Region.wanted o (yielded ops a.tmps)=true:=by simp[Region.wanted,hg]
      rw[if_pos hw];exact hwp _ _ (by simpa using hrun)
 |seq x y ihx ihy=>
  intro hd hlp hrd;refine⟨?_,?_⟩
  . intro t H ex t' H' E0 E a h X htab s;simp only[Qab,Zfr] at hd;simp only[Jh] at h;refine wpIn_seq ?_;split at h
    . rename_i t1 H1 hx;refine wpIn_mono ((ihx hd.1 hlp.1 fun q=>(Zib.1 (hrd q)).1).1 _ _ _ _ _ E0 E a hx X htab s) ?_;rintro e a' w' ⟨E',rfl,X',s',hr⟩;simp only[Qeb] at hr;subst hr;exact(ihy hd.2 hlp.2 fun q=>(Zib.1 (hrd q)).2).1 t1 H1 ex t' H' E0 E' a' h X' htab s'
    . rename_i r hne;refine wpIn_mono ((ihx hd.1 hlp.1 fun q=>(Zib.1 (hrd q)).1).1 _ _ _ _ _ E0 E a h X htab s) (Qdq.through ?_ (fun _ _ _ h=>h));intro e;subst e;exact hne _ _ h
  . intro v l t H E0 E a hn hc X htab s;simp only[Qab,Zfr] at hd;simp only[Ki] at hn;obtain⟨p,hp,hwp⟩:=(ihx hd.1 hlp.1 fun q=>(Zib.1 (hrd q)).1).2 v l t H E0 E a hn hc X htab s;refine⟨p,hp,fun ex t' H' h=>?_⟩;simp only[J7] at h;refine wpIn_seq ?_;split at h
    . rename_i t1 H1 hx;refine wpIn_mono (hwp _ _ _ hx) ?_;rintro e a' w' ⟨E',rfl,X',s',hr⟩;simp only[Qeb] at hr;subst hr;exact(ihy hd.2 hlp.2 fun q=>(Zib.1 (hrd q)).2).1 t1 H1 ex t' H' E0 E' a' h X' htab s'
    . rename_i r hne;refine wpIn_mono (hwp _ _ _ h) (Qdq.through ?_ (fun _ _ _ h=>h));intro e;subst e;exact hne _ _ h
 |cond c x y ihx ihy=>
  intro hd hlp hrd;refine⟨?_,?_⟩
  . intro t H ex t' H' E0 E a h X htab s;simp only[Qab,Zfr] at hd;simp only[Jh] at h;split at h
    case h_2=>cases h
    rename_i b hb;have hc:=s.ρ c;rw[hb] at hc;simp only[Rel] at hc;refine wpIn_cond hc ?_;cases b with
    |true=>simp only[if_true] at h⊢;exact(ihx hd.1 hlp.1 fun q=>(Zib.1 (hrd q)).1).1 _ _ _ _ _ E0 E a h X htab s
    |false=>simp only[Ze7,if_false] at h⊢;exact(ihy hd.2 hlp.2 fun q=>(Zib.1 (hrd q)).2).1 _ _ _ _ _ E0 E a h X htab s
  . intro x l t H E0 E a h;cases h
 |block id b ih=>
  intro hd hlp hrd;refine⟨?_,?_⟩
  . intro t H ex t' H' E0 E a h X htab s;simp only[Qab,Zfr] at hd;simp only[Jh] at h;refine wpIn_block ?_;split at h
    . rename_i i t1 H1 hb;refine wpIn_mono ((ih hd hlp hrd).1 _ _ _ _ _ E0 E a hb X htab s) ?_;rintro e a' w' ⟨E',rfl,X',s',hr⟩;simp only[Qeb] at hr;subst hr;simp only[Exit.inBlock];split at h
      . rename_i hi;cases h;rw[if_pos hi];exact⟨E',rfl,X',s',rfl⟩
      . rename_i hi;cases h;rw[if_neg hi];exact⟨E',rfl,X',s',rfl⟩
    . rename_i r hne;refine wpIn_mono ((ih hd hlp hrd).1 _ _ _ _ _ E0 E a h X htab s) ?_;intro e a' w' hx;have hx' :=hx;obtain⟨E',rfl,X',s',hr⟩:=hx';cases ex with
      |normal=>simp only[Qeb] at hr;subst hr;exact hx
      |exit i=>exact absurd h (by intro h';exact hne _ _ _ h')
      |ret=>simp only[Qeb] at hr;subst hr;exact hx
      |panic v=>obtain⟨c,rfl,_⟩:=hr;exact hx
  . intro x l t H E0 E a h;cases h
 |loop b ih=>
  intro hd hlp hrd;refine⟨?_,?_⟩
  . intro t H ex t' H' E0 E a h X htab s;simp only[Qab] at hd;simp only[Jh] at h;obtain⟨N1,h⟩:=ls _ _ _ _ h;refine Q1z (Qyr (dp:=dp) ?_ N1 t H ex t' H' E0 E a h X htab s);intro t H E0 E a X htab s;cases hf:forget pol fn fr (Jl b) t H with
    |none=>exact⟨none,by simp,fun _ _ _ h=>by cases h⟩
    |some y=>
     obtain⟨t1,H1⟩:=y;obtain⟨E1,hw,X1,S1,hr,hl⟩:=s.sim.forget hf s.rel;have s1:St B F fr N E1 H1 t1 a:=⟨S1,by rw[hl];exact s.lt,hr,hw▸s.defers,hw▸s.nsz⟩;simp only;cases hn:Ki b with
     |none=>
      refine⟨_,Zfx.2 rfl,fun ex t' H' h=>?_⟩;have:=(ih hd hlp hrd).1 t1 H1 ex t' H' E0 E1 a h (X.trans X1) htab s1;rwa[hw] at this
     |some x=>
      simp only;cases hc:Qbh (Qd H1) (rho t1 x) with
      |none=>exact⟨none,by simp,fun _ _ _ h=>by cases h⟩
      |some l=>
       obtain⟨p,hp,hwp⟩:=(ih hd hlp hrd).2 x l t1 H1 E0 E1 a hn hc (X.trans X1) htab s1;refine⟨_,Zfm.2 ⟨p,hp,rfl⟩,fun ex t' H' h=>?_⟩;have:=hwp ex t' H' h;rwa[hw] at this
  . intro x l t H E0 E a h;cases h
 |rangeFunc g ps as b iha ihb=>
  intro hd hlp hrd;refine⟨?_,?_⟩
  . intro t H ex t' H' E0 E a h X htab s;cases ro with
    |some l=>exact absurd (hrd rfl) (by simp[Ys])
    |none=>exact Qvh ok cs hlp.1 h X htab s
  . intro x l t H E0 E a h;cases h
 |exit id=>
  intro hd hlp hrd;refine⟨?_,?_⟩
  . intro t H ex t' H' E0 E a h X htab s;cases h;exact wpIn_exit ⟨E,rfl,X,s,rfl⟩
  . intro x l t H E0 E a h;cases h
 |scope b ih=>
  intro hd hlp hrd;refine⟨?_,?_⟩
  . intro t H ex t' H' E0 E a h X htab s;cases h
  . intro x l t H E0 E a h;cases h
 |label l=>
  intro hd hlp hrd;refine⟨?_,?_⟩
  . intro t H ex t' H' E0 E a h X htab s;cases h
  . intro x l t H E0 E a h;cases h
 |goto l=>
  intro hd hlp hrd;refine⟨?_,?_⟩
  . intro t H ex t' H' E0 E a h X htab s;cases h
  . intro x l t H E0 E a h;cases h
 |ret=>
  intro hd hlp hrd;refine⟨?_,?_⟩
  . intro t H ex t' H' E0 E a h X htab s;cases h;exact wpIn_ret ⟨E,rfl,X,s,rfl⟩
  . intro x l t H E0 E a h;cases h
 |refuse why=>
  intro hd hlp hrd;refine⟨?_,?_⟩
  . intro t H ex t' H' E0 E a h X htab s;cases h
  . intro x l t H E0 E a h;cases h
theorem Qgk(ok:Qe2 P pol)(cs:Qb8 P C)(ls:Qn0 L)(c:Code)(hd:Qab c=true)(hlp:Qcz (Km P fn) c)(hrd:ro.isSome=true->Ys c=[])(t:List V)(H:Qg)(ex:Ex)(t' :List V)(H' :Qg)(E0 E:Env)(a:Act)
 (h:Jh P pol C L fn fr c t H=some (ex,t',H'))(X:Ext fr B E0 E)(htab:E0.tab=Km P)(s:St B F fr N E H t a):c.wpIn (G ro) dp P (Qdq B F fr N E0 ex t' H') a E.w:=
 (Quy ok cs ls c hd hlp hrd).1 t H ex t' H' E0 E a h X htab s
theorem Qtg{E:Env}{H:Qg}{t:List V}{a:Act}(s:St B F fr N E H t a){r:ResultVar}{v:V}(h:Qlq P t H r=some v):
 ∃c,(match r with
  | .tmp i=>(Pure.pure (a.tmps.getD i undef):Sem Value)
  | .cell i T=>(do loadVar T (<-asAddr (a.tmps.getD i undef)):Sem Value)).run P E.w= .ok c E.w/\Rel E v c:=by
 cases r with
 |tmp i=>
  simp only[Qlq,Zic] at h;subst h;exact⟨_,rfl,s.ρ (.tmp i)⟩
 |cell i T=>
  simp only[Qlq] at h;split at h
  case h_2=>cases h
  rename_i f sl o hp;split at h
  case h_2=>cases h
  rename_i xs hg;have hr:=s.ρ (.tmp i);simp only[rho,Act.eval] at hr;rw[hp] at hr;simp only[Rel] at hr;obtain⟨b,hb,he⟩:=hr;obtain⟨b2,cc,T2,vs,rest,q1,_,_,_,q5,_,_,q8⟩:=s.sim.lies hg;rw[hb] at q1;cases q1;obtain⟨c,h1,h2⟩:=Qb3 (w:=E.w) h q5 q8;rw[Zff] at h1;refine⟨c,?_,h2⟩;simp only[he,asAddr,Zie,Zif,Zid,h1]
theorem Qji{E:Env}{H:Qg}{t:List V}{a:Act}(s:St B F fr N E H t a):∀(rs:List ResultVar) (vs:List V),Qys P t H rs=some vs->
 ∃cs,(rs.mapM (m:=Sem) fun r=>(match r with
  | .tmp i=>(Pure.pure (a.tmps.getD i undef):Sem Value)
  | .cell i T=>(do loadVar T (<-asAddr (a.tmps.getD i undef)):Sem Value))).run P E.w= .ok cs E.w/\Qr E vs cs
 |[],vs,h=>by cases h;exact⟨[],rfl,.nil⟩
 |r::rs,vs,h=>by
  simp only[Qys] at h;split at h
  . rename_i v vs' h1 h2;cases h;obtain⟨c,g1,g2⟩:=Qtg s h1;obtain⟨cs,g3,g4⟩:=Qji s rs vs' h2;exact⟨c::cs,by simp only[List.mapM_cons,Zie,g1,Zid,g3,Zif],.cons g2 g4⟩
  . cases h
theorem Qww{E:Env}{H:Qg}{t:List V}{a:Act}(s:St B F fr N E H t a){f:Func}{v:V}(h:Qil P f t H=some v):
 ∃c,(results f a.tmps).run P E.w= .ok c E.w/\Rel E v c:=by
 unfold Qil at h;split at h
 . rename_i v' hl;cases h;obtain⟨cs,h1,h2⟩:=Qji s _ _ hl;obtain⟨c,r,rfl,hc,hr⟩:=Qr.cons_iff.1 h2;rw[Qr.nil_iff] at hr;subst hr;refine⟨c,?_,hc⟩;simp only[results,Zie];rw[Array.mapM_eq_mapM_toList];simp only[Sem.run_map];exact(congrArg (fun r:Result (List Value)=>(r.andThen fun a w' =>Result.ok a.toArray w').andThen fun a w' =>Sem.run P (Pure.pure (if h:a.size=1 then a[0] else Value.tuple a)) w') h1).trans rfl
 . rename_i vs hne hl;cases h;obtain⟨cs,h1,h2⟩:=Qji s _ _ hl;refine⟨.tuple ⟨cs⟩,?_,by simp only[Rel];exact⟨cs,rfl,h2⟩⟩;simp only[results,Zie];rw[Array.mapM_eq_mapM_toList];simp only[Sem.run_map];refine(congrArg (fun r:Result (List Value)=>(r.andThen fun a w' =>Result.ok a.toArray w').andThen fun a w' =>Sem.run P (Pure.pure (if h:a.size=1 then a[0] else Value.tuple a)) w') h1).trans ?_;have hlen:=h2.length;have:¬((⟨cs⟩:Array Value).size=1):=by
    intro e;have e1:vs.length=1:=by rw[hlen];exact e
    obtain⟨x,rfl⟩:=List.length_eq_one_iff.1 e1;exact hne x rfl
   simp only[Zid,this,dif_neg,not_false_eq_true,Zif]
 . cases h
theorem Qe2.loopsIn(ok:Qe2 P pol){f:FuncId}{Fn:Func}{c:Code}(hF:P.funcs[f]?=some Fn)(hc:Fn.body=some c):Qcz (Km P f) c:=
 Qpu _ c (ok.loops f Fn c hF hc).1 fun rid _=>by simp only[Km,hF,hc]
theorem Que(ok:Qe2 P pol)(cs:Qb8 P C)(ls:Qn0 L)(f:FuncId)(args:List V)(H:Qg)(r:Rt)(H' :Qg)(h:Qhc P pol C L f args H=some (r,H')):(∃(F:Func) (c:Code),P.funcs[f]?=some F/\F.body=some c)/\
 ∀B F E cargs,Sim B F H E->E.tab=Km P->Qr E args cargs->Calls P f ⟨cargs⟩ E.w (Qbq B F H E r H'):=by
 unfold Qhc at h;split at h
 case h_2=>cases h
 rename_i Fn hFn;split at h
 case h_2=>cases h
 rename_i c hc;refine⟨⟨Fn,c,hFn,hc⟩,?_⟩;intro B F E cargs S htab hr;have hl:=hr.length;have s:St B F H.length E.w.heap.size E (H++[[]]) (args++List.replicate (Fn.ntmps-args.length) .bad) {tmps:=(⟨cargs⟩:Array Value)++Array.replicate (Fn.ntmps-(⟨cargs⟩:Array Value).size) undef,defers:=[]}:=by
  refine⟨S.push,by simp,?_,Qk1.nil,Ze8 _⟩;have:((⟨cargs⟩:Array Value)++Array.replicate (Fn.ntmps-(⟨cargs⟩:Array Value).size) undef).toList=cargs++List.replicate (Fn.ntmps-args.length) undef:=by simp[hl]
  rw[this];exact hr.append (Qr.replicate _ (by simp[Rel]))
 refine(callsIn_wide (n:=0)).1 (callsIn_of_wp_marks (F:=Fence.wide) hFn hc trivial ?_);have plain:∀(ex:Ex) (t:List V) (H1:Qg) (v:V),(ex= .normal\/ex= .ret)->Qbl (pol.settle f) (Jh P pol C L f H.length c (args++List.replicate (Fn.ntmps-args.length) .bad) (H++[[]]))=some (ex,t,H1)->
  Qil P Fn t H1=some v->c.wpIn Fence.wide 0 P (bodyPostM Fence.wide 0 P Fn (Qbq B F H E (.ret v) (Yb H.length v H1))) {tmps:=(⟨cargs⟩:Array Value)++Array.replicate (Fn.ntmps-(⟨cargs⟩:Array Value).size) undef,defers:=[]} E.w:=by
  intro ex t H1 v hex Qs hres;have hsplit:∃H0,Jh P pol C L f H.length c (args++List.replicate (Fn.ntmps-args.length) .bad) (H++[[]])=some (ex,t,H0)/\Bc (pol.settle f) t H0=some H1:=by
   cases hx:Jh P pol C L f H.length c (args++List.replicate (Fn.ntmps-args.length) .bad) (H++[[]]) with
   |none=>rw[hx] at Qs;cases Qs
   |some y=>
    obtain⟨e,t0,H0⟩:=y;rw[hx] at Qs;cases e with
    |normal=>
     simp only[Qbl] at Qs;cases hl:Bc (pol.settle f) t0 H0 with
     |none=>rw[hl] at Qs;cases Qs
     |some H2=>rw[hl] at Qs;cases Qs;exact⟨H0,rfl,hl⟩
    |ret=>
     simp only[Qbl] at Qs;cases hl:Bc (pol.settle f) t0 H0 with
     |none=>rw[hl] at Qs;cases Qs
     |some H2=>rw[hl] at Qs;cases Qs;exact⟨H0,rfl,hl⟩
    |exit i=>cases Qs;rcases hex with h|h<;>cases h
    |panic v=>cases Qs;rcases hex with h|h<;>cases h
  obtain⟨H0,hrun,hset'⟩:=hsplit;refine wpIn_mono (Qgk (ro:=none) (dp:=0) ok cs ls c (ok.draws f Fn c hFn hc) (ok.loopsIn hFn hc) (fun q=>by cases q) _ _ _ _ _ E E _ hrun (Ext.refl _ _ _) htab s) ?_;rintro e a' w' ⟨E',rfl,X',s',he⟩;obtain⟨E1,hw1,X1,s1⟩:=Qix s' hset';obtain⟨rs,m1,m2,m3⟩:=s1.defers;have hleave:LeavesInM Fence.wide 0 P Fn a'.tmps (Qbq B F H E (.ret v) (Yb H.length v H1)) a'.defers .returning E'.w:=by rw[m1,<-hw1];refine Qfy (B:=B) (F:=F) (H:=H1) (E:=E1) (N:=E.w.heap.size) (E0:=E) (t:=t) (k:=H.length) (fun q=>by cases q) S.bsz (Ze8 _) ?_ rs E1 (X'.trans X1) s1.sim s1.rel (fun _ _ h=>h) m2 m3;intro E3 X3 S3 r3 hx3;have s3:St B F H.length E.w.heap.size E3 H1 t {a' with defers:=[]}:=⟨S3,s1.lt,r3,Qk1.nil,X3.size⟩;obtain⟨cv,h1,h2⟩:=Qww s3 hres;obtain⟨E2,hw,X2,S2,hr2⟩:=S3.pop H.length v cv h2;exact⟨cv,h1,E2,hw,⟨cv,rfl,hr2⟩,S2,X3.trans X2,Qha _ _ _ (Zhr s1.lt)⟩
  rcases hex with rfl|rfl
  . simp only[Qeb] at he;subst he;exact hleave
  . simp only[Qeb] at he;subst he;exact hleave
 split at h
 . rename_i t H1 hex;split at h
   case h_2=>cases h
   rename_i v hv;cases h;exact plain _ t H1 v (.inl rfl) hex hv
 . rename_i t H1 hex;split at h
   case h_2=>cases h
   rename_i v hv;cases h;exact plain _ t H1 v (.inr rfl) hex hv
 . rename_i v t H1 hex;cases h;have hrun:Jh P pol C L f H.length c (args++List.replicate (Fn.ntmps-args.length) .bad) (H++[[]])=some (.panic v,t,H1):=by
    cases hx:Jh P pol C L f H.length c (args++List.replicate (Fn.ntmps-args.length) .bad) (H++[[]]) with
    |none=>rw[hx] at hex;cases hex
    |some y=>
     obtain⟨e,t0,H0⟩:=y;rw[hx] at hex;cases e with
     |normal=>simp only[Qbl] at hex;cases hl:Bc (pol.settle f) t0 H0<;>(rw[hl] at hex;cases hex)
     |ret=>simp only[Qbl] at hex;cases hl:Bc (pol.settle f) t0 H0<;>(rw[hl] at hex;cases hex)
     |exit i=>cases hex
     |panic v=>exact hex
   refine wpIn_mono (Qgk (ro:=none) (dp:=0) ok cs ls c (ok.draws f Fn c hFn hc) (ok.loopsIn hFn hc) (fun q=>by cases q) _ _ _ _ _ E E _ hrun (Ext.refl _ _ _) htab s) ?_;rintro e a' w' ⟨E',rfl,X',s',cv,rfl,hcv⟩;obtain⟨rs,m1,m2,m3⟩:=s'.defers;show LeavesInM Fence.wide 0 P Fn a'.tmps _ a'.defers (.panicking _) E'.w;rw[m1];refine Qfy (B:=B) (F:=F) (H:=H1) (E:=E') (N:=E.w.heap.size) (E0:=E) (t:=t) (k:=H.length) (by simp) S.bsz (Ze8 _) ?_ rs E' X' s'.sim s'.rel (fun _ _ h=>h) m2 m3;intro E3 X3 S3 r3 hx3;obtain⟨E2,hw,X2,S2,hr2⟩:=S3.pop H.length v cv (hx3 _ _ hcv);exact⟨E2,hw,⟨cv,rfl,hr2⟩,S2,X3.trans X2,Qha _ _ _ (Zhr s'.lt)⟩
 . cases h
theorem Qm3{E:Env}:∀(ps:List Tmp) (args:List V) (cargs:List Value) (t:List V) (vs:Array Value),args.length=ps.length->Qr E args cargs->Qr E t vs.toList->
 Qr E (Qeo t (ps.zip args)) ((ps.zip cargs).foldl (fun(tmps:Array Value) (p:Tmp×Value)=>tmps.setIfInBounds p.1 p.2) vs).toList
 |[],_,_,_,_,_,_,h=>by simpa [Qeo] using h
 |p::ps,[],_,_,_,hl,_,_=>by simp at hl
 |p::ps,x::args,cargs,t,vs,hl,hr,h=>by
  obtain⟨v,r,rfl,h1,h2⟩:=Qr.cons_iff.1 hr;simp only[List.zip_cons_cons,Qeo,List.foldl_cons];refine Qm3 ps args r _ _ (by simpa using hl) h2 ?_;have:=h.set p h1;simpa using this
theorem Qu0(ok:Qe2 P pol)(cs:Qb8 P C)(ls:Qn0 L)(fo so:Nat)(rest:List V)(H:Qg)(r:Rt)(H' :Qg)(h:Qmm P pol C L fo so rest H=some (r,H')):
 ∀B F E b cargs (n:Nat),Sim B F H E->E.tab=Km P->E.mu fo so=some b->Qr E rest cargs->
 ∃rec:Loop,E.w.heap[b]?=some (.loop rec)/\cargs.length=rec.params.size/\
  RoundIn Fence.wide n P b rec.fn ((rec.params.zip (⟨cargs⟩:Array Value)).foldl (fun tmps (t,a)=>tmps.setIfInBounds t a) rec.tmps) rec.assign rec.body E.w (Qbq B F H E r H'):=by
 intro B F E b cargs n S htab hb hr;unfold Qmm at h;split at h
 case h_2=>cases h
 rename_i pend fL rid t0 hg;split at h
 case h_2=>cases h
 rename_i ps as bd hla;split at h
 case isFalse=>cases h
 rename_i hlen;obtain⟨b',r0,q1,q2,q3,q4,q5,q7,q8⟩:=S.obj _ _ _ hg;rw[hb] at q1;cases q1;rw[htab,hla] at q7;simp only[Zic,Prod.mk.injEq] at q7;obtain⟨rfl,rfl,rfl⟩:=q7;refine⟨r0,q3,by rw[<-hr.length];exact hlen,?_⟩;split at h
 case h_2=>cases h
 rename_i t1 H1 hx1;split at h
 case h_2=>cases h
 rename_i pend1 fL1 rid1 t01 hg1;split at h
 case h_2=>cases h
 rename_i e2 t2 H2 hx2;obtain⟨Fn,c,hF,hc,hfl⟩:∃Fn c,P.funcs[fL]?=some Fn/\Fn.body=some c/\Jv rid c=some (r0.params,r0.assign,r0.body):=by
  unfold Km at hla;split at hla
  case h_2=>cases hla
  rename_i Fn hF;split at hla
  case h_2=>cases hla
  rename_i c hc;exact⟨Fn,c,hF,hc,hla⟩
 obtain⟨d1,d2,e1,e3⟩:=Qtn c hfl (ok.draws fL Fn c hF hc) (ok.loops fL Fn c hF hc).2;have hfo:fo<H.length:=Q9 hg;refine roundIn_of_wpIn (F:=Fence.wide) trivial ?_;have s0:St B F H.length E.w.heap.size E (H++[[]]) (Qeo t0 (r0.params.toList.zip rest)) {tmps:=(r0.params.zip (⟨cargs⟩:Array Value)).foldl (fun tmps (t,a)=>tmps.setIfInBounds t a) r0.tmps,defers:=[]}:=by
  refine⟨S.push,by simp,?_,Qk1.nil,Ze8 _⟩;have:=Qm3 r0.params.toList rest cargs t0 r0.tmps (by simpa using hlen) hr q8;have e:(r0.params.zip (⟨cargs⟩:Array Value)).foldl (fun tmps (t,a)=>tmps.setIfInBounds t a) r0.tmps=(r0.params.toList.zip cargs).foldl (fun(tmps:Array Value) (p:Tmp×Value)=>tmps.setIfInBounds p.1 p.2) r0.tmps:=by rw[<-Array.foldl_toList,Array.toList_zip]
  rw[e];exact this
 refine wpIn_mono (Qgk (ro:=some b) (dp:=n) ok cs ls r0.assign d1 (Qmr _ _ e1) (fun _=>e1) _ _ _ _ _ E E _ hx1 (Ext.refl _ _ _) htab s0) ?_;rintro ee a1 w1 ⟨E1,rfl,X1,s1,he⟩;simp only[Qeb] at he;subst he;obtain⟨b1,r1,g1,g2,g3,g4,g5,g7,g8⟩:=s1.sim.obj _ _ _ hg1;have mu1:=X1.mu fo so b hfo hb;rw[mu1] at g1;cases g1;obtain⟨Xb,Sb⟩:=s1.sim.setLoop hg1 mu1 g3 {r1 with state:= .busy} 1 pend1 rfl g5 ⟨rfl,rfl,rfl,rfl⟩;refine⟨_,run_beginRound g3 g4,?_⟩;have tab1:E1.tab=Km P:=X1.tab.trans htab;have s2:St B F H.length E.w.heap.size (E1.put b (.loop {r1 with state:= .busy})) (Qs H1 fo so (.loop 1 pend1 fL1 rid1 t01)) t1 a1:=by refine⟨Sb,by rw[Qa];exact s1.lt,Qr.mono Xb s1.sim.lt _ _ s1.rel,s1.defers.on Xb,Ze9 s1.nsz Xb.size⟩
 have X2:Ext H.length B E (E1.put b (.loop {r1 with state:= .busy})):=X1.trans (Xb.less (Zhr s1.lt) (Ze8 _));refine wpIn_mono (Qgk (ro:=some b) (dp:=n) ok cs ls r0.body d2 (Qmr _ _ e3) (fun _=>e3) _ _ _ _ _ E _ _ hx2 X2 htab s2) ?_;rintro ee a3 w3 ⟨E3,rfl,X3,s3,he⟩;unfold Qks at h;split at h
 case h_2=>cases h
 rename_i st3 pend3 fL3 rid3 t03 hg3;obtain⟨b3,r3,k1,k2,k3,k4,k5,k7,k8⟩:=s3.sim.obj _ _ _ hg3;have mu3:=X3.mu fo so b hfo hb;rw[mu3] at k1;cases k1;have fin:∀(jump:Option Code) (st' :Nat) (pend' :Option (Option Nat)) (v:Bool),jump=Qy5 pend' ->stL st' =(if jump.isNone then LoopState.ready else .done)->v=jump.isNone->
  ∃vv w',(Instr.endRound b jump).run P E3.w= .ok vv w' /\Qbq B F H E (.ret (.bool v)) (Yb H.length (.bool v) (Qs H2 fo so (.loop st' pend' fL3 rid3 t03))) (.returned vv) w' :=by
  intro jump st' pend' v hj hs hv;obtain⟨Xe,Se⟩:=s3.sim.setLoop hg3 mu3 k3 {r3 with state:=if jump.isNone then LoopState.ready else .done,pending:=jump} st' pend' hs.symm hj ⟨rfl,rfl,rfl,rfl⟩;obtain⟨E5,hw5,X5,S5,hr5⟩:=Se.pop H.length (.bool v) (.bool v) (by simp[Rel]);refine⟨_,_,run_endRound jump k3,E5,hw5,⟨.bool v,by rw[hv],hr5⟩,S5,(X3.trans (Xe.less (Zhr s3.lt) (Ze8 _))).trans X5,Qha _ _ _ (by rw[Qa];exact Zhr s3.lt)⟩
 cases e2 with
 |normal=>
  cases h;simp only[Qeb] at he;subst he;exact fin none 0 none true rfl rfl rfl
 |ret=>
  cases h;simp only[Qeb] at he;subst he;exact fin (some .ret) 2 (some none) false rfl rfl rfl
 |exit i=>
  cases h;simp only[Qeb] at he;subst he;exact fin (some (.exit i)) 2 (some (some i)) false rfl rfl rfl
 |panic v=>cases h
theorem Qu7(ok:Qe2 P pol)(cs:Qb8 P C)(ls:Qn0 L):Qb8 P (Qiw P pol C L):=
 ⟨fun f args H r H' h=>Que ok cs ls f args H r H' h,fun fo so rest H r H' h=>Qu0 ok cs ls fo so rest H r H' h⟩
theorem Qgz(ok:Qe2 P pol):∀n,Qb8 P (Xa P pol n)
 |0=>⟨fun _ _ _ _ _ h=>(by cases h),fun _ _ _ _ _ _ h=>(by cases h)⟩
 |n+1=>Qu7 ok (Qgz ok n) (fun _ _ _ _ h=>⟨n,h⟩)
end
end Go.AM
end
