/- This file holds in one the texts Bx17, Bx35, Bx50; each says at its head what it proves. -/
import Derived.Test.YtjllfbejpjonnaaGreatDoorT8
import Derived.Test.YtjllfbejpjonnaaGreatDoorT14
import Derived.RangeFuncRecord
import Derived.RangeFuncCalls
import Derived.OrdersIn
import Derived.DefersIn
import Derived.RangeFuncNested
import Derived.Maps.RangeRun
set_option linter.unusedSimpArgs false
set_option linter.unusedVariables false
section
namespace Go.AM.BM
def J5(E:Env):Ex->Exit->Prop
 | .normal,e=>e= .normal
 | .exit i,e=>e= .exit i
 | .ret,e=>e= .ret
 | .panic v,e=>∃c,e= .panic [{v:=c,recovered:=false}]/\Rel E v c
def Q3u(E:Env):Rt->Ending->Prop
 | .ret v,e=>∃c,e= .returned c/\Rel E v c
 | .pan v,e=>∃c,e= .panicked [{v:=c,recovered:=false}]/\Rel E v c
def Invokes(P:Program)(f:FuncId)(args:Array Value)(w:World)(R:Ending->World->Prop):Prop:=
 (∃v w',(callFunc f args).run P w= .ok (.value v) w' /\R (.returned v) w')\/(∃j,(callFunc f args).run P w= .ok (.enter j args) w/\Calls P j args w R)
def Answer(B:Nat)(F:Nat->Nat->Prop)(H:Heap)(E:Env)(r:Rt)(H' :Heap)(e:Ending)(w' :World):Prop:=
 ∃E',E'.w=w' /\Q3u E' r e/\Sim B F H' E' /\Ext 1 B E E' /\H'.length=1
abbrev G(ro:Option Nat):Fence:={Fence.wide with round:=ro}
def Jm(P:Program)(C:Call):Prop:=
 (∀(f:FuncId) args H r H',C (some f) args H=some (r,H')->(∃(F:Func) (c:Code),P.funcs[f]?=some F/\F.body=some c)/\
   ∀B F E cargs,Sim B F H E->H.length=1->E.tab=Qt P->Qh E args cargs->Calls P f ⟨cargs⟩ E.w (Answer B F H E r H'))/\
 (∀fo so rest H r H',C none (.yield fo so::rest) H=some (r,H')->∀B F E b cargs (n:Nat),Sim B F H E->H.length=1->E.tab=Qt P->E.mu fo so=some b->Qh E rest cargs->
   ∃rec:Loop,E.w.heap[b]?=some (.loop rec)/\cargs.length=rec.params.size/\
    RoundIn Fence.wide n P b rec.fn ((rec.params.zip (⟨cargs⟩:Array Value)).foldl (fun tmps (t,a)=>tmps.setIfInBounds t a) rec.tmps) rec.assign rec.body E.w (Answer B F H E r H'))/\
 (∀(f:FuncId) args H r H',Qlx P f=true->C (some f) args H=some (r,H')->∀B F E cargs (n:Nat) (u:FrameMode),Sim B F H E->H.length=1->E.tab=Qt P->Qh E args cargs->
   CallsDIn Fence.wide n P f ⟨cargs⟩ u E.w fun e u' w' =>u' =u/\Answer B F H E r H' e w')
def flatC:Code->Bool
 | .seq a b| .cond _ a b=>flatC a&&flatC b
 | .block _ b| .loop b| .scope b=>flatC b
 | .rangeFunc _ _ a b=>(Q9 a).isEmpty&&(Q9 b).isEmpty
 |_=>true
def drawsC:Code->Bool
 | .region _ ops draw=>!draw||Qbo ops
 | .seq a b| .cond _ a b| .rangeFunc _ _ a b=>drawsC a&&drawsC b
 | .block _ b| .loop b| .scope b=>drawsC b
 |_=>true
abbrev MD:=List Deferred×Bool
def Bw(N:Nat)(D:MD)(w:World)(ds:List Deferred):Prop:=
 ∃rs:List Nat,ds=rs.map (fun r=>({target:= .collected r,args:= #[]}:Deferred))++D.1/\rs.Nodup/\(∀r∈rs,N<=r/\w.heap[r]?=some (Obj.deferred (some [])))/\(D.2=true->rs=[])
theorem Bw.nil{N:Nat}{D:MD}{w:World}:Bw N D w D.1:=⟨[],rfl,List.nodup_nil,(fun _ h=>by cases h),fun _=>rfl⟩
theorem Bw.on{N k B:Nat}{E E' :Env}{ds:List Deferred}{D:MD}(h:Bw N D E.w ds)(X:Ext k B E E'):Bw N D E'.w ds:=by obtain⟨rs,h1,h2,h3,h4⟩:=h;exact⟨rs,h1,h2,(fun r hr=>⟨(h3 r hr).1,X.dfr r (h3 r hr).2⟩),h4⟩
structure St(B:Nat)(F:Nat->Nat->Prop)(N:Nat)(D:MD)(E:Env)(H:Heap)(t:List V)(a:Act):Prop where
 sim:Sim B F H E
 one:H.length=1
 rel:Qh E t a.tmps.toList
 defers:Bw N D E.w a.defers
 nsz:N<=E.w.heap.size
def Yj(B:Nat)(F:Nat->Nat->Prop)(N:Nat)(D:MD)(E0:Env)(ex:Ex)(t' :List V)(H' :Heap):Exit->Act->World->Prop:=
 fun e a' w' =>∃E',E'.w=w' /\Ext 1 B E0 E' /\St B F N D E' H' t' a' /\J5 E' ex e
theorem St.lt{B:Nat}{F:Nat->Nat->Prop}{N:Nat}{D:MD}{E:Env}{H:Heap}{t:List V}{a:Act}(s:St B F N D E H t a):0<H.length:=by rw[s.one];exact Nat.one_pos
def Zbp(P:Program)(b:Code)(g:List V->Heap->Option (List V×Heap)):Prop:=
 ∀(ro:Option Nat) (dp B:Nat) (F:Nat->Nat->Prop) (N:Nat) (D:MD) (E0 E:Env) (t t' :List V) (H H' :Heap) (a:Act),g t H=some (t',H')->Ext 1 B E0 E->E0.tab=Qt P->St B F N D E H t a->(Code.loop b).wpIn (G ro) dp P (Yj B F N D E0 .normal t' H') a E.w
def Qbs(P:Program)(pol:Pol)(fn:FuncId):Code->Prop
 | .seq a b| .cond _ a b| .rangeFunc _ _ a b=>Qbs P pol fn a/\Qbs P pol fn b
 | .block _ b| .scope b=>Qbs P pol fn b
 | .loop b=>(∀g,pol.loop fn (Zt b)=some g->Zbp P b g)/\Qbs P pol fn b
 |_=>True
theorem Qwv{P:Program}{pol:Pol}{fn:FuncId}(h:∀r,pol.loop fn r=none)(c:Code):Qbs P pol fn c:=by
 induction c with
 |seq a b iha ihb|cond _ a b iha ihb|rangeFunc _ _ a b iha ihb=>exact⟨iha,ihb⟩
 |block _ b ih|scope b ih=>exact ih
 |loop b ih=>refine⟨fun g hg=>?_,ih⟩;rw[h] at hg;cases hg
 |_=>trivial
structure Okay(P:Program)(pol:Pol):Prop where
 mixed:P.follows .mixedOrders=true
 draws:∀(f:FuncId) (F:Func) (c:Code),P.funcs[f]?=some F->F.body=some c->drawsC c=true
 loops:∀(f:FuncId) (F:Func) (c:Code),P.funcs[f]?=some F->F.body=some c->(Q9 c).Nodup/\flatC c=true
 num:∀(f:FuncId) (F:Func),P.funcs[f]?=some F->F.body.isSome=true->(F.name== "runtime.NumGoroutine")=false
 prim:∀f g,pol.prim f=some g->∀B F H E fr dst args cargs v x,Sim B F H E->H.length=1->fr=0->E.tab=Qt P->Qh E args cargs->g fr dst (Qd H) args=some (v,x)->
  Invokes P f ⟨cargs⟩ E.w (Answer B F H E (.ret v) (wr H x))
 loop:∀(f:FuncId) (F:Func) (c:Code),P.funcs[f]?=some F->F.body=some c->Qbs P pol f c
 tame:Qkg pol
 prims:∀f g,pol.prims f=some g->∀B F H E nm args cargs v ws,Sim B F H E->H.length=1->E.tab=Qt P->Qh E args cargs->g nm (Qd H) args=some (v,ws)->
  Invokes P f ⟨cargs⟩ E.w (Answer B F H E (.ret v) (wrL H ws))
section
variable {P : Program} {pol : Pol} {C : Call} {B : Nat} {F : Nat -> Nat -> Prop} {fn N : Nat} {D : MD} {ro : Option Nat} {dp : Nat}
theorem Okay.invokes(ok:Okay P pol){f:FuncId}{args:Array Value}{w:World}{R:Ending->World->Prop}(hf:∃(F:Func) (c:Code),P.funcs[f]?=some F/\F.body=some c)(h:Calls P f args w R):Invokes P f args w R:=by obtain⟨Fn,c,h1,h2⟩:=hf;refine .inr ⟨f,?_,h⟩;have:=ok.num f Fn h1 (by rw[h2];rfl);simp only[callFunc,Zrf,run_program,Zre,h1,this,Zn5,if_false,h2,Option.isNone_some,Zrg]
theorem Qfn(ok:Okay P pol)(cs:Jm P C){nm:Nat}{f:FuncId}{args:List V}{H H' :Heap}{r:Rt}{E:Env}{cargs:List Value}
 (h:callOp pol C nm f args H=some (r,H'))(S:Sim B F H E)(one:H.length=1)(htab:E.tab=Qt P)(hr:Qh E args cargs):Invokes P f ⟨cargs⟩ E.w (Answer B F H E r H'):=by
 unfold callOp at h;split at h
 . rename_i g hg;cases hq:g nm (Qd H) args with
   |none=>rw[hq] at h;cases h
   |some x=>rw[hq] at h;cases h;exact ok.prims f g hg B F H E nm args cargs x.1 x.2 S one htab hr hq
 split at h
 . rename_i g hg;cases hq:g 0 (some nm) (Qd H) args with
   |none=>rw[hq] at h;cases h
   |some x=>rw[hq] at h;cases h;exact ok.prim f g hg B F H E 0 (some nm) args cargs x.1 x.2 S one rfl htab hr hq
 . split at h
   case h_2=>cases h
   rename_i as w has;obtain⟨E0,e0,X0,S0,hr0⟩:=Qym S has hr;have one0:(wr H w).length=1:=by rw[wr_length];exact one
   have htab0:E0.tab=Qt P:=X0.tab.trans htab;have X0' :Ext 1 B E E0:=one▸X0;have back:∀r H' e w',Answer B F (wr H w) E0 r H' e w' ->Answer B F H E r H' e w' :=by rintro r H' e w' ⟨E1,h1,h2,h3,h4,h5⟩;exact⟨E1,h1,h2,h3,X0'.trans h4,h5⟩
   rw[<-e0];cases hfix:pol.fix f with
   |false=>
    rw[hfix] at h;simp only[Qy1] at h;obtain⟨hbody,hall⟩:=cs.1 f as (wr H w) r H' h;exact ok.invokes hbody ((hall B F E0 cargs S0 one0 htab0 hr0).mono fun e w' =>back r H' e w')
   |true=>
    rw[hfix] at h;simp only[Qy1] at h;split at h
    . rename_i v H1 hC;split at h
      case h_2=>cases h
      rename_i v' w2 hv;cases h;obtain⟨hbody,hall⟩:=cs.1 f as (wr H w) _ H1 hC;refine ok.invokes hbody ((hall B F E0 cargs S0 one0 htab0 hr0).mono ?_);rintro e w' ⟨E1,rfl,⟨c,rfl,hcv⟩,S1,X1,hl⟩;obtain⟨E2,e2,X2,S2,h2⟩:=Q2i S1 hv hcv;rw[hl] at X2;exact⟨E2,e2,⟨c,rfl,h2⟩,S2,X0'.trans (X1.trans X2),by rw[wr_length];exact hl⟩
    . rename_i hno;obtain⟨hbody,hall⟩:=cs.1 f as (wr H w) r H' h;exact ok.invokes hbody ((hall B F E0 cargs S0 one0 htab0 hr0).mono fun e w' =>back r H' e w')
theorem Q2l{E:Env}{H:Heap}(S:Sim B F H E){t:TypeId}{x l h v:V}{ws:List (Nat×Nat×O)}{cx cl ch:Value}(e:Qrs P (Qd H) t x l h=some (v,ws))(rx:Rel E x cx)(rl:Rel E l cl)(rh:Rel E h ch):
 ws=[]/\∃cv,Rel E v cv/\(Instr.sliceAt t cx (some cl) (some ch) none).run P E.w= .ok cv E.w:=by
 unfold Qrs at e;split at e<;>try (cases e;done)
 rename_i _ _ _ _ el f s o len e' kl il kh ih hu;split at e<;>try (cases e;done)
 rename_i n xs hn hg;split at e<;>try (cases e;done)
 rename_i hc;obtain⟨rfl,h1,h2,h3,h4,h5⟩:=hc;cases e;simp only[Rel] at rx rl rh;subst rl;subst rh;obtain⟨b,c',T',n',hmu,rfl,g1,g2,g3,g4,g5⟩:=rx;obtain⟨b2,c,T,vs,rest,q1,q2,q3,q4,q5,q6,q7,q8⟩:=S.lies hg;rw[hmu] at q1;cases q1;have hvl:=q5.length;have hcs:c.size=vs.length+rest.length:=by have:=congrArg List.length q4;simpa using this
 have hn' :n' =c.size:=by simp only[World.shape?,q3,Zrd,Prod.mk.injEq] at g3;exact g3.2.symm
 have hend:=g5 trivial;obtain⟨a,rfl⟩:∃a:Nat,il=(a:Int):=⟨il.toNat,by omega⟩;obtain⟨d,rfl⟩:∃d:Nat,ih=(d:Int):=⟨ih.toNat,by omega⟩;simp only[Zqh] at h4⊢;have hdc:d<=c' :=by
  rcases Zn3 c' d with hlt|hge
  . have:(c' +1)*e' <=d*e' :=Zo3 _ hlt;rw[Zpn,Nat.one_mul] at this;omega
  . exact hge
 have hcut:Xh len c' (some (a:Int)) (some (d:Int)) none=some (a,d,c'):=by
  unfold Xh;rw[if_pos]
  . simp
  . refine⟨?_,?_,?_,?_,?_,?_,?_⟩<;>simp<;>omega
 refine⟨trivial,_,?_,X6 E.w hu hn hcut (.inr ⟨_,_,rfl,rfl⟩) (.inr ⟨_,_,rfl,rfl⟩) (.inl ⟨rfl,rfl⟩)⟩;have hne:¬c' =a:=by omega
 rw[if_neg hne];simp only[Rel,Zn2,Yo];have hsub:((d:Int)-(a:Int)).toNat=d-a:=by omega
 have e1:(c' -a)*e' +a*e' =c' *e' :=by rw[<-Zpn];congr 1;omega
 refine⟨b,c' -a,T',n',hmu,by rw[hsub],by omega,(fun k hk=>by cases hk),g3,by omega,fun _=>by omega⟩
theorem Qu4{E:Env}{H:Heap}(S:Sim B F H E)(hlt:0<H.length){ρ:Operand->V}{ρc:Operand->Value}(hρ:∀x,Rel E (ρ x) (ρc x)){nm:Nat}{o:Oper}{v:V}{ws:List (Nat×Nat×O)}
 (h:J6 P (Qd H) ρ nm o.op=some (v,ws)):(∀c,o.op≠ .defer c)/\∃E' cv,Ext H.length B E E' /\Sim B F (wrL H ws) E' /\Rel E' v cv/\(execOp ρc o).run P E.w= .ok (.value cv) E'.w:=by
 unfold J6 at h;split at h<;>try (cases h;done)
 . rename_i t x lo hi hop;refine⟨fun d e=>(by rw[hop] at e;cases e),?_⟩;obtain⟨rfl,cv,hr,hrun⟩:=Q2l S h (hρ x) (hρ lo) (hρ hi);refine⟨E,cv,Ext.refl _ _ _,S,hr,?_⟩;unfold execOp;simp only[hop,Zn2,Zpl,Zrf,hrun,Zre,Zrg]
 rename_i c hop;refine⟨fun d e=>(by rw[hop] at e;cases e),?_⟩;have harr:c.args.map ρc=⟨c.args.toList.map ρc⟩:=by apply Array.ext';simp
 split at h<;>try (cases h;done)
 . rename_i s x t t2 ts hc ha ht;have h0:c.argTypes[0]?=some t:=by rw[<-Zot,ht];rfl
   have h1:c.argTypes[1]?=some t2:=by rw[<-Zot,ht];rfl
   obtain⟨E',cv,X,S',hr,hrun⟩:=Qyb S hlt o.type h0 h1 h (hρ s) (hρ x);refine⟨E',cv,X,S',hr,?_⟩;have e:(execOp ρc o).run P E.w=((do pure (Next.value (<-Builtin.append_ c.argTypes o.type #[ρc s,ρc x])):Sem Next)).run P E.w:=by unfold execOp;simp only[hop,resolve,hc,Zrf,Zrg,Zre,invoke];rw[harr,ha];show((do pure (Next.value (<-Builtin.append_ c.argTypes o.type #[ρc s,ρc x])):Sem Next)).run P E.w=_;simp only[Zrf,Zrg]
   rw[e];simp only[Zrf,hrun,Zre,Zrg]
theorem St.ρ{E:Env}{H:Heap}{t:List V}{a:Act}(s:St B F N D E H t a)(x:Operand):Rel E (rho t x) (a.eval x):=by
 cases x with
 |tmp i=>
  simp only[rho,Act.eval];cases hx:t[i]? with
  |none=>simp[List.getD,hx,Rel]
  |some x=>
   obtain⟨v,hv,hr⟩:=s.rel.get hx;have:a.tmps[i]?=some v:=by simpa using hv
   simpa [List.getD,hx,Zp3,this] using hr
 |const v=>exact Kn E v
 |global g=>simp[rho,Rel]
 |func f=>simp only[rho,Act.eval,Rel];exact⟨[],[],rfl,.nil,.nil⟩
theorem St.put{E:Env}{H:Heap}{t:List V}{a:Act}(s:St B F N D E H t a)(dst:Option Nat){v:V}{c:Value}(h:Rel E v c):St B F N D E H (Q1 t dst v) (a.put dst c):=by
 cases dst with
 |none=>exact s
 |some d=>
  refine⟨s.sim,s.one,?_,s.defers,s.nsz⟩;simp only[Q1,Act.put];have:=s.rel.set d h;simpa using this
theorem St.on{E E' :Env}{H H' :Heap}{t:List V}{a:Act}(s:St B F N D E H t a)(X:Ext 1 B E E')(S' :Sim B F H' E')(hl:H'.length=1):St B F N D E' H' t a:=
 ⟨S',hl,Qh.mono X (fun f i q=>s.one▸s.sim.lt f i q) _ _ s.rel,s.defers.on X,Zn7 s.nsz X.size⟩
theorem Yv{fr:Nat}{mt:Nat->Bool}{g:Get}{r:Operand->V}{o:Oper}{st:Zo}(h:Zv P mt fr g r o=some st):∀c,o.op≠ .defer c:=by intro c e;simp only[Zv,e] at h;cases h
theorem B9{o:Oper}{a:Act}{w:World}{next:Act->World->Prop}{Q:Exit->Act->World->Prop}(hd:∀c,o.op≠ .defer c)(h:o.uponIn (G ro) dp P a next Q ((execOp a.eval o).run P w)):o.wpIn (G ro) dp P a w next Q:=
 ⟨fun _ _=>trivial,by rw[Oper.semAt_eq _ _ _ hd];exact h⟩
theorem Qde{n:Nat}:(G ro).depth.isSome=true->1<=n:=fun h=>by cases h
theorem Xl(ok:Okay P pol)(cs:Jm P C){nm:Nat}{t t' :List V}{H H' :Heap}{o:Oper}{ex:Ex}{E0 E:Env}{a:Act}(h:Zi P pol C nm t H o=some (ex,t',H'))
 (X0:Ext 1 B E0 E)(htab:E0.tab=Qt P)(s:St B F N D E H t a){next:Act->World->Prop}{Q:Exit->Act->World->Prop}
 (hn:ex= .normal->∀a' E',Ext 1 B E0 E' ->St B F N D E' H' t' a' ->next a' E'.w)
 (hq:ex≠ .normal->∀e a' w',Yj B F N D E0 ex t' H' e a' w' ->Q e a' w'):o.wpIn (G ro) dp P a E.w next Q:=by
 have htab1:E.tab=Qt P:=X0.tab.trans htab;unfold Zi at h;split at h
 . rename_i hev;split at h
   case h_2=>cases h
   rename_i v ws hm;cases h;obtain⟨hnd,E',cv,X,S',hr,hrun⟩:=Qu4 s.sim s.lt (ρc:=a.eval) s.ρ hm;have X1:Ext 1 B E E' :=X.less s.lt (Zn6 _);refine B9 hnd ?_;rw[hrun];exact hn rfl _ _ (X0.trans X1) ((s.on X1 S' (by rw[Qri];exact s.one)).put o.dst hr)
 . rename_i v w hev;cases h;have:=Bq s.sim s.lt (ρc:=a.eval) s.ρ hev;obtain⟨E',cv,X,S',hr,hrun⟩:=this;have X1:Ext 1 B E E' :=X.less s.lt (Zn6 _);have s' :=(s.on X1 S' (by rw[wr_length];exact s.one)).put o.dst hr;have X' :=X0.trans X1;refine B9 (Yv (o:=atN o nm) hev) ?_;have hrun2:(execOp a.eval o).run P E.w= .ok (.value cv) E'.w\/((execOp a.eval o).run P E.w= .ok .skip E'.w/\cv=undef):=hrun;clear hrun;rcases hrun2 with hrun|⟨hrun,rfl⟩
   . rw[hrun];exact hn rfl _ _ X' s'
   . rw[hrun];exact hn rfl _ _ X' s'
 . rename_i v hev;cases h;obtain⟨cv,hr,hrun⟩:=Bq s.sim s.lt (ρc:=a.eval) s.ρ hev;refine B9 (Yv (o:=atN o nm) hev) ?_;have hrun:(execOp a.eval o).run P E.w= .halt (.panic cv) E.w:=hrun;rw[hrun];exact hq (fun e=>by cases e) _ _ _ ⟨E,rfl,X0,s,cv,rfl,hr⟩
 . rename_i f args hev;obtain⟨cargs,hr,hrun⟩:=Bq s.sim s.lt (ρc:=a.eval) s.ρ hev;have hrun:(execOp a.eval o).run P E.w=(callFunc f ⟨cargs⟩).run P E.w:=hrun;have main:∀r,callOp pol C (Zc H) f args H=some (r,H')->(∀e w',Answer B F H E r H' e w' ->(match e with
    | .returned v=>next (a.put o.dst v) w'
    | .panicked chain=>Q (.panic chain) a w'
    | .outgrown=>False))->o.wpIn (G ro) dp P a E.w next Q:=by
    intro r hc hall;refine B9 (Yv (o:=atN o nm) hev) ?_;rw[hrun];rcases Qfn ok cs hc s.sim s.one htab1 hr with⟨v,w',h1,h2⟩|⟨j,h1,h2⟩
    . rw[h1];exact hall _ _ h2
    . rw[h1];refine⟨Qde,(callsIn_wide (n:=dp-1)).2 ?_⟩;refine h2.mono ?_;intro e w' hA;have:=hall e w' hA;cases e with
      |returned v=>exact this
      |panicked chain=>exact this
      |outgrown=>exact this.elim
   split at h
   . rename_i v H1 hc;cases h;refine main _ hc ?_;rintro e w' ⟨E',rfl,⟨c,rfl,hcr⟩,S',X,hl⟩;exact hn rfl _ _ (X0.trans X) ((s.on X S' hl).put o.dst hcr)
   . rename_i v H1 hc;cases h;refine main _ hc ?_;rintro e w' ⟨E',rfl,⟨c,rfl,hcr⟩,S',X,hl⟩;exact hq (fun e=>by cases e) _ _ _ ⟨E',rfl,X0.trans X,s.on X S' hl,c,rfl,hcr⟩
   . cases h
 . rename_i fo so args hev;obtain⟨b,cargs,hb,hr,hrun⟩:=Bq s.sim s.lt (ρc:=a.eval) s.ρ hev;split at h
   case h_2=>cases h
   rename_i v H1 hc;cases h;obtain⟨rec,h1,h2,h3⟩:=cs.2.1 fo so args H _ _ hc B F E b cargs (dp-1) s.sim s.one htab1 hb hr;refine B9 (Yv (o:=atN o nm) hev) ?_;have hrun:(execOp a.eval o).run P E.w=(Instr.yield b ⟨cargs⟩).run P E.w:=hrun;rw[hrun,run_yield h1 (by simpa using h2)];refine⟨Qde,RoundIn.mono (F:=G ro) h3 ?_⟩;rintro e w' ⟨E',rfl,⟨c,rfl,hcr⟩,S',X,hl⟩;exact hn rfl _ _ (X0.trans X) ((s.on X S' hl).put o.dst hcr)
theorem Jy{E:Env}{H:Heap}{t:List V}{a:Act}(s:St B F N D E H t a){ops:Array Oper}{o:Oper}{b:Bool}(h:Z1 ops t o=some b):
 Region.wanted o (yielded ops a.tmps)=b:=by
 unfold Z1 at h;unfold Region.wanted;split at h
 . rename_i hg;cases h;simp[hg]
 . rename_i j want hg;simp only[hg];split at h
   . rename_i c hb;cases h;unfold yielded;cases hd:(ops[j]?).bind (·.dst) with
     |none=>rw[hd] at hb;simp at hb
     |some d=>
      rw[hd] at hb;simp only[Zow] at hb⊢;obtain⟨v,hv,hr⟩:=s.rel.get hb;simp only[Rel] at hr;subst hr;have:a.tmps[d]?=some (.bool c):=by simpa using hv
      rw[this];cases c<;>cases want<;>rfl
   . rename_i hb;cases h;unfold yielded;cases hd:(ops[j]?).bind (·.dst) with
     |none=>rw[hd] at hb;simp at hb
     |some d=>
      rw[hd] at hb;simp only[Zow] at hb⊢;obtain⟨v,hv,hr⟩:=s.rel.get hb;simp only[Rel] at hr;obtain⟨vs,rfl,hl⟩:=hr;have:a.tmps[d]?=some (.tuple ⟨vs⟩):=by simpa using hv
      rw[this];cases want<;>rfl
   . cases h
theorem Yt(ok:Okay P pol)(cs:Jm P C){ops:Array Oper}{E0:Env}:∀(l pre:List Oper) (t:List V) (H:Heap) (ex:Ex) (t' :List V) (H' :Heap) (E:Env) (a:Act),
 ops.toList=pre++l->Zp P pol C ops l t H=some (ex,t',H')->Ext 1 B E0 E->E0.tab=Qt P->St B F N D E H t a->
 wpOpsIn (G ro) dp P ops (Yj B F N D E0 ex t' H') (List.range' pre.length l.length) a E.w
 |[],pre,t,H,ex,t',H',E,a,_,h,X0,htab,s=>by
  cases h;exact⟨E,rfl,X0,s,rfl⟩
 |o::l,pre,t,H,ex,t',H',E,a,he,h,X0,htab,s=>by
  have ho:ops[pre.length]?=some o:=by
   have:ops.toList[pre.length]?=some o:=by rw[he];simp
   simpa using this
  have he' :ops.toList=(pre++[o])++l:=by rw[he];simp
  simp only[Zp9,Zp2,wpOpsIn,ho];simp only[Zp] at h;split at h
  . cases h
  . rename_i hw;have:=Jy s hw;rw[if_neg (by rw[this];decide)];refine⟨fun _ _=>trivial,?_⟩;have ih:=Yt ok cs l (pre++[o]) _ _ _ _ _ E _ he' h X0 htab (s.put o.dst (v:=nov) (c:=undef) (by simp[Rel,Qh,undef]));simpa using ih
  . rename_i hw;have:=Jy s hw;rw[if_pos this];split at h
    . rename_i t1 H1 hop;refine Xl ok cs hop X0 htab s ?_ (fun hne=>absurd rfl hne);intro _ a' E' X' s';have ih:=Yt ok cs l (pre++[o]) _ _ _ _ _ E' a' he' h X' htab s';simpa using ih
    . rename_i x hne;refine Xl ok cs h X0 htab s ?_ (fun _ e a' w' hx=>hx);intro hex;subst hex;exact absurd h (by
       intro h'
       exact hne _ _ (by exact h'))
theorem Qag(ok:Okay P pol)(cs:Jm P C){ops:Array Oper}{base lim:Nat}{T:List FP}{E0:Env}:∀(l:List Nat) (t:List V) (H:Heap) (t' :List V) (H' :Heap) (E:Env) (a:Act),
 Bm P pol C ops base lim T l t H=some (t',H')->Ext 1 B E0 E->E0.tab=Qt P->St B F N D E H t a->wpOpsIn (G ro) dp P ops (Yj B F N D E0 .normal t' H') l a E.w
 |[],t,H,t',H',E,a,h,X0,htab,s=>by
  cases h;exact⟨E,rfl,X0,s,rfl⟩
 |i::l,t,H,t',H',E,a,h,X0,htab,s=>by
  simp only[Bm] at h;split at h
  case h_2=>cases h
  rename_i t1 H1 hst;unfold J1 at hst;split at hst
  . cases hst
  rename_i o ho;simp only[wpOpsIn,ho];split at hst
  . cases hst
  . rename_i hw;have:=Jy s hw;rw[if_neg (by rw[this];decide)];refine⟨fun _ _=>trivial,?_⟩;split at hst
    . cases hst;exact Qag ok cs l _ _ _ _ E _ h X0 htab (s.put o.dst (v:=nov) (c:=undef) (by simp[Rel,Qh,undef]))
    . cases hst
  . rename_i hw;have:=Jy s hw;rw[if_pos this];split at hst
    case h_2=>cases hst
    rename_i t2 H2 hop;split at hst
    case isFalse=>cases hst
    cases hst;refine Xl ok cs hop X0 htab s ?_ (fun hne=>absurd rfl hne);intro _ a' E' X' s';exact Qag ok cs l _ _ _ _ E' a' h X' htab s'
theorem St.drawn{E:Env}{H:Heap}{t:List V}{a:Act}(s:St B F N D E H t a):∃E',E'.w={E.w with drawn:=E.w.drawn+1}/\Ext 1 B E E' /\St B F N D E' H t a:=by
 have X1:Ext H.length E.w.heap.size (AM.bare E.tab E.w E.mod) {AM.bare E.tab E.w E.mod with w:={E.w with drawn:=E.w.drawn+1}}:=
  ⟨Zn6 _,fun _ _ _ h=>h,fun _ _ _ _ h=>h,fun _ _ _ _ h=>h,fun _ _ _ _ h=>h,fun f s n b lo hi _ _ h=>⟨n,b,lo,hi,h,.inr ⟨rfl,rfl,rfl,rfl⟩⟩,fun _ _=>rfl,⟨rfl,rfl,rfl⟩,rfl,fun _ h=>h⟩
 obtain⟨X,S⟩:=s.sim.behind X1;exact⟨_,rfl,X.less s.lt (Zn6 _),s.on (X.less s.lt (Zn6 _)) S s.one⟩
theorem St.spent{E:Env}{H:Heap}{t:List V}{a:Act}(s:St B F N D E H t a)(n:Nat)(hg:Qd H 0 n=none):∃E',E'.w=E.w/\Ext 1 B E E' /\St B F N D E' (hset H 0 n .dead) t a:=by obtain⟨X,S⟩:=s.sim.spend s.lt hg;exact⟨{E with mu:=upd E.mu 0 n (some 0)},rfl,X.less s.lt (Zn6 _),s.on (X.less s.lt (Zn6 _)) S (by rw[Jo];exact s.one)⟩
theorem Qjj(ok:Okay P pol)(cs:Jm P C){ops:Array Oper}{id:Nat}{E0 E:Env}{t t' :List V}{H H' :Heap}{T:List FP}{a:Act}(hd:Qbo ops=true)
 (hC:Xt C)(hfree:Qd H 0 (Zc H+ops.size)=none)(h:Zb P pol C ops (Zc H+ops.size) (Zc H) ops.toList t (hset H 0 (Zc H+ops.size) .dead)=some (t',H',T))(hok:okT (Region.before ops) (loud T)=true)(X:Ext 1 B E0 E)(htab:E0.tab=Qt P)(s:St B F N D E H t a):
 (Code.region id ops true).wpIn (G ro) dp P (Yj B F N D E0 .normal t' H') a E.w:=by
 refine wpIn_region_draw fun tp=>?_;obtain⟨E',hw,X',s'⟩:=s.drawn;obtain⟨E2,hw2,X2,s2⟩:=s'.spent (Zc H+ops.size) hfree;obtain⟨h1,h2⟩:=Qa4 (ops:=ops) (base:=Zc H) ops.toList [] [] t _ t' H' T (by simp) rfl (by simpa using h);have h3:=Qdp hC ok.tame (Zn6 _) hd (by simpa using h1) hok (by simpa [Zp1] using h2) ok.mixed tp;rw[<-hw,<-hw2];exact Qag ok cs _ _ _ _ _ E2 a h3 ((X.trans X').trans X2) htab s2
end
open Go.ChangeMaps (setBlock)
section
variable {P : Program} {E : Env} {B : Nat} {F : Nat -> Nat -> Prop} {H : Heap} {N : Nat} {D : MD} {ro : Option Nat} {dp : Nat}
theorem Qg8(S:Sim B F H E){x:V}{c:Value}{cs:List (V×Option (Nat×Nat×O))}(h:Y8 (Qd H) x=some cs)(hr:Rel E x c)(ty:TypeId):
 ∃p∈cs,∃E' cv,Ext H.length B E E' /\Sim B F (wr H p.2) E' /\Rel E' p.1 cv/\(Instr.next c false ty).run P E.w= .ok cv E'.w:=by
 have over:Rel E (.tuple [.bool false]) (.tuple #[.bool false]):=by simp only[Rel];exact⟨[.bool false],rfl,.cons (by simp[Rel]) .nil⟩
 unfold Y8 at h;split at h
 case h_2=>cases h
 rename_i f s;simp only[Rel] at hr;obtain⟨b,hb,rfl⟩:=hr;split at h
 case h_3=>cases h
 . rename_i since seen stepped hi;cases h;obtain⟨b',mb,g1,g2,g3,g4⟩:=S.obj f s _ hi;rw[hb] at g1;cases g1;simp only at g4;subst g4;refine⟨_,Zoh.2 rfl,E,_,Ext.refl _ _ _,S.over hi,over,?_⟩;simp[Instr.next,getObj,Sem.run,g3]
 . rename_i m since seen stepped hi;split at h
   case h_2=>cases h
   rename_i es bs clk hm;split at h
   case isFalse=>cases h
   rename_i hchk;rw[Zok,decide_eq_true_eq] at hchk;obtain⟨hall,hst⟩:=hchk;obtain⟨b',mb,g1,g2,g3,g4⟩:=S.obj f s _ hi;rw[hb] at g1;cases g1;obtain⟨r,rfl,hr⟩:=g4;obtain⟨r',ces,k1,k2,k3,k4,k5⟩:=S.obj m.1 m.2 _ hm;rw[hr] at k1;cases k1;subst k5;have hold:∀x∈ces.toList,x.born<since:=by intro x hx;have:=Zor.1 hall x.born (Zpc.2 ⟨x,hx,rfl⟩);exact of_decide_eq_true this
   rcases run_next_at (P:=P) E.w ty b r since stepped ⟨seen⟩ ces clk g3 k3 hold hst with⟨h0,hrun⟩|⟨e,he,w1,hw1,hrun⟩
   . have hnil:Ko seen es (ces.toList.map (·.born))=[]:=by
      apply Classical.byContradiction;intro hne;obtain⟨ce,q1,q2⟩:=Qj8 k4 hne;have:=Array.eq_empty_of_size_eq_zero h0;have hmem:ce∈(leftOf ces ⟨seen⟩):=by
       unfold leftOf;rw[Array.mem_filter];refine⟨Array.mem_toList_iff.1 q1,?_⟩;have:(⟨seen⟩:Array Nat).contains ce.born=false:=by simpa using q2
       rw[this];rfl
      rw[this] at hmem;simp at hmem
     rw[hnil] at h;cases h;exact⟨_,Zoh.2 rfl,E,_,Ext.refl _ _ _,S.over hi,over,hrun⟩
   . obtain⟨q1,q2⟩:=mem_left he;obtain⟨ae,p1,p2,p3,p4⟩:=Qg0 k4 q1 (by simpa using q2);split at h
     . rename_i hnil;rw[hnil] at p1;cases p1
     . cases h;have hd:∃d,setBlock w1 b (.mapIter (some r) since ((⟨seen⟩:Array Nat).push e.born) clk)=(E.setIter b (some r) since ⟨seen++[e.born]⟩ clk d).w:=by
        have hp:(⟨seen⟩:Array Nat).push e.born=⟨seen++[e.born]⟩:=by simp
        rw[hp];rcases hw1 with rfl|rfl
        . exact⟨E.w.drawn,rfl⟩
        . exact⟨E.w.drawn+1,rfl⟩
       obtain⟨d,hd⟩:=hd;obtain⟨X,S'⟩:=S.setIter hi hb g3 g2 (m:=some m) ⟨r,rfl,hr⟩ (seen++[e.born]) clk d;refine⟨_,Zpc.2 ⟨ae,p1,rfl⟩,_,_,X,?_,?_,by rw[hrun,hd]⟩
       . simp only[wr,p4];exact S'
       . simp only[Rel];exact⟨[.bool true,e.key,e.val],rfl,.cons (by simp[Rel]) (.cons (Rel.mono X S.lt _ _ p2) (.cons (Rel.mono X S.lt _ _ p3) .nil))⟩
theorem Qvx{t:List V}{a:Act}(s:St B F N D E H t a){o:Oper}{x:Operand}(hop:o.op= .next x false){cs:List (V×Option (Nat×Nat×O))}(hc:Y8 (Qd H) (rho t x)=some cs):
 ∃p∈cs,∃E' cv,Ext 1 B E E' /\St B F N D E' (wr H p.2) (Q1 t o.dst p.1) (a.put o.dst cv)/\∀(next:Act->World->Prop) (Q:Exit->Act->World->Prop),next (a.put o.dst cv) E'.w->o.wpIn (G ro) dp P a E.w next Q:=by
 obtain⟨p,hp,E',cv,X,S',hr,hrun⟩:=Qg8 (P:=P) s.sim hc (s.ρ x) o.type;refine⟨p,hp,E',cv,X.less s.lt (Zn6 _),(s.on (X.less s.lt (Zn6 _)) S' (by rw[wr_length];exact s.one)).put o.dst hr,?_⟩;intro next Q hn
 refine B9 (fun c e=>by rw[hop] at e;cases e) ?_;have:(execOp a.eval o).run P E.w= .ok (.value cv) E'.w:=by unfold execOp;simp only[hop,Zrf,hrun,Zre,Zrg]
 rw[this];exact hn
end
end Go.AM.BM
namespace Go.AM.BM
section
variable {P : Program} {B : Nat} {F : Nat -> Nat -> Prop} {H : Heap} {E : Env} {N : Nat} {D : MD} {ro : Option Nat} {dp : Nat}
end
end Go.AM.BM
end
