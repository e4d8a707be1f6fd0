/- This file holds in one the texts An17, An35, An50; each says at its head what it proves. -/
import Derived.Test.YtpdimkonjmoadaaGreatDoorT7
import Derived.RangeFuncRecord
import Derived.RangeFuncCalls
import Derived.OrdersIn
import Derived.RangeFuncNested
import Derived.Maps.RangeRun
set_option linter.unusedSimpArgs false
set_option linter.unusedVariables false
section
namespace Go.AM
def Jz(E:Env):Ex->Exit->Prop
 | .normal,e=>e= .normal
 | .exit i,e=>e= .exit i
 | .ret,e=>e= .ret
 | .panic v,e=>∃c,e= .panic [{v:=c,recovered:=false}]/\Rel E v c
def Q4d(E:Env):Rt->Ending->Prop
 | .ret v,e=>∃c,e= .returned c/\Rel E v c
 | .pan v,e=>∃c,e= .panicked [{v:=c,recovered:=false}]/\Rel E v c
def Invokes(P:Program)(f:FuncId)(args:Array Value)(w:World)(R:Ending->World->Prop):Prop:=
 (∃v w',(callFunc f args).run P w= .ok (.value v) w' /\R (.returned v) w')\/(∃j,(callFunc f args).run P w= .ok (.enter j args) w/\Calls P j args w R)
def Answer(B:Nat)(F:Nat->Nat->Prop)(H:Heap)(E:Env)(r:Rt)(H' :Heap)(e:Ending)(w' :World):Prop:=
 ∃E',E'.w=w' /\Q4d E' r e/\Sim B F H' E' /\Ext H.length B E E' /\H.length<=H'.length
abbrev G(ro:Option Nat):Fence:={Fence.wide with round:=ro}
def Jc(P:Program)(C:Call):Prop:=
 (∀(f:FuncId) args H r H',C (some f) args H=some (r,H')->(∃(F:Func) (c:Code),P.funcs[f]?=some F/\F.body=some c)/\
   ∀B F E cargs,Sim B F H E->E.tab=Qn P->Qe E args cargs->Calls P f ⟨cargs⟩ E.w (Answer B F H E r H'))/\
 (∀fo so rest H r H',C none (.yield fo so::rest) H=some (r,H')->∀B F E b cargs (n:Nat),Sim B F H E->E.tab=Qn P->E.mu fo so=some b->Qe E rest cargs->
   ∃rec:Loop,E.w.heap[b]?=some (.loop rec)/\cargs.length=rec.params.size/\
    RoundIn Fence.wide n P b rec.fn ((rec.params.zip (⟨cargs⟩:Array Value)).foldl (fun tmps (t,a)=>tmps.setIfInBounds t a) rec.tmps) rec.assign rec.body E.w (Answer B F H E r H'))
def flatC:Code->Bool
 | .seq a b| .cond _ a b=>flatC a&&flatC b
 | .block _ b| .loop b| .scope b=>flatC b
 | .rangeFunc _ _ a b=>(Q2 a).isEmpty&&(Q2 b).isEmpty
 |_=>true
def drawsC:Code->Bool
 | .region _ ops draw=>!draw||Qbp ops
 | .seq a b| .cond _ a b| .rangeFunc _ _ a b=>drawsC a&&drawsC b
 | .block _ b| .loop b| .scope b=>drawsC b
 |_=>true
structure Okay(P:Program)(pol:Pol):Prop where
 mixed:P.follows .mixedOrders=true
 draws:∀(f:FuncId) (F:Func) (c:Code),P.funcs[f]?=some F->F.body=some c->drawsC c=true
 loops:∀(f:FuncId) (F:Func) (c:Code),P.funcs[f]?=some F->F.body=some c->(Q2 c).Nodup/\flatC c=true
 num:∀(f:FuncId) (F:Func),P.funcs[f]?=some F->F.body.isSome=true->(F.name== "runtime.NumGoroutine")=false
 prim:∀f g,pol.prim f=some g->∀B F H E fr dst args cargs v x,Sim B F H E->fr<H.length->Qe E args cargs->g fr dst (Qd H) args=some (v,x)->
  Invokes P f ⟨cargs⟩ E.w (Answer B F H E (.ret v) (wr H x))
section
variable {P : Program} {pol : Pol} {C : Call} {B : Nat} {F : Nat -> Nat -> Prop} {fn fr N : Nat} {ro : Option Nat} {dp : Nat}
theorem Invokes.mono{f:FuncId}{args:Array Value}{w:World}{R R' :Ending->World->Prop}(h:Invokes P f args w R)(hr:∀e w',R e w' ->R' e w'):Invokes P f args w R' :=by
 rcases h with⟨v,w',h1,h2⟩|⟨j,h1,h2⟩
 . exact .inl ⟨v,w',h1,hr _ _ h2⟩
 . exact .inr ⟨j,h1,h2.mono hr⟩
theorem Okay.invokes(ok:Okay P pol){f:FuncId}{args:Array Value}{w:World}{R:Ending->World->Prop}(hf:∃(F:Func) (c:Code),P.funcs[f]?=some F/\F.body=some c)(h:Calls P f args w R):Invokes P f args w R:=by obtain⟨Fn,c,h1,h2⟩:=hf;refine .inr ⟨f,?_,h⟩;have:=ok.num f Fn h1 (by rw[h2];rfl);simp only[callFunc,Zsu,run_program,Zst,h1,this,Zpo,if_false,h2,Option.isNone_some,Zsv]
theorem wr_length(H:Heap)(w:Option (Nat×Nat×O)):(wr H w).length=H.length:=by
 cases w with
 |none=>rfl
 |some x=>obtain⟨f,s,o⟩:=x;exact Zy H f s o
theorem Sim.adoptMap{E:Env}{H:Heap}(S:Sim B F H E){f0 s0:Nat}(hf:f0<H.length)(hn:Qd H f0 s0=none){b clk:Nat}{ces:Array MapEntry}(hb:E.w.heap[b]?=some (.map ces clk))(hB:B<=b)
 (hfree:∀f s o,Qd H f s=some o->blk E f s o≠some b){es:List (V×V)}(hr:Z6 E es ces.toList):
 Ext H.length B E {E with mu:=upd E.mu f0 s0 (some b)}/\Sim B F (hset H f0 s0 (.map es (ces.toList.map (·.born)) clk)) {E with mu:=upd E.mu f0 s0 (some b)}:=by
 have hmn:=S.mu_none hn;have X:Ext H.length B E {E with mu:=upd E.mu f0 s0 (some b)}:=by
  refine⟨Zpp _,fun _ _ _ h=>h,fun _ _ _ _ h=>h,fun _ _ _ _ h=>h,?_,fun f s n b lo hi _ _ h=>⟨n,b,lo,hi,h,.inr ⟨rfl,rfl,rfl,rfl⟩⟩,fun _ _=>rfl,⟨rfl,rfl,rfl⟩,rfl,fun _ h=>h⟩;intro f s b' _ h;by_cases e:f=f0/\s=s0
  . rw[e.1,e.2,hmn] at h;cases h
  . exact(Q7 _ _ e).trans h
 refine⟨X,S.step f0 s0 _ hf X (fun f s e=>Q7 _ _ e) (by simp[Ql]) (fun f s e=>rfl) ?_ ?_ ?_ ?_ ?_ ?_⟩
 . intro n x h;have:=S.reg_none hn;simp only at h;rw[this] at h;cases h
 . exact fun f s o b e ho hb=>⟨rfl,fun i h=>h⟩
 . exact fun b i h=>S.fmod b i h
 . exact fun b i h=>S.modsz b i h
 . exact⟨b,ces,Ql _ _ _ _,hB,hb,Z6.mono X S.lt _ _ hr,rfl⟩
 . intro f s o b' e ho hb' h;simp only[blk,Ql,Zss] at h;subst h;exact hfree f s o ho hb'
theorem Qp9{f:V->Option V}{E E' :Env}(hf:∀x y v,f x=some y->Rel E x v->Rel E' y v):∀(es es' :List (V×V)) (ces:List MapEntry),frzM f es=some es' ->Z6 E es ces->Z6 E' es' ces
 |[],es',ces,h,r=>by cases h;exact r
 |(k,x)::es,es',ces,h,r=>by
  obtain⟨e,r',rfl,h1,h2,h3⟩:=r;simp only[frzM] at h;split at h
  . rename_i k' x' q q1 q2 q3;cases h;exact⟨e,r',rfl,hf _ _ _ q1 h1,hf _ _ _ q2 h2,Qp9 hf es q r' q3 h3⟩
  . cases h
theorem Sim.lift{E E1:Env}{H H1:Heap}{k:Nat}(S:Sim B F H E)(S1:Sim E.w.heap.size E.mod H1 E1)(X1:Ext k E.w.heap.size (AM.bare E.tab E.w E.mod) E1)(hlt:fr<H.length){dst:Option Nat}{v:V}{x:V×Nat×O}(h:Qdj H1 fr dst H v=some x)
 {c:Value}(hc:Rel E1 v c):∃E2,E2.w=E1.w/\Ext H.length B E E2/\Sim B F (wr H (some (fr,x.2.1,x.2.2))) E2/\Rel E2 x.1 c:=by
 unfold Qdj at h;split at h
 case h_5=>cases h
 case h_4=>
  rename_i d;split at h
  case h_2=>cases h
  rename_i hn;cases h;have hmn:=S.mu_none hn;have X:Ext H.length B E {E with w:=E1.w,mu:=upd E.mu fr d (some 0)}:=by
   refine⟨X1.size,X1.shape,fun b i v hm h=>X1.cell b i v hm h,fun b' i v _ hnm h=>hnm h,?_,fun f s n b lo hi _ _ h=>⟨n,b,lo,hi,h,.inr ⟨rfl,rfl,rfl,rfl⟩⟩,fun b hb=>X1.old b (Zps hb S.bsz),X1.rest,rfl,X1.dfr⟩;intro f s b' _ h;by_cases e:f=fr/\s=d
   . rw[e.1,e.2,hmn] at h;cases h
   . exact(Q7 _ _ e).trans h
  refine⟨{E with w:=E1.w,mu:=upd E.mu fr d (some 0)},rfl,X,S.step fr d _ hlt X (fun f s e=>Q7 _ _ e) (by simp[Ql]) (fun f s e=>rfl) ?_ ?_ S.fmod ?_ trivial ?_,?_⟩
  . intro n' x h;have:=S.nreg fr d n' x h;rw[hn] at this;cases this
  . exact fun f s o b' e ho hb=>⟨X1.old b' (S.blk_lt ho hb),fun i h=>h⟩
  . exact fun b' i h=>Zps (S.modsz b' i h) X1.size
  . intro f s o b' e ho hb' h;cases h
  . simp only[Rel] at hc⊢;exact hc
 case h_3=>
  rename_i f s cs len esz d;split at h
  case h_2=>cases h
  rename_i n hn hm;split at h
  case isFalse=>cases h
  rename_i hp;obtain⟨rfl,hp⟩:=hp;cases h;simp only[Rel] at hc;obtain⟨b0,off,cap,vs,rfl,h1,hrow,hl,hlen,hmu,hreg⟩:=hc;obtain⟨b,lo,hi,c,T,z,g1,g2,g3,g4,g5,g6⟩:=S1.obj f s _ hm;obtain⟨_,q⟩:=hreg _ _ _ _ g1;obtain⟨rfl,rfl,rfl⟩:=q rfl;have hM1:∀b' i,(E.mod b' i\/(b' =b/\off+n*esz<=i/\i<off+cap*esz))->E1.mod b' i:=by
   rintro b' i (h|⟨rfl,h2,h3⟩)
   . exact S1.fmod b' i h
   . exact g5 i h2 h3
  have hmn:=S.mu_none hn;have hlt' :∀b' i v,E.w.cell? ⟨b',i,none⟩=some v->b' <E.w.heap.size:=by
   intro b' i v hcell;rcases Zpm b' E.w.heap.size with h|h
   . exact h
   . have:E.w.heap[b']?=none:=Array.getElem?_eq_none h;simp[World.cell?,this] at hcell
  have X:Ext H.length B E {E with w:=E1.w,mod:=fun b' i=>E.mod b' i\/(b' =b/\off+n*esz<=i/\i<off+cap*esz),mu:=upd E.mu fr d (some b),reg:=upd E.reg fr d (some (n,b,off+n*esz,off+cap*esz))}:=by
   refine⟨X1.size,X1.shape,fun b i v hm h=>X1.cell b i v hm h,?_,?_,?_,fun b hb=>X1.old b (Zps hb S.bsz),X1.rest,rfl,X1.dfr⟩
   . rintro b' i v hcell hnm (h|⟨rfl,_,_⟩)
     . exact hnm h
     . have:=hlt' _ _ _ hcell;omega
   . intro f s b' _ h;by_cases e:f=fr/\s=d
     . rw[e.1,e.2,hmn] at h;cases h
     . exact(Q7 _ _ e).trans h
   . intro f s n' b' lo' hi' _ hs h;by_cases e:f=fr/\s=d
     . rw[e.1,e.2,hmn] at hs;cases hs
     . have h' :E.reg f s=some (n',b',lo',hi'):=(Q7 _ _ e).symm.trans h;exact⟨n',b',lo',hi',h',.inr ⟨rfl,rfl,rfl,rfl⟩⟩
  refine⟨{E with w:=E1.w,mod:=fun b' i=>E.mod b' i\/(b' =b/\off+n*esz<=i/\i<off+cap*esz),mu:=upd E.mu fr d (some b),reg:=upd E.reg fr d (some (n,b,off+n*esz,off+cap*esz))},rfl,X,S.step fr d _ hlt X (fun f s e=>Q7 _ _ e) (by simp[Ql]) (fun f s e=>Q7 _ _ e) ?_ ?_ (fun b' i h=> .inl (S.fmod b' i h)) ?_ ?_ ?_,?_⟩
  . intro n' x h;simp only[Ql,Zss,Prod.mk.injEq] at h;rw[h.1]
  . exact fun f s o b' e ho hb=>⟨X1.old b' (S.blk_lt ho hb),fun i h=> .inl h⟩
  . rintro b' i (h|⟨rfl,_,_⟩)
    . exact Zps (S.modsz b' i h) X1.size
    . exact(Zpt.1 g3).1
  . exact⟨b,_,_,c,T,z,Ql _ _ _ _,Zpq S.bsz g2,g3,g4,fun i h2 h3=> .inr ⟨rfl,h2,h3⟩,g6⟩
  . intro f s o b' e ho hb' h;simp only[blk,Ql,Zpl,Zss] at h;subst h;have:=S.blk_lt ho hb';omega
  . simp only[Rel];refine⟨b,off,cap,vs,rfl,h1,?_,Qe.dress (E:=AM.bare E1.tab E1.w (fun b' i=>E.mod b' i\/(b' =b/\off+n*esz<=i/\i<off+cap*esz))) (E' :={E with w:=E1.w,mod:=fun b' i=>E.mod b' i\/(b' =b/\off+n*esz<=i/\i<off+cap*esz),mu:=upd E.mu fr d (some b),reg:=upd E.reg fr d (some (n,b,off+n*esz,off+cap*esz))}) rfl rfl _ _ hp (Qe.bare hM1 _ _ hp hl),hlen,by simp[Ql],?_⟩
    . intro i v hv;obtain⟨r1,r2⟩:=hrow i v hv;exact⟨r1,fun h=>r2 (hM1 _ _ h)⟩
    . intro n' b' lo' hi' h;simp only[Ql,Zss,Prod.mk.injEq] at h;obtain⟨rfl,rfl,rfl,rfl⟩:=h;exact⟨Zpp _,fun _=>⟨rfl,rfl,rfl⟩⟩
 case h_2=>
  rename_i f s o len cap esz d;split at h
  case h_2=>cases h
  rename_i xs hn hm;split at h
  case isFalse=>cases h
  rename_i hp;cases h;simp only[Rel] at hc;obtain⟨b,c',T',n',hmu,rfl,h1,h2,h3,h4,h5⟩:=hc;obtain⟨b',c,T,vs,rest,g1,g2,g3,g4,g5,g6,g7⟩:=S1.obj f s _ hm;rw[hmu] at g1;cases g1;have hM1:∀b' i,(E.mod b' i\/b' =b)->E1.mod b' i:=by
   rintro b' i (h|rfl)
   . exact S1.fmod b' i h
   . exact g6 i
  have hmn:=S.mu_none hn;have hlt' :∀b' i v,E.w.cell? ⟨b',i,none⟩=some v->b' <E.w.heap.size:=by
   intro b' i v hcell;rcases Zpm b' E.w.heap.size with h|h
   . exact h
   . have:E.w.heap[b']?=none:=Array.getElem?_eq_none h;simp[World.cell?,this] at hcell
  have X:Ext H.length B E {E with w:=E1.w,mod:=fun b' i=>E.mod b' i\/b' =b,mu:=upd E.mu fr d (some b)}:=by
   refine⟨X1.size,X1.shape,fun b i v hm h=>X1.cell b i v hm h,?_,?_,fun f s n b lo hi _ _ h=>⟨n,b,lo,hi,h,.inr ⟨rfl,rfl,rfl,rfl⟩⟩,fun b hb=>X1.old b (Zps hb S.bsz),X1.rest,rfl,X1.dfr⟩
   . rintro b' i v hcell hnm (h|rfl)
     . exact hnm h
     . have:=hlt' _ _ _ hcell;omega
   . intro f s b' _ h;by_cases e:f=fr/\s=d
     . rw[e.1,e.2,hmn] at h;cases h
     . exact(Q7 _ _ e).trans h
  refine⟨{E with w:=E1.w,mod:=fun b' i=>E.mod b' i\/b' =b,mu:=upd E.mu fr d (some b)},rfl,X,S.step fr d _ hlt X (fun f s e=>Q7 _ _ e) (by simp[Ql]) (fun f s e=>rfl) ?_ ?_ (fun b' i h=> .inl (S.fmod b' i h)) ?_ ?_ ?_,?_⟩
  . intro n x h;have:=S.reg_none hn;simp only at h;rw[this] at h;cases h
  . exact fun f s o b' e ho hb=>⟨X1.old b' (S.blk_lt ho hb),fun i h=> .inl h⟩
  . rintro b' i (h|rfl)
    . exact Zps (S.modsz b' i h) X1.size
    . exact(Zpt.1 g3).1
  . exact⟨b,c,T,vs,rest,Ql _ _ _ _,Zpq S.bsz g2,g3,g4,Qe.dress (E:=AM.bare E1.tab E1.w (fun b' i=>E.mod b' i\/b' =b)) (E' :={E with w:=E1.w,mod:=fun b' i=>E.mod b' i\/b' =b,mu:=upd E.mu fr d (some b)}) rfl rfl _ _ hp (Qe.bare hM1 _ _ hp g5),fun i=> .inr rfl,g7⟩
  . intro f s o b' e ho hb' h;simp only[blk,Ql,Zss] at h;subst h;have:=S.blk_lt ho hb';omega
  . simp only[Rel];exact⟨b,c',T',n',Ql _ _ _ _,rfl,h1,h2,h3,h4,h5⟩
 rename_i f s d;split at h
 case h_2=>cases h
 rename_i es bs clk hn hm;cases hz:frzM (AM.frz (Qd H1) depth) es with
 |none=>rw[hz] at h;cases h
 |some es' =>
  rw[hz] at h;cases h;obtain⟨X,S'⟩:=S.behind X1;simp only[Rel] at hc;obtain⟨b,hb,rfl⟩:=hc;obtain⟨b',ces,g1,g2,g3,g4,g5⟩:=S1.obj f s _ hm;rw[hb] at g1;cases g1;subst g5;have hr:Z6 {E with w:=E1.w} es' ces.toList:=Qp9 (E:=E1) (fun x y v hf hx=>by
   obtain⟨h1,h2⟩:=S1.frz hf hx
   exact Rel.dress (E:=AM.bare E1.tab E1.w E.mod) (E' :={E with w:=E1.w}) rfl rfl _ _ h2 h1) _ _ _ hz g4
  obtain⟨X2,S2⟩:=S'.adoptMap hlt hn (b:=b) g3 (Zpq S.bsz g2) (fun f s o ho hb' =>by
   have hb2:blk E f s o=some b:=by cases o<;>exact hb'
   have:=S.blk_lt ho hb2
   omega) hr
  refine⟨{E with w:=E1.w,mu:=upd E.mu fr d (some b)},rfl,X.trans X2,S2,?_⟩;simp only[Rel];exact⟨b,Ql _ _ _ _,rfl⟩
theorem Qgc(ok:Okay P pol)(cs:Jc P C){f:FuncId}{args:List V}{H H' :Heap}{r:Rt}{E:Env}{cargs:List Value}
 {dst:Option Nat}(h:callOp pol C fn fr dst f args H=some (r,H'))(S:Sim B F H E)(htab:E.tab=Qn P)(hlt:fr<H.length)(hr:Qe E args cargs):Invokes P f ⟨cargs⟩ E.w (Answer B F H E r H'):=by
 unfold callOp at h;split at h
 . rename_i g hg;cases hq:g fr dst (Qd H) args with
   |none=>rw[hq] at h;cases h
   |some x=>rw[hq] at h;cases h;exact ok.prim f g hg B F H E fr dst args cargs x.1 x.2 S hlt hr hq
 . split at h
   . split at h
     case h_2=>cases h
     rename_i ys hys;obtain⟨hr',_⟩:=Qeh depth hys hr;have main:∀(r0:Rt) (H1:Heap) (v v' :V) (mk:V->Rt),C f ys []=some (r0,H1)->r0=mk v->frz (Qd H1) depth v=some v' ->(mk= .ret\/mk= .pan)->
      Invokes P f ⟨cargs⟩ E.w (Answer B F H E (mk v') H):=by
      intro r0 H1 v v' mk hc hr0 hfz hmk;obtain⟨hbody,hall⟩:=cs.1 f ys [] r0 H1 hc;have hcall:=hall _ _ (bare E.tab E.w E.mod) cargs S.bare htab hr';refine ok.invokes hbody (hcall.mono ?_);rintro e w' ⟨E1,rfl,hrt,S1,X1,_⟩;obtain⟨X,S'⟩:=S.behind (E1:=E1) X1;refine⟨{E with w:=E1.w},rfl,?_,S',X,Zpp _⟩;rcases hmk with rfl|rfl
      . subst hr0;obtain⟨c,he,hc⟩:=hrt;obtain⟨h1,h2⟩:=S1.frz hfz hc;exact⟨c,he,Rel.dress (E:=bare E1.tab E1.w E.mod) (E' :={E with w:=E1.w}) rfl rfl _ _ h2 h1⟩
      . subst hr0;obtain⟨c,he,hc⟩:=hrt;obtain⟨h1,h2⟩:=S1.frz hfz hc;exact⟨c,he,Rel.dress (E:=bare E1.tab E1.w E.mod) (E' :={E with w:=E1.w}) rfl rfl _ _ h2 h1⟩
     split at h
     . rename_i v H1 hc;cases hq:frz (Qd H1) depth v with
       |none=>rw[hq] at h;cases h
       |some v' =>rw[hq] at h;cases h;exact main _ H1 v v' .ret hc rfl hq (.inl rfl)
     . rename_i v H1 hc;cases hq:frz (Qd H1) depth v with
       |none=>rw[hq] at h;cases h
       |some v' =>rw[hq] at h;cases h;exact main _ H1 v v' .pan hc rfl hq (.inr rfl)
     . cases h
   . split at h
     . split at h
       case h_2=>cases h
       rename_i ys hys;obtain⟨hr',_⟩:=Qeh depth hys hr;split at h
       case h_2=>cases h
       rename_i v H1 hc;cases hq:Qdj H1 fr dst H v with
       |none=>rw[hq] at h;cases h
       |some x=>
        rw[hq] at h;cases h;obtain⟨hbody,hall⟩:=cs.1 f ys [] _ H1 hc;have hcall:=hall _ _ (bare E.tab E.w E.mod) cargs S.bare htab hr';refine ok.invokes hbody (hcall.mono ?_);rintro e w' ⟨E1,rfl,⟨c,rfl,hcv⟩,S1,X1,_⟩;obtain⟨E2,hw,X2,S2,hr2⟩:=S.lift S1 X1 hlt hq hcv;exact⟨E2,hw,⟨c,rfl,hr2⟩,S2,X2,by rw[wr_length];exact Zpp _⟩
     split at h
     . split at h
       case h_2=>cases h
       rename_i ys hys;obtain⟨hr',_⟩:=Z4 (E' :=bare E.tab E.w F) (fun x y v hf hx=>S.frz hf hx) _ _ _ hys hr;split at h
       case h_2=>cases h
       rename_i v H1 hc;cases hq:frzN (Qd H1) depth v with
       |none=>rw[hq] at h;cases h
       |some x=>
        rw[hq] at h;cases h;obtain⟨hbody,hall⟩:=cs.1 f ys [] _ H1 hc;have hcall:=hall _ _ (bare E.tab E.w F) cargs S.bareF htab hr';refine ok.invokes hbody (hcall.mono ?_);rintro e w' ⟨E1,rfl,⟨c,rfl,hcv⟩,S1,X1,_⟩;obtain⟨X,S'⟩:=S.behindM S.fmod X1;obtain⟨h1,h2⟩:=S1.frzN (M:=E.mod) S.modsz hq hcv;exact⟨{E with w:=E1.w},rfl,⟨c,rfl,Rel.dress (E:=bare E1.tab E1.w E.mod) (E' :={E with w:=E1.w}) rfl rfl _ _ h2 h1⟩,S',X,Zpp _⟩
     split at h
     case h_2=>cases h
     rename_i ys hys;have hr' :Qe E ys cargs:=by
      unfold Qa0 at hys;split at hys
      . obtain⟨h1,h2⟩:=Qeh depth hys hr;exact Qe.dress (E:=bare E.tab E.w E.mod) (E' :=E) rfl rfl _ _ h2 h1
      . cases hys;exact hr
     replace h:=Qj1 (Qp6 fr h)
     obtain⟨hbody,hall⟩:=cs.1 f ys H r H' h;exact ok.invokes hbody (hall B F E cargs S htab hr')
def Bu(N:Nat)(w:World)(ds:List Deferred):Prop:=
 ∃rs:List Nat,ds=rs.map (fun r=>({target:= .collected r,args:= #[]}:Deferred))/\rs.Nodup/\∀r∈rs,N<=r/\w.heap[r]?=some (Obj.deferred (some []))
theorem Bu.nil{N:Nat}{w:World}:Bu N w []:=⟨[],rfl,List.nodup_nil,fun _ h=>by cases h⟩
theorem Bu.on{N k B:Nat}{E E' :Env}{ds:List Deferred}(h:Bu N E.w ds)(X:Ext k B E E'):Bu N E'.w ds:=by obtain⟨rs,h1,h2,h3⟩:=h;exact⟨rs,h1,h2,fun r hr=>⟨(h3 r hr).1,X.dfr r (h3 r hr).2⟩⟩
structure St(B:Nat)(F:Nat->Nat->Prop)(fr N:Nat)(E:Env)(H:Heap)(t:List V)(a:Act):Prop where
 sim:Sim B F H E
 lt:fr<H.length
 rel:Qe E t a.tmps.toList
 defers:Bu N E.w a.defers
 nsz:N<=E.w.heap.size
def Yd(B:Nat)(F:Nat->Nat->Prop)(fr N:Nat)(E0:Env)(ex:Ex)(t' :List V)(H' :Heap):Exit->Act->World->Prop:=
 fun e a' w' =>∃E',E'.w=w' /\Ext fr B E0 E' /\St B F fr N E' H' t' a' /\Jz E' ex e
theorem St.ρ{E:Env}{H:Heap}{t:List V}{a:Act}(s:St B F fr N E H t a)(x:Operand):Rel E (rho t x) (a.eval x):=by
 cases x with
 |tmp i=>
  simp only[rho,Act.eval];cases hx:t[i]? with
  |none=>simp[List.getD,hx,Rel]
  |some x=>
   obtain⟨v,hv,hr⟩:=s.rel.get hx;have:a.tmps[i]?=some v:=by simpa using hv
   simpa [List.getD,hx,Zro,this] using hr
 |const v=>exact Kg E v
 |global g=>simp[rho,Rel]
 |func f=>simp only[rho,Act.eval,Rel];exact⟨[],[],rfl,.nil,.nil⟩
theorem St.put{E:Env}{H:Heap}{t:List V}{a:Act}(s:St B F fr N E H t a)(dst:Option Nat){v:V}{c:Value}(h:Rel E v c):St B F fr N E H (Qs t dst v) (a.put dst c):=by
 cases dst with
 |none=>exact s
 |some d=>
  refine⟨s.sim,s.lt,?_,s.defers,s.nsz⟩;simp only[Qs,Act.put];have:=s.rel.set d h;simpa using this
theorem St.on{E E' :Env}{H H' :Heap}{t:List V}{a:Act}(s:St B F fr N E H t a)(X:Ext H.length B E E')(S' :Sim B F H' E')(hl:H.length<=H'.length):St B F fr N E' H' t a:=
 ⟨S',Zps s.lt hl,Qe.mono X s.sim.lt _ _ s.rel,s.defers.on X,Zpq s.nsz X.size⟩
theorem Yx{mt:Nat->Bool}{g:Get}{r:Operand->V}{o:Oper}{st:Zg}(h:Zm P mt fr g r o=some st):∀c,o.op≠ .defer c:=by intro c e;simp only[Zm,e] at h;cases h
theorem Qac{o:Oper}{a:Act}{w:World}{next:Act->World->Prop}{Q:Exit->Act->World->Prop}(hd:∀c,o.op≠ .defer c)(h:o.uponIn (G ro) dp P a next Q ((execOp a.eval o).run P w)):o.wpIn (G ro) dp P a w next Q:=
 ⟨fun _ _=>trivial,by rw[Oper.semAt_eq _ _ _ hd];exact h⟩
theorem Qdh{n:Nat}:(G ro).depth.isSome=true->1<=n:=fun h=>by cases h
theorem Xg(ok:Okay P pol)(cs:Jc P C){t t' :List V}{H H' :Heap}{o:Oper}{ex:Ex}{E0 E:Env}{a:Act}(h:Q1 P pol C fn fr t H o=some (ex,t',H'))
 (X0:Ext fr B E0 E)(htab:E0.tab=Qn P)(s:St B F fr N E H t a){next:Act->World->Prop}{Q:Exit->Act->World->Prop}
 (hn:ex= .normal->∀a' E',Ext fr B E0 E' ->St B F fr N E' H' t' a' ->next a' E'.w)
 (hq:ex≠ .normal->∀e a' w',Yd B F fr N E0 ex t' H' e a' w' ->Q e a' w'):o.wpIn (G ro) dp P a E.w next Q:=by
 have htab1:E.tab=Qn P:=X0.tab.trans htab;unfold Q1 at h;split at h
 . cases h
 . rename_i v w hev;cases h;have:=Bf s.sim s.lt (ρc:=a.eval) s.ρ hev;obtain⟨E',cv,X,S',hr,hrun⟩:=this;have s' :=(s.on X S' (by rw[wr_length];exact Zpp _)).put o.dst hr;have X' :=X0.trans (X.less (Zrr s.lt) (Zpp _));refine Qac (Yx hev) ?_;rcases hrun with hrun|⟨hrun,rfl⟩
   . rw[hrun];exact hn rfl _ _ X' s'
   . rw[hrun];exact hn rfl _ _ X' s'
 . rename_i v hev;cases h;obtain⟨cv,hr,hrun⟩:=Bf s.sim s.lt (ρc:=a.eval) s.ρ hev;refine Qac (Yx hev) ?_;rw[hrun];exact hq (fun e=>by cases e) _ _ _ ⟨E,rfl,X0,s,cv,rfl,hr⟩
 . rename_i f args hev;obtain⟨cargs,hr,hrun⟩:=Bf s.sim s.lt (ρc:=a.eval) s.ρ hev;have main:∀r,callOp pol C fn fr o.dst f args H=some (r,H')->(∀e w',Answer B F H E r H' e w' ->(match e with
    | .returned v=>next (a.put o.dst v) w'
    | .panicked chain=>Q (.panic chain) a w'
    | .outgrown=>False))->o.wpIn (G ro) dp P a E.w next Q:=by
    intro r hc hall;refine Qac (Yx hev) ?_;rw[hrun];rcases Qgc ok cs hc s.sim htab1 s.lt hr with⟨v,w',h1,h2⟩|⟨j,h1,h2⟩
    . rw[h1];exact hall _ _ h2
    . rw[h1];refine⟨Qdh,(callsIn_wide (n:=dp-1)).2 ?_⟩;refine h2.mono ?_;intro e w' hA;have:=hall e w' hA;cases e with
      |returned v=>exact this
      |panicked chain=>exact this
      |outgrown=>exact this.elim
   split at h
   . rename_i v H1 hc;cases h;refine main _ hc ?_;rintro e w' ⟨E',rfl,⟨c,rfl,hcr⟩,S',X,hl⟩;exact hn rfl _ _ (X0.trans (X.less (Zrr s.lt) (Zpp _))) ((s.on X S' hl).put o.dst hcr)
   . rename_i v H1 hc;cases h;refine main _ hc ?_;rintro e w' ⟨E',rfl,⟨c,rfl,hcr⟩,S',X,hl⟩;exact hq (fun e=>by cases e) _ _ _ ⟨E',rfl,X0.trans (X.less (Zrr s.lt) (Zpp _)),s.on X S' hl,c,rfl,hcr⟩
   . cases h
 . rename_i fo so args hev;obtain⟨b,cargs,hb,hr,hrun⟩:=Bf s.sim s.lt (ρc:=a.eval) s.ρ hev;split at h
   case h_2=>cases h
   rename_i v H1 hc;cases h;obtain⟨rec,h1,h2,h3⟩:=cs.2 fo so args H _ _ hc B F E b cargs (dp-1) s.sim htab1 hb hr;refine Qac (Yx hev) ?_;rw[hrun,run_yield h1 (by simpa using h2)];refine⟨Qdh,RoundIn.mono (F:=G ro) h3 ?_⟩;rintro e w' ⟨E',rfl,⟨c,rfl,hcr⟩,S',X,hl⟩;exact hn rfl _ _ (X0.trans (X.less (Zrr s.lt) (Zpp _))) ((s.on X S' hl).put o.dst hcr)
theorem Jt{E:Env}{H:Heap}{t:List V}{a:Act}(s:St B F fr N E H t a){ops:Array Oper}{o:Oper}{b:Bool}(h:Zw ops t o=some b):
 Region.wanted o (yielded ops a.tmps)=b:=by
 unfold Zw at h;unfold Region.wanted;split at h
 . rename_i hg;cases h;simp[hg]
 . rename_i j want hg;simp only[hg];split at h
   . rename_i c hb;cases h;unfold yielded;cases hd:(ops[j]?).bind (·.dst) with
     |none=>rw[hd] at hb;simp at hb
     |some d=>
      rw[hd] at hb;simp only[Zqc] at hb⊢;obtain⟨v,hv,hr⟩:=s.rel.get hb;simp only[Rel] at hr;subst hr;have:a.tmps[d]?=some (.bool c):=by simpa using hv
      rw[this];cases c<;>cases want<;>rfl
   . rename_i hb;cases h;unfold yielded;cases hd:(ops[j]?).bind (·.dst) with
     |none=>rw[hd] at hb;simp at hb
     |some d=>
      rw[hd] at hb;simp only[Zqc] at hb⊢;obtain⟨v,hv,hr⟩:=s.rel.get hb;simp only[Rel] at hr;obtain⟨vs,rfl,hl⟩:=hr;have:a.tmps[d]?=some (.tuple ⟨vs⟩):=by simpa using hv
      rw[this];cases want<;>rfl
   . cases h
theorem Yv(ok:Okay P pol)(cs:Jc P C){ops:Array Oper}{E0:Env}:∀(l pre:List Oper) (t:List V) (H:Heap) (ex:Ex) (t' :List V) (H' :Heap) (E:Env) (a:Act),
 ops.toList=pre++l->Zf P pol C fn fr ops l t H=some (ex,t',H')->Ext fr B E0 E->E0.tab=Qn P->St B F fr N E H t a->
 wpOpsIn (G ro) dp P ops (Yd B F fr N E0 ex t' H') (List.range' pre.length l.length) a E.w
 |[],pre,t,H,ex,t',H',E,a,_,h,X0,htab,s=>by
  cases h;exact⟨E,rfl,X0,s,rfl⟩
 |o::l,pre,t,H,ex,t',H',E,a,he,h,X0,htab,s=>by
  have ho:ops[pre.length]?=some o:=by
   have:ops.toList[pre.length]?=some o:=by rw[he];simp
   simpa using this
  have he' :ops.toList=(pre++[o])++l:=by rw[he];simp
  simp only[Zq2,Zq3,wpOpsIn,ho];simp only[Zf] at h;split at h
  . cases h
  . rename_i hw;have:=Jt s hw;rw[if_neg (by rw[this];decide)];refine⟨fun _ _=>trivial,?_⟩;have ih:=Yv ok cs l (pre++[o]) _ _ _ _ _ E _ he' h X0 htab (s.put o.dst (v:=nov) (c:=undef) (by simp[Rel,Qe,undef]));simpa using ih
  . rename_i hw;have:=Jt s hw;rw[if_pos this];split at h
    . rename_i t1 H1 hop;refine Xg ok cs hop X0 htab s ?_ (fun hne=>absurd rfl hne);intro _ a' E' X' s';have ih:=Yv ok cs l (pre++[o]) _ _ _ _ _ E' a' he' h X' htab s';simpa using ih
    . rename_i x hne;refine Xg ok cs h X0 htab s ?_ (fun _ e a' w' hx=>hx);intro hex;subst hex;exact absurd h (by
       intro h'
       exact hne _ _ (by exact h'))
theorem Qaf(ok:Okay P pol)(cs:Jc P C){ops:Array Oper}{T:List FP}{E0:Env}:∀(l:List Nat) (t:List V) (H:Heap) (t' :List V) (H' :Heap) (E:Env) (a:Act),
 Bi P pol C fn fr ops T l t H=some (t',H')->Ext fr B E0 E->E0.tab=Qn P->St B F fr N E H t a->wpOpsIn (G ro) dp P ops (Yd B F fr N E0 .normal t' H') l a E.w
 |[],t,H,t',H',E,a,h,X0,htab,s=>by
  cases h;exact⟨E,rfl,X0,s,rfl⟩
 |i::l,t,H,t',H',E,a,h,X0,htab,s=>by
  simp only[Bi] at h;split at h
  case h_2=>cases h
  rename_i t1 H1 hst;unfold Jm at hst;split at hst
  . cases hst
  rename_i o ho;simp only[wpOpsIn,ho];split at hst
  . cases hst
  . rename_i hw;have:=Jt s hw;rw[if_neg (by rw[this];decide)];refine⟨fun _ _=>trivial,?_⟩;split at hst
    . cases hst;exact Qaf ok cs l _ _ _ _ E _ h X0 htab (s.put o.dst (v:=nov) (c:=undef) (by simp[Rel,Qe,undef]))
    . cases hst
  . rename_i hw;have:=Jt s hw;rw[if_pos this];split at hst
    case isFalse=>cases hst
    split at hst
    case h_2=>cases hst
    rename_i t2 H2 hop;cases hst;refine Xg ok cs hop X0 htab s ?_ (fun hne=>absurd rfl hne);intro _ a' E' X' s';exact Qaf ok cs l _ _ _ _ E' a' h X' htab s'
theorem St.drawn{E:Env}{H:Heap}{t:List V}{a:Act}(s:St B F fr N E H t a):∃E',E'.w={E.w with drawn:=E.w.drawn+1}/\Ext fr B E E' /\St B F fr N E' H t a:=by
 have X1:Ext H.length E.w.heap.size (AM.bare E.tab E.w E.mod) {AM.bare E.tab E.w E.mod with w:={E.w with drawn:=E.w.drawn+1}}:=
  ⟨Zpp _,fun _ _ _ h=>h,fun _ _ _ _ h=>h,fun _ _ _ _ h=>h,fun _ _ _ _ h=>h,fun f s n b lo hi _ _ h=>⟨n,b,lo,hi,h,.inr ⟨rfl,rfl,rfl,rfl⟩⟩,fun _ _=>rfl,⟨rfl,rfl,rfl⟩,rfl,fun _ h=>h⟩
 obtain⟨X,S⟩:=s.sim.behind X1;exact⟨_,rfl,X.less (Zrr s.lt) (Zpp _),s.on X S (Zpp _)⟩
theorem Qkd(ok:Okay P pol)(cs:Jc P C){ops:Array Oper}{id:Nat}{E0 E:Env}{t t' :List V}{H H' :Heap}{T:List FP}{a:Act}(hd:Qbp ops=true)
 (h:Q4 P pol C fn fr ops ops.toList t H=some (t',H',T))(hok:okT (Region.before ops) (loud T)=true)(X:Ext fr B E0 E)(htab:E0.tab=Qn P)(s:St B F fr N E H t a):
 (Code.region id ops true).wpIn (G ro) dp P (Yd B F fr N E0 .normal t' H') a E.w:=by
 refine wpIn_region_draw fun tp=>?_;obtain⟨E',hw,X',s'⟩:=s.drawn;obtain⟨h1,h2⟩:=Qa2 ops.toList [] [] t H t' H' T (by simp) rfl h;have h3:=Qc6 (P:=P) (pol:=pol) (C:=C) (fn:=fn) (fr:=fr) hd (by simpa using h1) hok (by simpa [Zrn] using h2) ok.mixed tp;rw[<-hw];exact Qaf ok cs _ _ _ _ _ E' a h3 (X.trans X') htab s'
end
open Go.ChangeMaps (setBlock)
section
variable {P : Program} {E : Env} {B : Nat} {F : Nat -> Nat -> Prop} {H : Heap} {fr N : Nat} {ro : Option Nat} {dp : Nat}
def Env.setIter(E:Env)(b:Nat)(mb:Option Nat)(since:Nat)(seen:Array Nat)(stepped d:Nat):Env:=
 {E with w:={E.w with heap:=E.w.heap.setIfInBounds b (.mapIter mb since seen stepped),drawn:=d}}
theorem B4(E:Env)(b:Nat)(mb:Option Nat)(since:Nat)(seen:Array Nat)(stepped d b' :Nat)(h:b' ≠b):(E.setIter b mb since seen stepped d).w.heap[b']?=E.w.heap[b']?:=by simp only[Env.setIter];rw[Zrp (by omega)]
theorem Sim.setIter(S:Sim B F H E){f0 s0 b:Nat}{m:Option (Nat×Nat)}{since stepped:Nat}{seen:List Nat}(ho:Qd H f0 s0=some (.iter m since seen stepped))(hmu:E.mu f0 s0=some b){mb:Option Nat}
 (hb:E.w.heap[b]?=some (.mapIter mb since ⟨seen⟩ stepped))(hB:B<=b)(hm:match m with|none=>mb=none|some x=>∃r,mb=some r/\E.mu x.1 x.2=some r)(seen' :List Nat)(stepped' d:Nat):
 Ext H.length B E (E.setIter b mb since ⟨seen'⟩ stepped' d)/\Sim B F (hset H f0 s0 (.iter m since seen' stepped')) (E.setIter b mb since ⟨seen'⟩ stepped' d):=by
 have hlt:b<E.w.heap.size:=(Zpt.1 hb).1;have hself:(E.setIter b mb since ⟨seen'⟩ stepped' d).w.heap[b]?=some (.mapIter mb since ⟨seen'⟩ stepped'):=by simp[Env.setIter,hlt]
 have hcell:∀i,E.w.cell? ⟨b,i,none⟩=none:=fun i=>by simp[World.cell?,hb]
 have X:Ext H.length B E (E.setIter b mb since ⟨seen'⟩ stepped' d):=by
  refine⟨by simp[Env.setIter],?_,?_,fun _ _ _ _ h=>h,fun _ _ _ _ h=>h,fun f s n b lo hi _ _ h=>⟨n,b,lo,hi,h,.inr ⟨rfl,rfl,rfl,rfl⟩⟩,?_,⟨rfl,rfl,rfl⟩,rfl,fun b' h=>by rw[B4 E b _ _ _ _ _ b' (by rintro rfl;rw[hb] at h;cases h)];exact h⟩
  . intro b' T n h;by_cases e:b' =b
    . subst e;simp[World.shape?,hb] at h
    . rw[Yz (B4 E b _ _ _ _ _ b' e)];exact h
  . intro b' i v _ h;by_cases e:b' =b
    . subst e;rw[hcell] at h;cases h
    . rw[Kl (B4 E b _ _ _ _ _ b' e)];exact h
  . intro b' hb';exact B4 E b _ _ _ _ _ b' (by omega)
 have hblk:blk E f0 s0 (.iter m since seen stepped)=some b:=hmu;refine⟨X,S.step f0 s0 _ (Yt ho) X (fun f s e=>rfl) (by simp[Env.setIter,hmu]) (fun f s e=>rfl) ?_ ?_ ?_ ?_ ?_ ?_⟩
 . intro n x h;have:=S.nreg f0 s0 n x h;rw[ho] at this;cases this
 . intro f s o b' e ho' hb';refine⟨?_,fun i h=>h⟩;have hne:b' ≠b:=fun e' =>e (S.inj f s o f0 s0 _ b' ho' ho hb' (e' ▸hblk));exact B4 E b _ _ _ _ _ b' hne
 . exact fun b i h=>S.fmod b i h
 . intro b' i h;simp only[Env.setIter,Array.size_setIfInBounds];exact S.modsz b' i h
 . refine⟨b,mb,hmu,hB,hself,?_⟩;cases m with
   |none=>exact hm
   |some x=>exact hm
 . intro f s o b' e ho' hb' h;simp only[blk,Env.setIter,hmu,Zss] at h;subst h;exact e (S.inj f s o f0 s0 _ b ho' ho hb' hblk)
theorem Sim.over(S:Sim B F H E){f0 s0:Nat}{m:Option (Nat×Nat)}{since stepped:Nat}{seen:List Nat}(ho:Qd H f0 s0=some (.iter m since seen stepped)):Sim B F (hset H f0 s0 .dead) E:=by
 refine S.step f0 s0 .dead (Yt ho) (Ext.refl _ _ _) (fun f s e=>rfl) ?_ (fun f s e=>rfl) ?_ (fun f s o b e h1 h2=>⟨rfl,fun i h=>h⟩) S.fmod S.modsz trivial ?_
 . have:=S.dom f0 s0;rw[ho] at this;exact this.symm
 . intro n x h;have:=S.nreg f0 s0 n x h;rw[ho] at this;cases this
 . intro f s o b e h1 h2 h3;cases h3
theorem Qgy{seen:List Nat}:∀{es:List (V×V)} {ces:List MapEntry},Z6 E es ces->∀{ce:MapEntry},ce∈ces->seen.contains ce.born=false->
 ∃e∈Ki seen es (ces.map (·.born)),Rel E e.1.1 ce.key/\Rel E e.1.2 ce.val/\e.2=ce.born
 |[],ces,h,ce,hm,_=>by simp only[Z6] at h;subst h;cases hm
 |(k,x)::es,ces,h,ce,hm,hs=>by
  obtain⟨c,r,rfl,h1,h2,h3⟩:=h;simp only[Zp4,Ki];rcases Zpy.1 hm with rfl|hm
  . rw[if_neg (by rw[hs];decide)];exact⟨_,Zpz,h1,h2,rfl⟩
  . obtain⟨e,he,q⟩:=Qgy h3 hm hs;split
    . exact⟨e,he,q⟩
    . exact⟨e,Zp0 _ he,q⟩
theorem Qjk{seen:List Nat}:∀{es:List (V×V)} {ces:List MapEntry},Z6 E es ces->Ki seen es (ces.map (·.born))≠[]->∃ce∈ces,seen.contains ce.born=false
 |[],ces,h,hne=>by simp only[Z6] at h;subst h;exact absurd rfl hne
 |(k,x)::es,ces,h,hne=>by
  obtain⟨c,r,rfl,h1,h2,h3⟩:=h;simp only[Zp4,Ki] at hne;split at hne
  . obtain⟨ce,q1,q2⟩:=Qjk h3 hne;exact⟨ce,Zp0 _ q1,q2⟩
  . rename_i hs;exact⟨c,Zpz,by simpa using hs⟩
theorem Zbg{g:Get}{x:V}{cs:List (V×Option (Nat×Nat×O))}(h:Y3 g x=some cs):cs≠[]:=by
 unfold Y3 at h
 repeat' split at h
 all_goals first|(cases h;done)|(cases h;simp;done)|skip
 rename_i hne;cases h;simpa using hne
theorem Qhe(S:Sim B F H E){x:V}{c:Value}{cs:List (V×Option (Nat×Nat×O))}(h:Y3 (Qd H) x=some cs)(hr:Rel E x c)(ty:TypeId):
 ∃p∈cs,∃E' cv,Ext H.length B E E' /\Sim B F (wr H p.2) E' /\Rel E' p.1 cv/\(Instr.next c false ty).run P E.w= .ok cv E'.w:=by
 have over:Rel E (.tuple [.bool false]) (.tuple #[.bool false]):=by simp only[Rel];exact⟨[.bool false],rfl,.cons (by simp[Rel]) .nil⟩
 unfold Y3 at h;split at h
 case h_2=>cases h
 rename_i f s;simp only[Rel] at hr;obtain⟨b,hb,rfl⟩:=hr;split at h
 case h_3=>cases h
 . rename_i since seen stepped hi;cases h;obtain⟨b',mb,g1,g2,g3,g4⟩:=S.obj f s _ hi;rw[hb] at g1;cases g1;simp only at g4;subst g4;refine⟨_,Zp9.2 rfl,E,_,Ext.refl _ _ _,S.over hi,over,?_⟩;simp[Instr.next,getObj,Sem.run,g3]
 . rename_i m since seen stepped hi;split at h
   case h_2=>cases h
   rename_i es bs clk hm;split at h
   case isFalse=>cases h
   rename_i hchk;rw[Zqf,decide_eq_true_eq] at hchk;obtain⟨hall,hst⟩:=hchk;obtain⟨b',mb,g1,g2,g3,g4⟩:=S.obj f s _ hi;rw[hb] at g1;cases g1;obtain⟨r,rfl,hr⟩:=g4;obtain⟨r',ces,k1,k2,k3,k4,k5⟩:=S.obj m.1 m.2 _ hm;rw[hr] at k1;cases k1;subst k5;have hold:∀x∈ces.toList,x.born<since:=by intro x hx;have:=Zqt.1 hall x.born (Zp3.2 ⟨x,hx,rfl⟩);exact of_decide_eq_true this
   rcases run_next_at (P:=P) E.w ty b r since stepped ⟨seen⟩ ces clk g3 k3 hold hst with⟨h0,hrun⟩|⟨e,he,w1,hw1,hrun⟩
   . have hnil:Ki seen es (ces.toList.map (·.born))=[]:=by
      apply Classical.byContradiction;intro hne;obtain⟨ce,q1,q2⟩:=Qjk k4 hne;have:=Array.eq_empty_of_size_eq_zero h0;have hmem:ce∈(leftOf ces ⟨seen⟩):=by
       unfold leftOf;rw[Array.mem_filter];refine⟨Array.mem_toList_iff.1 q1,?_⟩;have:(⟨seen⟩:Array Nat).contains ce.born=false:=by simpa using q2
       rw[this];rfl
      rw[this] at hmem;simp at hmem
     rw[hnil] at h;cases h;exact⟨_,Zp9.2 rfl,E,_,Ext.refl _ _ _,S.over hi,over,hrun⟩
   . obtain⟨q1,q2⟩:=mem_left he;obtain⟨ae,p1,p2,p3,p4⟩:=Qgy k4 q1 (by simpa using q2);split at h
     . rename_i hnil;rw[hnil] at p1;cases p1
     . cases h;have hd:∃d,setBlock w1 b (.mapIter (some r) since ((⟨seen⟩:Array Nat).push e.born) clk)=(E.setIter b (some r) since ⟨seen++[e.born]⟩ clk d).w:=by
        have hp:(⟨seen⟩:Array Nat).push e.born=⟨seen++[e.born]⟩:=by simp
        rw[hp];rcases hw1 with rfl|rfl
        . exact⟨E.w.drawn,rfl⟩
        . exact⟨E.w.drawn+1,rfl⟩
       obtain⟨d,hd⟩:=hd;obtain⟨X,S'⟩:=S.setIter hi hb g3 g2 (m:=some m) ⟨r,rfl,hr⟩ (seen++[e.born]) clk d;refine⟨_,Zp3.2 ⟨ae,p1,rfl⟩,_,_,X,?_,?_,by rw[hrun,hd]⟩
       . simp only[wr,p4];exact S'
       . simp only[Rel];exact⟨[.bool true,e.key,e.val],rfl,.cons (by simp[Rel]) (.cons (Rel.mono X S.lt _ _ p2) (.cons (Rel.mono X S.lt _ _ p3) .nil))⟩
theorem Qwt{t:List V}{a:Act}(s:St B F fr N E H t a){o:Oper}{x:Operand}(hop:o.op= .next x false){cs:List (V×Option (Nat×Nat×O))}(hc:Y3 (Qd H) (rho t x)=some cs):
 ∃p∈cs,∃E' cv,Ext fr B E E' /\St B F fr N E' (wr H p.2) (Qs t o.dst p.1) (a.put o.dst cv)/\∀(next:Act->World->Prop) (Q:Exit->Act->World->Prop),next (a.put o.dst cv) E'.w->o.wpIn (G ro) dp P a E.w next Q:=by
 obtain⟨p,hp,E',cv,X,S',hr,hrun⟩:=Qhe (P:=P) s.sim hc (s.ρ x) o.type;refine⟨p,hp,E',cv,X.less (Zrr s.lt) (Zpp _),(s.on X S' (by rw[wr_length];exact Zpp _)).put o.dst hr,?_⟩;intro next Q hn
 refine Qac (fun c e=>by rw[hop] at e;cases e) ?_;have:(execOp a.eval o).run P E.w= .ok (.value cv) E'.w:=by unfold execOp;simp only[hop,Zsu,hrun,Zst,Zsv]
 rw[this];exact hn
theorem Sim.retell(S:Sim B F H E){f s:Nat}{xs xs' :List V}(ho:Qd H f s=some (.cells xs))(hr:∀vs,Qe E xs vs->Qe E xs' vs)(hs:xs'.all V.scalar=true):Sim B F (hset H f s (.cells xs')) E:=by
 obtain⟨b,c,T,vs,rest,h1,h2,h3,h4,h5,h6,h7⟩:=S.obj f s _ ho;refine S.step f s _ (Yt ho) (Ext.refl _ _ _) (fun f s e=>rfl) (by rw[h1];rfl) (fun f s e=>rfl) ?_ (fun f s o b e g1 g2=>⟨rfl,fun i h=>h⟩) S.fmod S.modsz ⟨b,c,T,vs,rest,h1,h2,h3,h4,hr vs h5,h6,hs⟩ ?_
 . intro n x h;have:=S.nreg f s n x h;rw[ho] at this;cases this
 . intro f' s' o b' e g1 g2 g3;have:blk E f s (.cells xs)=some b' :=g3;exact e (S.inj f' s' o f s _ b' g1 ho g2 this)
theorem Qe.set_of{xs:List V}:∀{vs:List Value} {o:Nat} {x y:V},Qe E xs vs->xs[o]?=some x->(∀v,Rel E x v->Rel E y v)->Qe E (xs.set o y) vs:=by
 induction xs with
 |nil=>intro vs o x y h hx;cases o<;>cases hx
 |cons a xs ih=>
  intro vs o x y h hx hy;obtain⟨v,r,rfl,h1,h2⟩:=Qe.cons_iff.1 h;cases o with
  |zero=>
   simp only[List.getElem?_cons_zero,Zss] at hx;subst hx;exact .cons (hy v h1) h2
  |succ o=>
   simp only[List.getElem?_cons_succ] at hx;exact .cons h1 (ih h2 hx hy)
theorem Zcu{xs:List V}(h:xs.all V.scalar=true){y:V}(hy:y.scalar=true)(o:Nat):(xs.set o y).all V.scalar=true:=by
 rw[Zqt] at h⊢;intro x hx;rcases List.mem_or_eq_of_mem_set hx with h1|rfl
 . exact h x h1
 . exact hy
theorem Qsy{t:List V}{a:Act}(s:St B F fr N E H t a){k:Nat}{H' :Heap}(h:Qv4 t H k=some H'):
 ∃E',E'.w=E.w/\Ext H.length B E E' /\St B F fr N E' H' t a:=by
 have same:∃E',E'.w=E.w/\Ext H.length B E E' /\St B F fr N E' H t a:=⟨E,rfl,Ext.refl _ _ _,s⟩;unfold Qv4 at h;split at h
 . rename_i f sl o _;split at h
   case h_2=>cases h
   rename_i xs hx;split at h
   . rename_i f1 s1 o1 len cap esz hxo;split at h
     case h_2=>cases h
     rename_i ys hy;split at h
     case isFalse=>cases h
     rename_i hc;obtain⟨hle,hp,hne⟩:=hc;cases h;obtain⟨b,c,T,vs,rest,g1,g2,g3,g4,g5,g6,g7,g8⟩:=s.sim.lies hy;obtain⟨X,S'⟩:=s.sim.die hy g1 g3 g2 E.w rfl (fun _ _=>rfl) g3 ⟨rfl,rfl,rfl⟩;have hx' :Qd (hset H f1 s1 .dead) f sl=some (.cells xs):=by rw[Xq _ _ _ _ (Yt hy),if_neg hne];exact hx
     have hxs:xs.all V.scalar=true:=by obtain⟨_,_,_,_,_,_,_,_,_,_,_,h7⟩:=s.sim.obj f sl _ hx;exact h7
     refine⟨{E with mod:=fun b' i=>E.mod b' i/\b' ≠b},rfl,X,?_⟩;have S2:=S'.retell hx' (xs' :=xs.set o (.iS ((ys.drop o1).take (len*esz)) len (cap==some len))) (fun vs' hr=>?_) (Zcu hxs rfl o)
     . exact s.on X S2 (by simp[Zy])
     . refine Qe.set_of hr hxo fun v hv=>?_;simp only[Rel] at hv⊢;obtain⟨b',c',T',n',q1,rfl,q2,q3,q4,_⟩:=hv;have q1' :E.mu f1 s1=some b' :=q1;rw[g1] at q1';cases q1';refine⟨_,c',(vs.drop o1).take (len*esz),rfl,q2,?_,.inr ⟨rfl,?_⟩,Qe.mono X s.sim.lt _ _ ((g5.drop o1).take _),Qj4 (Qjs hp _) _⟩
       . intro hcap;have:cap=some len:=by simpa using hcap
         exact q3 len this
       . exact fun i v hv=>⟨g8.from o1 _ i v hv,fun hm=>hm.2 rfl⟩
   . cases h;exact same
   . cases h
 . cases h;exact same
 . cases h;exact same
 . cases h
theorem Qiz{t:List V}{a:Act}:∀{ks:List Nat} {E:Env} {H:Heap},St B F fr N E H t a->∀{H' :Heap},Qby ks t H=some H' ->∃E',E'.w=E.w/\Ext fr B E E' /\St B F fr N E' H' t a
 |[],E,H,s,H',h=>by cases h;exact⟨E,rfl,Ext.refl _ _ _,s⟩
 |k::ks,E,H,s,H',h=>by
  simp only[Qby] at h;split at h
  . rename_i H1 h1;obtain⟨E1,w1,X1,s1⟩:=Qsy s h1;obtain⟨E2,w2,X2,s2⟩:=Qiz s1 h;exact⟨E2,w2.trans w1,(X1.less (Zrr s.lt) (Zpp _)).trans X2,s2⟩
  . cases h
end
end Go.AM
namespace Go.AM
section
variable {P : Program} {B : Nat} {F : Nat -> Nat -> Prop} {H : Heap} {E : Env} {fr N : Nat} {ro : Option Nat} {dp : Nat}
def Env.newDfr(E:Env):Env:={w:=E.push (Obj.deferred (some [])) E.w.drawn,mu:=E.mu,reg:=E.reg,mod:=E.mod,tab:=E.tab}
theorem Sim.newDfr(S:Sim B F H E):Ext H.length B E E.newDfr/\Sim B F H E.newDfr:=by
 have X:Ext H.length B E E.newDfr:=by
  refine Qa9 S.bsz _ _ _ _ _ ?_ ?_ ?_
  . exact fun f s b h=>h
  . exact fun f s n b lo hi _ h=>⟨n,b,lo,hi,h,.inr ⟨rfl,rfl,rfl,rfl⟩⟩
  . exact fun b i hb hm h=>hm h
 refine⟨X,⟨S.dom,Zpq S.bsz X.size,S.fb,S.fmod,?_,?_,S.nreg,?_⟩⟩
 . intro b i h;exact Zps (S.modsz b i h) X.size
 . intro f s o ho;exact(S.obj f s o ho).mono X S.lt rfl rfl (fun b hb=>⟨Xa E _ _ b (S.blk_lt ho hb),fun i h=>h⟩)
 . intro f s o f' s' o' b h1 h2 h3 h4;refine S.inj f s o f' s' o' b h1 h2 ?_ ?_
   . cases o<;>exact h3
   . cases o' <;>exact h4
def Env.newLoop(E:Env)(f0 s0:Nat)(r:Loop):Env:=
 {w:=E.push (Obj.loop r) E.w.drawn,mu:=upd E.mu f0 s0 (some E.w.heap.size),reg:=E.reg,mod:=E.mod,tab:=E.tab}
theorem Sim.newLoop(S:Sim B F H E){f0 s0:Nat}(hf:f0<H.length)(hn:Qd H f0 s0=none)(r:Loop)(fn rid:Nat)(t:List V)(h1:r.state= .ready)(h2:r.pending=none)
 (h3:E.tab fn rid=some (r.params,r.assign,r.body))(h4:Qe E t r.tmps.toList):
 Ext H.length B E (E.newLoop f0 s0 r)/\Sim B F (hset H f0 s0 (.loop 0 none fn rid t)) (E.newLoop f0 s0 r):=by
 have hmn:=S.mu_none hn;have X:Ext H.length B E (E.newLoop f0 s0 r):=by
  refine Qa9 S.bsz _ _ _ _ _ ?_ ?_ ?_
  . intro f s b h;by_cases e:f=f0/\s=s0
    . rw[e.1,e.2,hmn] at h;cases h
    . rw[Q7 _ _ e];exact h
  . exact fun f s n b lo hi _ h=>⟨n,b,lo,hi,h,.inr ⟨rfl,rfl,rfl,rfl⟩⟩
  . exact fun b i hb hm h=>hm h
 refine⟨X,S.step f0 s0 _ hf X (fun f s e=>Q7 _ _ e) (by simp[Env.newLoop,Ql]) (fun f s e=>rfl) ?_ ?_ ?_ ?_ ?_ ?_⟩
 . intro n x h;have:=S.reg_none hn;simp only[Env.newLoop] at h;rw[this] at h;cases h
 . intro f s o b e ho hb;exact⟨Xa E _ _ b (S.blk_lt ho hb),fun i h=>h⟩
 . exact fun b i h=>S.fmod b i h
 . intro b i h;simp only[Env.newLoop,Env.push,Zpu] at h⊢;exact Zpv (S.modsz b i h)
 . exact⟨E.w.heap.size,r,Ql _ _ _ _,S.bsz,Yq E _ _,h1,h2,h3,Qe.mono X S.lt _ _ h4⟩
 . intro f s o b e ho hb h;simp only[blk,Env.newLoop,Ql,Zss] at h;have:=S.blk_lt ho hb;omega
def Env.put(E:Env)(b:Nat)(o:Obj):Env:={E with w:=E.w.putObj b o}
theorem Jd(E:Env)(b:Nat)(o:Obj)(b' :Nat)(h:b' ≠b):(E.put b o).w.heap[b']?=E.w.heap[b']?:=World.putObj_heap_other h
theorem Qnd{k:Nat}{b:Nat}{r:Loop}(hb:E.w.heap[b]?=some (.loop r))(hB:B<=b)(r' :Loop):Ext k B E (E.put b (.loop r')):=by
 have hlt:b<E.w.heap.size:=(Zpt.1 hb).1;refine⟨by simp[Env.put],?_,?_,fun _ _ _ _ h=>h,fun _ _ _ _ h=>h,fun f s n b lo hi _ _ h=>⟨n,b,lo,hi,h,.inr ⟨rfl,rfl,rfl,rfl⟩⟩,?_,⟨rfl,rfl,rfl⟩,rfl,
  fun b' h=>by rw[Jd E b _ b' (by rintro rfl;rw[hb] at h;cases h)];exact h⟩
 . intro b' T n h;by_cases e:b' =b
   . subst e;simp[World.shape?,hb] at h
   . rw[Yz (Jd E b _ b' e)];exact h
 . intro b' i v _ h;by_cases e:b' =b
   . subst e;simp[World.cell?,hb] at h
   . rw[Kl (Jd E b _ b' e)];exact h
 . intro b' hb';exact Jd E b _ b' (by omega)
theorem Sim.setLoop(S:Sim B F H E){f0 s0 st fn rid:Nat}{pend:Option (Option Nat)}{t:List V}(ho:Qd H f0 s0=some (.loop st pend fn rid t)){b:Nat}(hmu:E.mu f0 s0=some b){r:Loop}(hb:E.w.heap[b]?=some (.loop r))
 (r' :Loop)(st' :Nat)(pend' :Option (Option Nat))(h1:r'.state=stL st')(h2:r'.pending=Qt9 pend')(h3:r'.params=r.params/\r'.assign=r.assign/\r'.body=r.body/\r'.tmps=r.tmps):
 Ext H.length B E (E.put b (.loop r'))/\Sim B F (hset H f0 s0 (.loop st' pend' fn rid t)) (E.put b (.loop r')):=by
 obtain⟨b0,r0,g1,g2,g3,g4,g5,g7,g8⟩:=S.obj f0 s0 _ ho;rw[hmu] at g1;cases g1;rw[hb] at g3;cases g3;have hlt:b<E.w.heap.size:=(Zpt.1 hb).1;have X:Ext H.length B E (E.put b (.loop r')):=Qnd hb g2 r';have hblk:blk E f0 s0 (.loop st pend fn rid t)=some b:=hmu;refine⟨X,S.step f0 s0 _ (Yt ho) X (fun f s e=>rfl) (by simp[Env.put,hmu]) (fun f s e=>rfl) ?_ ?_ ?_ ?_ ?_ ?_⟩
 . intro n x h;have:=S.nreg f0 s0 n x h;rw[ho] at this;cases this
 . intro f s o b' e ho' hb';refine⟨?_,fun i h=>h⟩;have hne:b' ≠b:=fun e' =>e (S.inj f s o f0 s0 _ b' ho' ho hb' (e' ▸hblk));exact Jd E b _ b' hne
 . exact fun b i h=>S.fmod b i h
 . intro b' i h;simp only[Env.put,World.putObj_size];exact S.modsz b' i h
 . refine⟨b,r',hmu,g2,World.putObj_heap_same hlt,h1,h2,?_,?_⟩
   . rw[h3.1,h3.2.1,h3.2.2.1];exact g7
   . rw[h3.2.2.2];exact Qe.mono X S.lt _ _ g8
 . intro f s o b' e ho' hb' h;have h' :E.mu f0 s0=some b' :=h;rw[hmu] at h';cases h';exact e (S.inj f s o f0 s0 _ b ho' ho hb' hblk)
theorem Sim.junkLoop(S:Sim B F H E){b:Nat}{r:Loop}(hb:E.w.heap[b]?=some (.loop r))(hB:B<=b)(hno:∀f s o,Qd H f s=some o->blk E f s o≠some b)(r' :Loop){k:Nat}:
 Ext k B E (E.put b (.loop r'))/\Sim B F H (E.put b (.loop r')):=by
 have X:∀k,Ext k B E (E.put b (.loop r')):=fun k=>Qnd hb hB r';refine⟨X k,⟨S.dom,?_,S.fb,S.fmod,?_,?_,S.nreg,?_⟩⟩
 . simp only[Env.put,World.putObj_size];exact S.bsz
 . intro b' i h;simp only[Env.put,World.putObj_size];exact S.modsz b' i h
 . intro f s o ho;exact(S.obj f s o ho).mono (X H.length) S.lt rfl rfl (fun b' hb' =>⟨Jd E b _ b' (fun e=>hno f s o ho (e▸hb')),fun i h=>h⟩)
 . intro f s o f' s' o' b h1 h2 h3 h4;refine S.inj f s o f' s' o' b h1 h2 ?_ ?_
   . cases o<;>exact h3
   . cases o' <;>exact h4
theorem Qct{k b:Nat}(hb:E.w.heap[b]?=some (Obj.deferred (some []))):Lite k E (E.put b (Obj.deferred none)):=by
 refine⟨?_,?_,fun _ _ _ _ h=>h,fun _ _ _ _ h=>h,fun f s n b lo hi _ _ h=>⟨n,b,lo,hi,h,.inr ⟨rfl,rfl,rfl,rfl⟩⟩⟩
 . intro b' T n h;by_cases e:b' =b
   . subst e;simp[World.shape?,hb] at h
   . rw[Yz (Jd E b _ b' e)];exact h
 . intro b' i v _ h;by_cases e:b' =b
   . subst e;simp[World.cell?,hb] at h
   . rw[Kl (Jd E b _ b' e)];exact h
theorem Z6.lite{k:Nat}{E E' :Env}(h:Lite k E E')(hk:∀f s,(E.mu f s).isSome->f<k):∀(es:List (V×V)) (ces:List MapEntry),Z6 E es ces->Z6 E' es ces
 |[],_,r=>r
 |(_,_)::es,_,⟨e,r',he,h1,h2,h3⟩=>⟨e,r',he,Rel.lite h hk _ _ h1,Rel.lite h hk _ _ h2,Z6.lite h hk es r' h3⟩
theorem Sim.shut(S:Sim B F H E){b:Nat}(hb:E.w.heap[b]?=some (Obj.deferred (some []))):Sim B F H (E.put b (Obj.deferred none)):=by
 have L:=Qct (k:=H.length) hb;have hk:=S.lt;refine⟨S.dom,?_,S.fb,S.fmod,?_,?_,S.nreg,?_⟩
 . simp only[Env.put,World.putObj_size];exact S.bsz
 . intro b' i h;simp only[Env.put,World.putObj_size];exact S.modsz b' i h
 . intro f s o ho;have:=S.obj f s o ho;cases o with
   |cells xs=>
    obtain⟨b',c,T,vs,rest,h1,h2,h3,h4,h5,h6,h7⟩:=this;exact⟨b',c,T,vs,rest,h1,h2,(Jd E b _ b' (by rintro rfl;rw[hb] at h3;cases h3)).trans h3,h4,Qe.lite L hk _ _ h5,h6,h7⟩
   |map es bs clk=>
    obtain⟨b',ces,h1,h2,h3,h4,h5⟩:=this;exact⟨b',ces,h1,h2,(Jd E b _ b' (by rintro rfl;rw[hb] at h3;cases h3)).trans h3,Z6.lite L hk _ _ h4,h5⟩
   |iter m since seen stepped=>
    obtain⟨b',mb,h1,h2,h3,h4⟩:=this;refine⟨b',mb,h1,h2,(Jd E b _ b' (by rintro rfl;rw[hb] at h3;cases h3)).trans h3,?_⟩;cases m with
    |none=>exact h4
    |some x=>exact h4
   |grow n=>
    obtain⟨b',lo,hi,c,T,z,h1,h2,h3,h4⟩:=this;exact⟨b',lo,hi,c,T,z,h1,h2,(Jd E b _ b' (by rintro rfl;rw[hb] at h3;cases h3)).trans h3,h4⟩
   |loop st pend fn rid t=>
    obtain⟨b',r,h1,h2,h3,h4,h5,h7,h8⟩:=this;exact⟨b',r,h1,h2,(Jd E b _ b' (by rintro rfl;rw[hb] at h3;cases h3)).trans h3,h4,h5,h7,Qe.lite L hk _ _ h8⟩
   |siter l pos=>
    obtain⟨b',h1,h2,h3⟩:=this;exact⟨b',h1,h2,(Jd E b _ b' (by rintro rfl;rw[hb] at h3;cases h3)).trans h3⟩
   |dead=>trivial
 . intro f s o f' s' o' b h1 h2 h3 h4;refine S.inj f s o f' s' o' b h1 h2 ?_ ?_
   . cases o<;>exact h3
   . cases o' <;>exact h4
theorem Ext.shut{k b:Nat}{E0:Env}(X:Ext k B E0 E)(hb:E.w.heap[b]?=some (Obj.deferred (some [])))(hn:E0.w.heap.size<=b)(hB:B<=b):Ext k B E0 (E.put b (Obj.deferred none)):=by
 have L:=Qct (k:=k) hb;refine⟨by simp only[Env.put,World.putObj_size];exact X.size,fun b' T n h=>L.shape _ _ _ (X.shape _ _ _ h),fun b' i v hm h=>L.cell _ _ _ (X.mod _ _ _ h hm) (X.cell _ _ _ hm h),X.mod,X.mu,X.reg,?_,X.rest,X.tab,?_⟩
 . intro b' hb';exact(Jd E b _ b' (by omega)).trans (X.old b' hb')
 . intro b' h;have:=(Zpt.1 h).1;rw[Jd E b _ b' (by omega)];exact X.dfr b' h
theorem Qa7{fn:Func}{tmps:Array Value}{R:Ending->World->Prop}{E0:Env}{t:List V}{k n:Nat}{u:FrameMode}(hu:u≠ .run)(hB:B<=N)(h0:E0.w.heap.size<=N)
 (fin:∀E',Ext k B E0 E' ->Sim B F H E' ->Qe E' t tmps.toList->(∀x v,Rel E x v->Rel E' x v)->LeavesIn Fence.wide n P fn tmps R [] u E'.w):
 ∀(rs:List Nat) (E1:Env),Ext k B E0 E1->Sim B F H E1->Qe E1 t tmps.toList->(∀x v,Rel E x v->Rel E1 x v)->rs.Nodup->(∀r∈rs,N<=r/\E1.w.heap[r]?=some (Obj.deferred (some [])))->
  LeavesInM Fence.wide n P fn tmps R (rs.map fun r=>({target:= .collected r,args:= #[]}:Deferred)) u E1.w
 |[],E1,X,S,hr,hx,_,_=>fin E1 X S hr hx
 |r::rs,E1,X,S,hr,hx,hnd,hm=>by
  obtain⟨q1,q2⟩:=hm r (by simp);rw[Zr3] at hnd;simp only[Zp4,LeavesInM];refine⟨hu,.inl ⟨r,(E1.put r (Obj.deferred none)).w,rfl,run_takeDeferred q2,?_⟩⟩;refine Qa7 hu hB h0 fin rs (E1.put r (Obj.deferred none)) (X.shut q2 (by omega) (by omega)) (S.shut q2) (Qe.lite (Qct q2) S.lt _ _ hr) (fun x v h=>Rel.lite (Qct q2) S.lt _ _ (hx x v h)) hnd.2 ?_;intro r' hr';refine⟨(hm r' (Zp0 _ hr')).1,?_⟩;rw[Jd E1 r _ r' (fun e=>hnd.1 (e▸hr'))];exact(hm r' (Zp0 _ hr')).2
end
end Go.AM
end
