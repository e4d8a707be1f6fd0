/- This file holds in one the texts An50; each says at its head what it proves. -/
import Derived.Test.YtidniacddkalaaaGreatDoorT10
set_option linter.unusedSimpArgs false
set_option linter.unusedVariables false
section
namespace Go.AM
section
variable {P : Program} {B : Nat} {F : Nat -> Nat -> Prop} {H : Heap} {E : Env} {fr N : Nat} {ro : Option Nat} {dp : Nat}
def Env.newDfr(E:Env):Env:={w:=E.push (Obj.deferred (some [])) E.w.drawn,mu:=E.mu,reg:=E.reg,mod:=E.mod,tab:=E.tab}
theorem Sim.newDfr(S:Sim B F H E):Ext H.length B E E.newDfr/\Sim B F H E.newDfr:=by
 have X:Ext H.length B E E.newDfr:=by
  refine Qax S.bsz _ _ _ _ _ ?_ ?_ ?_
  . exact fun f s b h=>h
  . exact fun f s n b lo hi _ h=>⟨n,b,lo,hi,h,.inr ⟨rfl,rfl,rfl,rfl⟩⟩
  . exact fun b i hb hm h=>hm h
 refine⟨X,⟨S.dom,Zrg S.bsz X.size,S.fb,S.fmod,?_,?_,S.nreg,?_⟩⟩
 . intro b i h;exact Zri (S.modsz b i h) X.size
 . intro f s o ho;exact(S.obj f s o ho).mono X S.lt rfl rfl (fun b hb=>⟨Xf E _ _ b (S.blk_lt ho hb),fun i h=>h⟩)
 . intro f s o f' s' o' b h1 h2 h3 h4;refine S.inj f s o f' s' o' b h1 h2 ?_ ?_
   . cases o<;>exact h3
   . cases o' <;>exact h4
def Env.newLoop(E:Env)(f0 s0:Nat)(r:Loop):Env:=
 {w:=E.push (Obj.loop r) E.w.drawn,mu:=upd E.mu f0 s0 (some E.w.heap.size),reg:=E.reg,mod:=E.mod,tab:=E.tab}
theorem Sim.newLoop(S:Sim B F H E){f0 s0:Nat}(hf:f0<H.length)(hn:Qd H f0 s0=none)(r:Loop)(fn rid:Nat)(t:List V)(h1:r.state= .ready)(h2:r.pending=none)
 (h3:E.tab fn rid=some (r.params,r.assign,r.body))(h4:Qe E t r.tmps.toList):
 Ext H.length B E (E.newLoop f0 s0 r)/\Sim B F (hset H f0 s0 (.loop 0 none fn rid t)) (E.newLoop f0 s0 r):=by
 have hmn:=S.mu_none hn;have X:Ext H.length B E (E.newLoop f0 s0 r):=by
  refine Qax S.bsz _ _ _ _ _ ?_ ?_ ?_
  . intro f s b h;by_cases e:f=f0/\s=s0
    . rw[e.1,e.2,hmn] at h;cases h
    . rw[Q6 _ _ e];exact h
  . exact fun f s n b lo hi _ h=>⟨n,b,lo,hi,h,.inr ⟨rfl,rfl,rfl,rfl⟩⟩
  . exact fun b i hb hm h=>hm h
 refine⟨X,S.step f0 s0 _ hf X (fun f s e=>Q6 _ _ e) (by simp[Env.newLoop,Qj]) (fun f s e=>rfl) ?_ ?_ ?_ ?_ ?_ ?_⟩
 . intro n x h;have:=S.reg_none hn;simp only[Env.newLoop] at h;rw[this] at h;cases h
 . intro f s o b e ho hb;exact⟨Xf E _ _ b (S.blk_lt ho hb),fun i h=>h⟩
 . exact fun b i h=>S.fmod b i h
 . intro b i h;simp only[Env.newLoop,Env.push,Zrk] at h⊢;exact Zrl (S.modsz b i h)
 . exact⟨E.w.heap.size,r,Qj _ _ _ _,S.bsz,J2 E _ _,h1,h2,h3,Qe.mono X S.lt _ _ h4⟩
 . intro f s o b e ho hb h;simp only[blk,Env.newLoop,Qj,Zui] at h;have:=S.blk_lt ho hb;omega
def Env.put(E:Env)(b:Nat)(o:Obj):Env:={E with w:=E.w.putObj b o}
theorem Z9(E:Env)(b:Nat)(o:Obj)(b' :Nat)(h:b' ≠b):(E.put b o).w.heap[b']?=E.w.heap[b']?:=World.putObj_heap_other h
theorem Qnp{k:Nat}{b:Nat}{r:Loop}(hb:E.w.heap[b]?=some (.loop r))(hB:B<=b)(r' :Loop):Ext k B E (E.put b (.loop r')):=by
 have hlt:b<E.w.heap.size:=(Zrj.1 hb).1;refine⟨by simp[Env.put],?_,?_,fun _ _ _ _ h=>h,fun _ _ _ _ h=>h,fun f s n b lo hi _ _ h=>⟨n,b,lo,hi,h,.inr ⟨rfl,rfl,rfl,rfl⟩⟩,?_,⟨rfl,rfl,rfl⟩,rfl,
  fun b' h=>by rw[Z9 E b _ b' (by rintro rfl;rw[hb] at h;cases h)];exact h⟩
 . intro b' T n h;by_cases e:b' =b
   . subst e;simp[World.shape?,hb] at h
   . rw[Y0 (Z9 E b _ b' e)];exact h
 . intro b' i v _ h;by_cases e:b' =b
   . subst e;simp[World.cell?,hb] at h
   . rw[Kk (Z9 E b _ b' e)];exact h
 . intro b' hb';exact Z9 E b _ b' (by omega)
theorem Sim.setLoop(S:Sim B F H E){f0 s0 st fn rid:Nat}{pend:Option (Option Nat)}{t:List V}(ho:Qd H f0 s0=some (.loop st pend fn rid t)){b:Nat}(hmu:E.mu f0 s0=some b){r:Loop}(hb:E.w.heap[b]?=some (.loop r))
 (r' :Loop)(st' :Nat)(pend' :Option (Option Nat))(h1:r'.state=stL st')(h2:r'.pending=Qs0 pend')(h3:r'.params=r.params/\r'.assign=r.assign/\r'.body=r.body/\r'.tmps=r.tmps):
 Ext H.length B E (E.put b (.loop r'))/\Sim B F (hset H f0 s0 (.loop st' pend' fn rid t)) (E.put b (.loop r')):=by
 obtain⟨b0,r0,g1,g2,g3,g4,g5,g7,g8⟩:=S.obj f0 s0 _ ho;rw[hmu] at g1;cases g1;rw[hb] at g3;cases g3;have hlt:b<E.w.heap.size:=(Zrj.1 hb).1;have X:Ext H.length B E (E.put b (.loop r')):=Qnp hb g2 r';have hblk:blk E f0 s0 (.loop st pend fn rid t)=some b:=hmu;refine⟨X,S.step f0 s0 _ (Yr ho) X (fun f s e=>rfl) (by simp[Env.put,hmu]) (fun f s e=>rfl) ?_ ?_ ?_ ?_ ?_ ?_⟩
 . intro n x h;have:=S.nreg f0 s0 n x h;rw[ho] at this;cases this
 . intro f s o b' e ho' hb';refine⟨?_,fun i h=>h⟩;have hne:b' ≠b:=fun e' =>e (S.inj f s o f0 s0 _ b' ho' ho hb' (e' ▸hblk));exact Z9 E b _ b' hne
 . exact fun b i h=>S.fmod b i h
 . intro b' i h;simp only[Env.put,World.putObj_size];exact S.modsz b' i h
 . refine⟨b,r',hmu,g2,World.putObj_heap_same hlt,h1,h2,?_,?_⟩
   . rw[h3.1,h3.2.1,h3.2.2.1];exact g7
   . rw[h3.2.2.2];exact Qe.mono X S.lt _ _ g8
 . intro f s o b' e ho' hb' h;have h' :E.mu f0 s0=some b' :=h;rw[hmu] at h';cases h';exact e (S.inj f s o f0 s0 _ b ho' ho hb' hblk)
theorem Sim.junkLoop(S:Sim B F H E){b:Nat}{r:Loop}(hb:E.w.heap[b]?=some (.loop r))(hB:B<=b)(hno:∀f s o,Qd H f s=some o->blk E f s o≠some b)(r' :Loop){k:Nat}:
 Ext k B E (E.put b (.loop r'))/\Sim B F H (E.put b (.loop r')):=by
 have X:∀k,Ext k B E (E.put b (.loop r')):=fun k=>Qnp hb hB r';refine⟨X k,⟨S.dom,?_,S.fb,S.fmod,?_,?_,S.nreg,?_⟩⟩
 . simp only[Env.put,World.putObj_size];exact S.bsz
 . intro b' i h;simp only[Env.put,World.putObj_size];exact S.modsz b' i h
 . intro f s o ho;exact(S.obj f s o ho).mono (X H.length) S.lt rfl rfl (fun b' hb' =>⟨Z9 E b _ b' (fun e=>hno f s o ho (e▸hb')),fun i h=>h⟩)
 . intro f s o f' s' o' b h1 h2 h3 h4;refine S.inj f s o f' s' o' b h1 h2 ?_ ?_
   . cases o<;>exact h3
   . cases o' <;>exact h4
theorem Qc0{k b:Nat}(hb:E.w.heap[b]?=some (Obj.deferred (some []))):Lite k E (E.put b (Obj.deferred none)):=by
 refine⟨?_,?_,fun _ _ _ _ h=>h,fun _ _ _ _ h=>h,fun f s n b lo hi _ _ h=>⟨n,b,lo,hi,h,.inr ⟨rfl,rfl,rfl,rfl⟩⟩⟩
 . intro b' T n h;by_cases e:b' =b
   . subst e;simp[World.shape?,hb] at h
   . rw[Y0 (Z9 E b _ b' e)];exact h
 . intro b' i v _ h;by_cases e:b' =b
   . subst e;simp[World.cell?,hb] at h
   . rw[Kk (Z9 E b _ b' e)];exact h
theorem Z4.lite{k:Nat}{E E' :Env}(h:Lite k E E')(hk:∀f s,(E.mu f s).isSome->f<k):∀(es:List (V×V)) (ces:List MapEntry),Z4 E es ces->Z4 E' es ces
 |[],_,r=>r
 |(_,_)::es,_,⟨e,r',he,h1,h2,h3⟩=>⟨e,r',he,Rel.lite h hk _ _ h1,Rel.lite h hk _ _ h2,Z4.lite h hk es r' h3⟩
theorem Sim.shut(S:Sim B F H E){b:Nat}(hb:E.w.heap[b]?=some (Obj.deferred (some []))):Sim B F H (E.put b (Obj.deferred none)):=by
 have L:=Qc0 (k:=H.length) hb;have hk:=S.lt;refine⟨S.dom,?_,S.fb,S.fmod,?_,?_,S.nreg,?_⟩
 . simp only[Env.put,World.putObj_size];exact S.bsz
 . intro b' i h;simp only[Env.put,World.putObj_size];exact S.modsz b' i h
 . intro f s o ho;have:=S.obj f s o ho;cases o with
   |cells xs=>
    obtain⟨b',c,T,vs,rest,h1,h2,h3,h4,h5,h6,h7⟩:=this;exact⟨b',c,T,vs,rest,h1,h2,(Z9 E b _ b' (by rintro rfl;rw[hb] at h3;cases h3)).trans h3,h4,Qe.lite L hk _ _ h5,h6,h7⟩
   |map es bs clk=>
    obtain⟨b',ces,h1,h2,h3,h4,h5⟩:=this;exact⟨b',ces,h1,h2,(Z9 E b _ b' (by rintro rfl;rw[hb] at h3;cases h3)).trans h3,Z4.lite L hk _ _ h4,h5⟩
   |iter m since seen stepped=>
    obtain⟨b',mb,h1,h2,h3,h4⟩:=this;refine⟨b',mb,h1,h2,(Z9 E b _ b' (by rintro rfl;rw[hb] at h3;cases h3)).trans h3,?_⟩;cases m with
    |none=>exact h4
    |some x=>exact h4
   |grow n=>
    obtain⟨b',lo,hi,c,T,z,h1,h2,h3,h4⟩:=this;exact⟨b',lo,hi,c,T,z,h1,h2,(Z9 E b _ b' (by rintro rfl;rw[hb] at h3;cases h3)).trans h3,h4⟩
   |loop st pend fn rid t=>
    obtain⟨b',r,h1,h2,h3,h4,h5,h7,h8⟩:=this;exact⟨b',r,h1,h2,(Z9 E b _ b' (by rintro rfl;rw[hb] at h3;cases h3)).trans h3,h4,h5,h7,Qe.lite L hk _ _ h8⟩
   |siter l pos=>
    obtain⟨b',h1,h2,h3⟩:=this;exact⟨b',h1,h2,(Z9 E b _ b' (by rintro rfl;rw[hb] at h3;cases h3)).trans h3⟩
   |dead=>trivial
 . intro f s o f' s' o' b h1 h2 h3 h4;refine S.inj f s o f' s' o' b h1 h2 ?_ ?_
   . cases o<;>exact h3
   . cases o' <;>exact h4
theorem Ext.shut{k b:Nat}{E0:Env}(X:Ext k B E0 E)(hb:E.w.heap[b]?=some (Obj.deferred (some [])))(hn:E0.w.heap.size<=b)(hB:B<=b):Ext k B E0 (E.put b (Obj.deferred none)):=by
 have L:=Qc0 (k:=k) hb;refine⟨by simp only[Env.put,World.putObj_size];exact X.size,fun b' T n h=>L.shape _ _ _ (X.shape _ _ _ h),fun b' i v hm h=>L.cell _ _ _ (X.mod _ _ _ h hm) (X.cell _ _ _ hm h),X.mod,X.mu,X.reg,?_,X.rest,X.tab,?_⟩
 . intro b' hb';exact(Z9 E b _ b' (by omega)).trans (X.old b' hb')
 . intro b' h;have:=(Zrj.1 h).1;rw[Z9 E b _ b' (by omega)];exact X.dfr b' h
theorem Qaz{fn:Func}{tmps:Array Value}{R:Ending->World->Prop}{E0:Env}{t:List V}{k n:Nat}{u:FrameMode}(hu:u≠ .run)(hB:B<=N)(h0:E0.w.heap.size<=N)
 (fin:∀E',Ext k B E0 E' ->Sim B F H E' ->Qe E' t tmps.toList->(∀x v,Rel E x v->Rel E' x v)->LeavesIn Fence.wide n P fn tmps R [] u E'.w):
 ∀(rs:List Nat) (E1:Env),Ext k B E0 E1->Sim B F H E1->Qe E1 t tmps.toList->(∀x v,Rel E x v->Rel E1 x v)->rs.Nodup->(∀r∈rs,N<=r/\E1.w.heap[r]?=some (Obj.deferred (some [])))->
  LeavesInM Fence.wide n P fn tmps R (rs.map fun r=>({target:= .collected r,args:= #[]}:Deferred)) u E1.w
 |[],E1,X,S,hr,hx,_,_=>fin E1 X S hr hx
 |r::rs,E1,X,S,hr,hx,hnd,hm=>by
  obtain⟨q1,q2⟩:=hm r (by simp);rw[Zr4] at hnd;simp only[Zrw,LeavesInM];refine⟨hu,.inl ⟨r,(E1.put r (Obj.deferred none)).w,rfl,run_takeDeferred q2,?_⟩⟩;refine Qaz hu hB h0 fin rs (E1.put r (Obj.deferred none)) (X.shut q2 (by omega) (by omega)) (S.shut q2) (Qe.lite (Qc0 q2) S.lt _ _ hr) (fun x v h=>Rel.lite (Qc0 q2) S.lt _ _ (hx x v h)) hnd.2 ?_;intro r' hr';refine⟨(hm r' (Zrz _ hr')).1,?_⟩;rw[Z9 E1 r _ r' (fun e=>hnd.1 (e▸hr'))];exact(hm r' (Zrz _ hr')).2
end
end Go.AM
end
