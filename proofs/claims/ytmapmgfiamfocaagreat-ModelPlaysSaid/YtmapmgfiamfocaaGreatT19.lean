/- This file holds in one the texts YO14, YO15, YO16, YO17, YO18, YO6, YO19; each says at its head what it proves. -/
import Derived.Test.YtmapmgfiamfocaaGreatT14
import Derived.Test.YtmapmgfiamfocaaGreatT15
import Derived.Test.YtmapmgfiamfocaaGreatT17
import Derived.Test.YtmapmgfiamfocaaGreatT18
set_option linter.unusedSimpArgs false
set_option linter.unusedVariables false
section
set_option maxRecDepth 100000
namespace Go.Proofs.YtmapmgfiamfocaaGreat
open Go.AM Go.Mod
attribute [local irreducible] U W Zd
theorem Y4.cells{v:V}{r:Zi}(h:Y4 v r):∃x3 x4 x10 e1 e2 e5 e6 e7 e8 e9,v= .agg [.int .i64 e1,.int .i64 e2,x3,x4,.int .i64 e5,.int .u8 e6,.int .i64 e7,.int .i64 e8,.str e9,x10]/\x3.scalar=true/\x4.scalar=true/\x10.scalar=true:=by obtain⟨a,b,c,h1,h2,h3,h4⟩:=h;exact⟨a,b,c,_,_,_,_,_,_,_,h1,Ql.scalar h2,Ql.scalar h3,Ql.scalar h4⟩
theorem Qhn.trans0{H K K2:Qg}{a:Loc}{n s:Nat}{v:V}{o:O}(hn:n=H.length)(low:∀f s,f<n->Qd K f s=Qd H f s)(hl:n<K.length)(r:Qhn K K2 a):Qhn H (Yb n v (Qs K2 n s o)) a:=by have h2:n<K2.length:=Zfa hl r.len;subst hn;refine⟨Qbc (by simp only[Qa];omega),fun f s h n1 n2=>?_⟩;rw[Xm h,Q8 h2 (by omega),r.get f s (by omega) n1 n2,low f s h]
theorem Yn.fin{K2:Qg}{a:Loc}{L:Qe}{n s:Nat}{v:V}{o:O}(h2:n<K2.length)(hf:a.f<n)(hnf:a.nf<n)(h:Yn K2 a L):Yn (Yb n v (Qs K2 n s o)) a L:=by
 obtain⟨l,bs,clk,hL⟩:=h;refine⟨l,bs,clk,hL.obs,?_,?_,hL.born⟩
 . rw[Xm hf,Q8 h2 (by omega)];exact hL.cells
 . rw[Xm hnf,Q8 h2 (by omega)];exact hL.names
theorem make_l:Qgw 38 Qe.make:=by rintro H a L c dv ok ⟨l,bs,clk,hL⟩ hc;refine Y2 Tryz.func38 rfl ?_;intro n K hn F;have A:=F.at_ hn hL.cells;have B:=F.at_ hn hL.names;have sdv:=Ql.scalar hc.data;simp only[wA,↓Qc,simprocAttr,Tryz.ntmps38,ta,new,Qb,Qa,and_false,false_and,and_true,true_and,and_self,eq_self,Zfg,Zhc,wB,A.get,A.ltK,B.get,B.ltK,Jn,Jr,Jo,J8,J0,Zhd,Zff,Qf,F.own,F.lt,sdv];refine W.call (Q4i _ a L ok l bs clk (hL.low (by rw[<-hn];exact(fun f s h=>by simp only[Qb,Qa,F.lt,Zfc h,false_and,if_false];exact F.low f s h))) c.name ⟨1,1,[]⟩ .nS Qx.nil) rfl rfl rfl rfl rfl ?_;rintro r J ⟨hr,hl,hrest⟩;have lj:n<J.length:=Zfa (by simp only[Qa];exact F.lt) hrest.len;have j4:Qd J n 4=_:=(hrest.get n 4 (by simp only[Qa];exact F.lt) (fun e=>A.ne e.1.symm) (fun e=>B.ne e.1.symm)).trans (by simp only[Qb,Qa,F.lt,and_self,and_true,and_false,true_and,eq_self,if_true,if_false,Nat.reduceEqDiff,Qf];try rfl);obtain⟨x3,x4,x10,e1,e2,e5,e6,e7,e8,e9,rfl,s3,s4,s10⟩:=hr.cells;simp only[wA,↓Qc,simprocAttr,ta,new,Qb,Qa,and_false,false_and,and_true,true_and,and_self,eq_self,Zfg,Zhc,wB,lj,j4,s3,s4,s10];exact W.done (Z2.ret (Q1 rfl rfl (Qm (by first|exact F.lt|assumption|(simp only[Qa];first|exact F.lt|assumption))) (by rw[Jp];rfl)) ⟨hr,hl.fin lj A.lt B.lt,hrest.trans0 hn (fun f s h=>by simp only[Qb,Qa,F.lt,Zfc h,false_and,if_false];exact F.low f s h) (by simp only[Qa];exact F.lt)⟩)
theorem Q6f:Qgw 39 Qe.point:=by
 rintro H a L c dv ok ⟨l,bs,clk,hL⟩ hc;refine Y2 Tryz.func39 rfl ?_;intro n K hn F;have A:=F.at_ hn hL.cells;have B:=F.at_ hn hL.names;have sdv:=Ql.scalar hc.data;have hw:L.point c=if Kh c.as_≠0 then(L,Zl (Kh c.as_)) else L.add c.name ⟨3,1,c.as_⟩:=rfl
 simp only[wA,↓Qc,simprocAttr,Tryz.ntmps39,ta,new,Qb,Qa,and_false,false_and,and_true,true_and,and_self,eq_self,Zfg,Zhc,wB,A.get,A.ltK,B.get,B.ltK,Jn,Jr,Jo,J8,J0,Zhd,Zff,Qf,F.own,F.lt,sdv];refine W.pcall (Qko c.as_ (by have:=hc.as_;omega)) rfl rfl rfl ?_;rintro _ rfl;simp only[wA,↓Qc,simprocAttr];refine W.ite (fun h1=>?_) (fun h1=>?_)
 . have h1' :Kh c.as_≠0:=by simpa using h1
   rw[if_pos h1'] at hw;simp only[wA,↓Qc,simprocAttr];refine W.pcall (Zz (Kh c.as_)) rfl rfl rfl ?_;rintro _ rfl;simp only[wA,↓Qc,simprocAttr,Q7,ta,new,Qb,Qa,and_false,false_and,and_true,true_and,and_self,eq_self,Zfg,Zhc,F.lt,splice,wZ];refine W.done (Z2.ret (Q1 rfl rfl (Qm (by first|exact F.lt|assumption|(simp only[Qa];first|exact F.lt|assumption))) (by rw[Jp];rfl)) ?_);rw[hw];exact⟨Zk _,Bf hL (F.ch hn (by first|rfl|simp only[Qa]) (fun f' s' h=>by first|rfl|simp only[Qb,Qa,F.lt,Zfc h,false_and,if_false,AM.lk, *,-hn]))⟩
 . have h1' :¬(Kh c.as_≠0):=by simpa using h1
   rw[if_neg h1'] at hw;have cv:∀g,convertV Tryz.prog g 9 24 (.str c.as_)=some (.val (.iS (Qp c.as_) c.as_.length false) none):=fun g=>by simp only[convertV,Tryz.underlying9,Tryz.underlying24,Tryz.underlying5]
   simp only[wA,↓Qc,simprocAttr,ta,new,Qb,Qa,and_false,false_and,and_true,true_and,and_self,eq_self,Zfg,Zhc,wB,A.get,A.ltK,B.get,B.ltK,Jn,Jr,Jo,J8,J0,Zhd,Zff,Qf,F.own,F.lt,sdv,Qzj,↓cv];refine W.call (Q4i _ a L ok l bs clk (hL.low (by rw[<-hn];exact(fun f s h=>by simp only[Qb,Qa,F.lt,Zfc h,false_and,if_false];exact F.low f s h))) c.name ⟨3,1,c.as_⟩ _ (Qx.mk c.as_ false)) rfl rfl rfl rfl rfl ?_;rintro r J ⟨hr,hl,hrest⟩;have lj:n<J.length:=Zfa (by simp only[Qa];exact F.lt) hrest.len;have j4:Qd J n 4=_:=(hrest.get n 4 (by simp only[Qa];exact F.lt) (fun e=>A.ne e.1.symm) (fun e=>B.ne e.1.symm)).trans (by simp only[Qb,Qa,F.lt,and_self,and_true,and_false,true_and,eq_self,if_true,if_false,Nat.reduceEqDiff,Qf];try rfl);obtain⟨x3,x4,x10,e1,e2,e5,e6,e7,e8,e9,rfl,s3,s4,s10⟩:=hr.cells;simp only[wA,↓Qc,simprocAttr,ta,new,Qb,Qa,and_false,false_and,and_true,true_and,and_self,eq_self,Zfg,Zhc,wB,lj,j4,s3,s4,s10];rw[hw];exact W.done (Z2.ret (Q1 rfl rfl (Qm (by first|exact F.lt|assumption|(simp only[Qa];first|exact F.lt|assumption))) (by rw[Jp];rfl)) ⟨hr,hl.fin lj A.lt B.lt,hrest.trans0 hn (fun f s h=>by simp only[Qb,Qa,F.lt,Zfc h,false_and,if_false];exact F.low f s h) (by simp only[Qa];exact F.lt)⟩)
end Go.Proofs.YtmapmgfiamfocaaGreat
namespace Go.Proofs.YtmapmgfiamfocaaGreat
open Go.AM Go.Mod
structure Hs where
 f:Nat
 s:Nat
 mf:Nat
 ms:Nat
structure Ent where
 id:Int
 line:Qe
 loc:Loc
def Jf(xs:List Ent):List (Int×Qe):=xs.map fun x=>(x.id,x.line)
def Kc(xs:List Ent):List (V×V):=xs.map fun x=>(.int .i64 x.id,.ptr x.loc.f x.loc.s 0)
def Kg:List Ent->Int->Option Ent
 |[],_=>none
 |x::l,i=>if i=x.id then some x else Kg l i
def Qej(x y:Ent):Prop:=¬(x.loc.f=y.loc.f/\x.loc.s=y.loc.s)/\¬(x.loc.nf=y.loc.nf/\x.loc.ns=y.loc.ns)
theorem Qej.symm{x y:Ent}(h:Qej x y):Qej y x:=⟨fun e=>h.1 ⟨e.1.symm,e.2.symm⟩,fun e=>h.2 ⟨e.1.symm,e.2.symm⟩⟩
structure Zo(H:Qg)(h:Hs)(S:MSt)(xs:List Ent)(kl:List (Nat×Nat)):Prop where
 cell:Qd H h.f h.s=some (.cells [.int .i64 S.last,.map h.mf h.ms])
 lmap:∃bs clk,Qd H h.mf h.ms=some (.map (Kc xs) bs clk)/\Qft xs.length bs clk
 lines:S.lines=Jf xs
 line:∀x∈xs,Yn H x.loc x.line
 key:∀x∈xs,kl[x.line.key]?=some (x.loc.kf,x.loc.ks)
 keys:∀(i:Nat) (q:Nat×Nat),kl[i]?=some q->∃k,S.keys[i]?=some k/\Qd H q.1 q.2=some (.cells [.str k.pass,.bool k.loaded])
 klen:kl.length=S.keys.length
 apart:xs.Pairwise Qej
 kapart:kl.Nodup
def Qkw(H:Qg)(h:Hs)(S:MSt):Prop:=∃xs kl,Zo H h S xs kl
def Xh(H H' :Qg)(h:Hs)(S:MSt):Prop:=∃xs kl,Zo H' h S xs kl/\∀q∈kl,(∃ys:List V,Qd H q.1 q.2=some (.cells ys)/\ys.length=2)\/∃x∈xs,x.loc.kf=q.1/\x.loc.ks=q.2
theorem Zo.kOut{H:Qg}{h:Hs}{S:MSt}{xs:List Ent}{kl:List (Nat×Nat)}(hh:Zo H h S xs kl){xs' :List Ent}:∀q∈kl,(∃ys:List V,Qd H q.1 q.2=some (.cells ys)/\ys.length=2)\/∃x∈xs',x.loc.kf=q.1/\x.loc.ks=q.2:=by intro q hq;obtain⟨i,hi,e⟩:=List.getElem_of_mem hq;obtain⟨k,_,h2⟩:=hh.keys i q (by rw[Ze3 hi,e]);exact .inl ⟨_,h2,rfl⟩
theorem Yk{l:List Ent}{i:Int}{x:Ent}(h:Kg l i=some x):x∈l/\x.id=i:=by
 induction l with
 |nil=>cases h
 |cons y l ih=>
  simp only[Kg] at h;split at h
  . rename_i e;cases h;exact⟨by simp,e.symm⟩
  . exact⟨Zfj _ (ih h).1,(ih h).2⟩
theorem Y5(l:List Ent)(i:Int):Zw (Jf l) i=(Kg l i).map (·.line):=by
 induction l with
 |nil=>rfl
 |cons x l ih=>
  simp only[Jf,Zfn] at ih⊢;simp only[Zw,Kg];split
  . rfl
  . exact ih
theorem Qev(i:Int):∀(l:List Ent) (j:Nat),∃k,findKey (.int .i64 i) (Kc l) j=some ((Kg l i).map fun x=>(k,.ptr x.loc.f x.loc.s 0))
 |[],j=>⟨0,rfl⟩
 |x::l,j=>by
  simp only[Kc,Zfn,findKey,Qmx,Kg,if_true];by_cases h:i=x.id
  . subst h;exact⟨j,by simp⟩
  . have:(i==x.id)=false:=by simpa using h
    obtain⟨k,hk⟩:=Qev i l (j+1);exact⟨k,by simp only[this,h,if_false];exact hk⟩
theorem Yt{g:Get}{mf ms:Nat}{l:List Ent}{bs:List Nat}{clk:Nat}(h:g mf ms=some (.map (Kc l) bs clk))(i:Int):
 Bu Tryz.prog g 43 (.map mf ms) (.int .i64 i) false=some (match Kg l i with|some x=> .ptr x.loc.f x.loc.s 0|none=> .nP):=by
 have z:zer Tryz.prog 64=some (.pointer none):=by kernel_rfl
 obtain⟨k,hk⟩:=Qev i l 0;simp only[Bu,Tryz.underlying43,Tryz.underlying3,z,Yo,if_true,h,hk];cases Kg l i<;>rfl
section
variable {H H' : Qg} {h : Hs} {S : MSt} {xs : List Ent} {kl : List (Nat × Nat)} {x y : Ent}
theorem Yn.same{a:Loc}{L:Qe}(hl:Yn H a L)(h1:Qd H' a.f a.s=Qd H a.f a.s)(h2:Qd H' a.nf a.ns=Qd H a.nf a.ns):Yn H' a L:=by obtain⟨l,bs,clk,q⟩:=hl;exact⟨l,bs,clk,q.obs,h1.trans q.cells,h2.trans q.names,q.born⟩
theorem Qez{f s f' s' :Nat}{xs ys:List V}(h1:Qd H f s=some (.cells xs))(h2:Qd H f' s' =some (.cells ys))(hl:xs.length≠ys.length):¬(f=f' /\s=s'):=by rintro⟨rfl,rfl⟩;rw[h1] at h2;cases h2;exact hl rfl
theorem Zo.d1(hh:Zo H h S xs kl)(hx:x∈xs):¬(h.f=x.loc.f/\h.s=x.loc.s):=by obtain⟨l,bs,clk,q⟩:=hh.line x hx;exact Qez hh.cell q.cells (by rw[By];simp only[Zgz,Zg2];omega)
theorem Zo.d2(hh:Zo H h S xs kl)(hx:x∈xs):¬(h.f=x.loc.nf/\h.s=x.loc.ns):=by obtain⟨l,bs,clk,q⟩:=hh.line x hx;exact Ya hh.cell q.names
theorem Zo.d3(hh:Zo H h S xs kl)(hx:x∈xs):¬(h.mf=x.loc.f/\h.ms=x.loc.s):=by obtain⟨l,bs,clk,q⟩:=hh.line x hx;obtain⟨b,c,hm,_⟩:=hh.lmap;exact B7 q.cells hm
theorem Zo.d4(hh:Zo H h S xs kl)(hx:x∈xs):¬(h.mf=x.loc.nf/\h.ms=x.loc.ns):=by
 obtain⟨l,bs,clk,q⟩:=hh.line x hx;obtain⟨b,c,hm,_⟩:=hh.lmap;rintro⟨e1,e2⟩;have q2:=q.names;rw[<-e1,<-e2,hm] at q2;have e3:Kc xs=Xt x.line.names:=by injection q2 with q2;injection q2
 cases xs with
 |nil=>cases hx
 |cons y ys=>
  cases hn:x.line.names with
  |nil=>rw[hn] at e3;simp[Kc,Xt] at e3
  |cons z zs=>rw[hn] at e3;simp[Kc,Xt] at e3
theorem Zo.d6(hh:Zo H h S xs kl)(hx:x∈xs){i:Nat}{q:Nat×Nat}(hq:kl[i]?=some q):¬(q.1=x.loc.f/\q.2=x.loc.s)/\¬(q.1=x.loc.nf/\q.2=x.loc.ns):=by obtain⟨l,bs,clk,p⟩:=hh.line x hx;obtain⟨k,_,hk⟩:=hh.keys i q hq;exact⟨Qez hk p.cells (by rw[By];simp only[Zgz,Zg2];omega),Ya hk p.names⟩
theorem Yn.apartNC{a b:Loc}{L M:Qe}(h1:Yn H a L)(h2:Yn H b M):¬(a.f=b.nf/\a.s=b.ns):=by obtain⟨_,_,_,p⟩:=h1;obtain⟨_,_,_,q⟩:=h2;exact Ya p.cells q.names
theorem Yn.lt{a:Loc}{L:Qe}(h1:Yn H a L):a.f<H.length/\a.nf<H.length:=by obtain⟨_,_,_,p⟩:=h1;exact⟨Q9 p.cells,Q9 p.names⟩
theorem Zo.low(hh:Zo H h S xs kl)(c:∀f s,f<H.length->Qd H' f s=Qd H f s):Zo H' h S xs kl:=by
 obtain⟨bs,clk,hm,hb⟩:=hh.lmap;exact⟨(c _ _ (Q9 hh.cell)).trans hh.cell,⟨bs,clk,(c _ _ (Q9 hm)).trans hm,hb⟩,hh.lines,fun x hx=>(hh.line x hx).same (c _ _ (hh.line x hx).lt.1) (c _ _ (hh.line x hx).lt.2),hh.key,
  fun i q hq=>by obtain⟨k,h1,h2⟩:=hh.keys i q hq;exact⟨k,h1,(c _ _ (Q9 h2)).trans h2⟩,hh.klen,hh.apart,hh.kapart⟩
theorem Zo.ch(hh:Zo H h S xs kl)(c:Ch H H' []):Zo H' h S xs kl:=hh.low fun f s hf=>c.get f s hf
def Qfb:List Ent->Int->Qe->Loc->List Ent
 |[],_,_,_=>[]
 |x::l,i,L,a=>if i=x.id then⟨x.id,L,a⟩::l else x::Qfb l i L a
theorem Qje(l:List Ent)(i:Int)(L:Qe)(a:Loc):Jf (Qfb l i L a)=putL (Jf l) i L:=by
 induction l with
 |nil=>rfl
 |cons x l ih=>
  simp only[Qfb,Jf,Zfn,putL] at ih⊢;split
  . rfl
  . rw[Zfn,ih]
theorem Qg0{l:List Ent}{i:Int}{L:Qe}{a:Loc}(hu:l.Pairwise fun x y=>x.id≠y.id)(hx:Kg l i=some x){y:Ent}(h:y∈Qfb l i L a):y=⟨x.id,L,a⟩\/(y∈l/\y.id≠i):=by
 induction l with
 |nil=>cases h
 |cons z l ih=>
  simp only[Kg] at hx;simp only[Qfb] at h;obtain⟨hu1,hu2⟩:=Zgr.1 hu;split at hx
  . rename_i e;cases hx;rw[if_pos e] at h;rcases Zfi.1 h with rfl|h
    . left;rfl
    . right;exact⟨Zfj _ h,by rw[e];exact(hu1 y h).symm⟩
  . rename_i e;rw[if_neg e] at h;rcases Zfi.1 h with rfl|h
    . right;exact⟨by simp,fun e2=>e e2.symm⟩
    . rcases ih hu2 hx h with h|h
      . left;exact h
      . right;exact⟨Zfj _ h.1,h.2⟩
theorem Qpy(l:List Ent)(i:Int)(L:Qe)(a:Loc)(hx:Kg l i=some x)(hf:a.f=x.loc.f)(hs:a.s=x.loc.s):Kc (Qfb l i L a)=Kc l:=by
 induction l with
 |nil=>rfl
 |cons z l ih=>
  simp only[Kg] at hx;simp only[Qfb];split at hx
  . rename_i e;cases hx;rw[if_pos e];simp only[Kc,Zfn,hf,hs]
  . rename_i e;rw[if_neg e];simp only[Kc,Zfn] at ih⊢;rw[ih hx]
theorem Qut(l:List Ent)(i:Int)(L:Qe)(a:Loc):(Qfb l i L a).length=l.length:=by
 induction l with
 |nil=>rfl
 |cons z l ih=>simp only[Qfb];split<;>simp[ih]
theorem Qoe{l:List Ent}{i:Int}{L:Qe}{a:Loc}(hx:Kg l i=some x)(h:l.Pairwise Qej)(hu:l.Pairwise fun x y=>x.id≠y.id)(ha:∀y∈l,y.id≠i->Qej ⟨x.id,L,a⟩ y):(Qfb l i L a).Pairwise Qej:=by
 induction l with
 |nil=>exact .nil
 |cons z l ih=>
  obtain⟨h1,h2⟩:=Zgr.1 h;obtain⟨u1,u2⟩:=Zgr.1 hu;simp only[Kg] at hx;simp only[Qfb];split at hx
  . rename_i e;cases hx;rw[if_pos e];exact Zgr.2 ⟨fun y hy=>ha y (Zfj _ hy) (by rw[e];exact(u1 y hy).symm),h2⟩
  . rename_i e;rw[if_neg e];refine Zgr.2 ⟨fun y hy=>?_,ih hx h2 u2 fun y hy=>ha y (Zfj _ hy)⟩;rcases Qg0 u2 hx hy with rfl|⟨hy,_⟩
    . exact(ha z (by simp) (fun e2=>e e2.symm)).symm
    . exact h1 y hy
theorem Q7h(l:List Ent):(ids (Jf l)).Nodup->l.Pairwise fun x y=>x.id≠y.id:=by intro h;unfold List.Nodup ids Jf at h;rw[Zfp,Zgt] at h;exact h
theorem Zo.uniq(hh:Zo H h S xs kl){n:Nat}(ok:J1 S n):xs.Pairwise fun x y=>x.id≠y.id:=Q7h xs (by rw[<-hh.lines];exact ok.uniq)
theorem Qkz{l:List Ent}{R:Ent->Ent->Prop}(hs:∀a b,R a b->R b a)(h:l.Pairwise R){a b:Ent}(ha:a∈l)(hb:b∈l)(hn:a.id≠b.id):R a b:=by
 induction l with
 |nil=>cases ha
 |cons z l ih=>
  obtain⟨h1,h2⟩:=Zgr.1 h;rcases Zfi.1 ha with rfl|ha'
  . rcases Zfi.1 hb with rfl|hb'
    . exact absurd rfl hn
    . exact h1 b hb'
  . rcases Zfi.1 hb with rfl|hb'
    . exact hs _ _ (h1 a ha')
    . exact ih h2 ha' hb'
theorem Zo.line_upd(hh:Zo H h S xs kl)(hu:xs.Pairwise fun x y=>x.id≠y.id){i:Int}(hx:Kg xs i=some x){L' :Qe}(hl:Yn H' x.loc L')(r:Qhn H H' x.loc)(hk:L'.key=x.line.key):
 Zo H' h {S with lines:=putL S.lines i L' } (Qfb xs i L' x.loc) kl:=by
 have hm:=Yk hx;obtain⟨bs,clk,hmap,hb⟩:=hh.lmap;refine⟨(r.get _ _ (Q9 hh.cell) (hh.d1 hm.1) (hh.d2 hm.1)).trans hh.cell,⟨bs,clk,?_,by rw[Qut];exact hb⟩,by rw[Qje,hh.lines],fun y hy=>?_,fun y hy=>?_,fun j q hq=>?_,hh.klen,?_,hh.kapart⟩
 . rw[Qpy xs i L' x.loc hx rfl rfl];exact(r.get _ _ (Q9 hmap) (hh.d3 hm.1) (hh.d4 hm.1)).trans hmap
 . rcases Qg0 hu hx hy with rfl|⟨hy,hne⟩
   . exact hl
   . have ap:Qej y x:=Qkz (fun _ _ h=>h.symm) hh.apart hy hm.1 (by rw[hm.2];exact hne);have ly:=hh.line y hy;have lx:=hh.line x hm.1;refine ly.same (r.get _ _ ly.lt.1 ap.1 (ly.apartNC lx)) (r.get _ _ ly.lt.2 (fun e=>lx.apartNC ly ⟨e.1.symm,e.2.symm⟩) ap.2)
 . rcases Qg0 hu hx hy with rfl|⟨hy,hne⟩
   . simp only[hk];exact hh.key x hm.1
   . exact hh.key y hy
 . obtain⟨k,h1,h2⟩:=hh.keys j q hq;have d:=hh.d6 hm.1 hq;exact⟨k,h1,(r.get _ _ (Q9 h2) d.1 d.2).trans h2⟩
 . refine Qoe hx hh.apart hu fun y hy hne=>?_;have ap:Qej x y:=Qkz (fun _ _ h=>h.symm) hh.apart hm.1 hy (by rw[hm.2];exact fun e=>hne e.symm);exact ap
theorem Zo.line_new(hh:Zo H h S xs kl)(hu:xs.Pairwise fun x y=>x.id≠y.id){i:Int}(hx:Kg xs i=some x){L' :Qe}{nf ns:Nat}(hnf:H.length<=nf)(hl:Yn H' ⟨x.loc.f,x.loc.s,nf,ns,x.loc.kf,x.loc.ks⟩ L')
 (r:∀f s,f<H.length->¬(f=x.loc.f/\s=x.loc.s)->Qd H' f s=Qd H f s)(hk:L'.key=x.line.key):
 Zo H' h {S with lines:=putL S.lines i L' } (Qfb xs i L' ⟨x.loc.f,x.loc.s,nf,ns,x.loc.kf,x.loc.ks⟩) kl:=by
 have hm:=Yk hx;obtain⟨bs,clk,hmap,hb⟩:=hh.lmap;refine⟨(r _ _ (Q9 hh.cell) (hh.d1 hm.1)).trans hh.cell,⟨bs,clk,?_,by rw[Qut];exact hb⟩,by rw[Qje,hh.lines],fun y hy=>?_,fun y hy=>?_,fun j q hq=>?_,hh.klen,?_,hh.kapart⟩
 . rw[Qpy xs i L' ⟨x.loc.f,x.loc.s,nf,ns,x.loc.kf,x.loc.ks⟩ hx rfl rfl];exact(r _ _ (Q9 hmap) (hh.d3 hm.1)).trans hmap
 . rcases Qg0 hu hx hy with rfl|⟨hy,hne⟩
   . exact hl
   . have ap:Qej y x:=Qkz (fun _ _ h=>h.symm) hh.apart hy hm.1 (by rw[hm.2];exact hne);have ly:=hh.line y hy;have lx:=hh.line x hm.1;refine ly.same (r _ _ ly.lt.1 ap.1) (r _ _ ly.lt.2 (fun e=>lx.apartNC ly ⟨e.1.symm,e.2.symm⟩))
 . rcases Qg0 hu hx hy with rfl|⟨hy,hne⟩
   . simp only[hk];exact hh.key x hm.1
   . exact hh.key y hy
 . obtain⟨k,h1,h2⟩:=hh.keys j q hq;have d:=hh.d6 hm.1 hq;exact⟨k,h1,(r _ _ (Q9 h2) d.1).trans h2⟩
 . refine Qoe hx hh.apart hu fun y hy hne=>?_;have ap:Qej x y:=Qkz (fun _ _ h=>h.symm) hh.apart hm.1 hy (by rw[hm.2];exact fun e=>hne e.symm);have ly:=hh.line y hy;exact⟨ap.1,fun e=>by have:=ly.lt.2;simp only at e;omega⟩
theorem Zo.key_upd(hh:Zo H h S xs kl){i:Nat}{q:Nat×Nat}{k:Qpf}(hq:kl[i]?=some q)(hk:S.keys[i]?=some k){b:Bool}(c:Ch H H' [(q.1,q.2,.cells [.str k.pass,.bool b])]):
 Zo H' h {S with keys:=S.keys.set i {k with loaded:=b}} xs kl:=by
 obtain⟨bs,clk,hm,hb⟩:=hh.lmap;obtain⟨k',hk',hc⟩:=hh.keys i q hq;have e:k' =k:=by rw[hk] at hk';exact(Option.some.inj hk').symm
 subst e;have oth:∀{f s:Nat} {o:O},Qd H f s=some o->¬(f=q.1/\s=q.2)->Qd H' f s=some o:=fun{f s o} hg hne=>c.other hg (Q9 hg) (by intro w hw;rw[Zfx.1 hw];exact hne);have oth' :∀{f s:Nat},f<H.length->¬(f=q.1/\s=q.2)->Qd H' f s=Qd H f s:=fun{f s} hl hne=>c.other rfl hl (by intro w hw;rw[Zfx.1 hw];exact hne);refine⟨oth hh.cell ?_,⟨bs,clk,oth hm ?_,hb⟩,hh.lines,fun x hx=>?_,hh.key,fun j p hp=>?_,by simp[hh.klen],hh.apart,hh.kapart⟩
 . rintro⟨e1,e2⟩;have:=hh.cell;rw[e1,e2,hc] at this;cases this
 . exact B7 hc hm
 . have lx:=hh.line x hx;have d:=hh.d6 hx hq;exact lx.same (oth' lx.lt.1 fun e=>d.1 ⟨e.1.symm,e.2.symm⟩) (oth' lx.lt.2 fun e=>d.2 ⟨e.1.symm,e.2.symm⟩)
 . obtain⟨k2,h1,h2⟩:=hh.keys j p hp;by_cases e:j=i
   . subst e;rw[hq] at hp;cases hp;refine⟨{k' with loaded:=b},?_,?_⟩
     . rw[List.getElem?_set,if_pos rfl,if_pos (Yw hk)]
     . rw[c.get _ _ (Q9 h2)];simp[lk]
   . refine⟨k2,by rw[List.getElem?_set,if_neg (fun e2=>e e2.symm)];exact h1,oth h2 ?_⟩;rintro⟨e1,e2⟩;have hpq:p=q:=Prod.ext e1 e2;subst hpq;have hi:=Yw hp;have hj:=Yw hq;have:=(List.getElem_inj (xs:=kl) (h₀:=hi) (h₁:=hj) hh.kapart).1 (by
      rw[Ze3 hi] at hp;rw[Ze3 hj] at hq
      rw[Option.some.inj hp,Option.some.inj hq])
     exact e this
theorem Zo.keyAt(hh:Zo H h S xs kl)(hx:x∈xs):kl[x.line.key]?=some (x.loc.kf,x.loc.ks)/\S.keys[x.line.key]?=some (S.keyOf x.line)/\Qd H x.loc.kf x.loc.ks=some (.cells [.str (S.keyOf x.line).pass,.bool (S.keyOf x.line).loaded]):=by
 have h1:=hh.key x hx;obtain⟨k,h2,h3⟩:=hh.keys _ _ h1;have e:S.keyOf x.line=k:=by rw[MSt.keyOf,h2];rfl
 rw[e];exact⟨h1,h2,h3⟩
end
theorem Zo.aside{H:Qg}{h:Hs}{S:MSt}{xs:List Ent}{kl:List (Nat×Nat)}(hh:Zo H h S xs kl){n s:Nat}{ys:List V}{o:O}(hg:Qd H n s=some (.cells ys))(hy:ys.length=10)(h16:∀x∈xs,x.line.objs.length=16):Zo (Qs H n s o) h S xs kl:=by
 have hl:=Q9 hg;obtain⟨bs,clk,hm,hb⟩:=hh.lmap;refine⟨(Ks hl (Qez hh.cell hg (by simp[hy]))).trans hh.cell,⟨bs,clk,(Ks hl (B7 hg hm)).trans hm,hb⟩,hh.lines,fun x hx=>?_,hh.key,fun i q hq=>?_,hh.klen,hh.apart,hh.kapart⟩
 . have lx:=hh.line x hx;obtain⟨l,bs1,clk1,hL⟩:=lx;have:l.length=16:=by rw[hL.obs.len];exact h16 x hx
   exact Yn.same ⟨l,bs1,clk1,hL⟩ (Ks hl (Qez hL.cells hg (by rw[By,hy];omega))) (Ks hl (B7 hg hL.names))
 . obtain⟨k,h1,h2⟩:=hh.keys i q hq;exact⟨k,h1,(Ks hl (Qez h2 hg (by simp[hy]))).trans h2⟩
def Qa3:O->Bool
 | .cells ys=> !(Nat.beq ys.length 2)&& !(Nat.beq ys.length 53)
 | .map _ _ _=>false
 |_=>true
structure Qa8(H H' :Qg):Prop where
 len:H.length<=H'.length
 get:∀f s o,Qd H f s=some o->Qa3 o=true->Qd H' f s=some o
theorem Qa8.of_ch{H H' :Qg}{w:List (Nat×Nat×O)}(c:Ch H H' w)(hw:∀x∈w,∃o,Qd H x.1 x.2.1=some o/\Qa3 o=false):Qa8 H H' :=by refine⟨c.len,fun f s o h1 h2=>c.other h1 (Q9 h1) fun x hx e=>?_⟩;obtain⟨o',h3,h4⟩:=hw x hx;rw[<-e.1,<-e.2,h1] at h3;cases h3;rw[h2] at h4;cases h4
theorem Qa8.of_ch0{H H' :Qg}(c:Ch H H' []):Qa8 H H' := .of_ch c (by simp)
theorem Ky{H:Qg}{f s f' s' :Nat}{o o' :O}(h1:Qd H f s=some o)(h2:Qa3 o=true)(h3:Qd H f' s' =some o')(h4:Qa3 o' =false):¬(f=f' /\s=s'):=by rintro⟨rfl,rfl⟩;rw[h1] at h3;cases h3;rw[h2] at h4;cases h4
theorem Qen{a:Loc}{sn:Bool}{ow pr:Int}{l:List Ob}(h:l.length=16):Qa3 (.cells (Zd a sn ow pr l))=false:=by simp only[Qa3,By,h];rfl
def Qam(f:FuncId)(g:MSt->Zc->MSt×Zi):Prop:=∀(H:Qg) (h:Hs) (S:MSt) (n:Nat) (c:Zc) (dv:V),Qkw H h S->J1 S n->n<=1000->Ye c dv->
 CR Tryz.prog Qv f [.ptr h.f h.s 0,.agg (Qf c dv)] H fun v H' =>Y4 v (g S c).2/\Xh H H' h (g S c).1/\Qa8 H H'
end Go.Proofs.YtmapmgfiamfocaaGreat
namespace Go.Proofs.YtmapmgfiamfocaaGreat
open Go.AM Go.Mod
attribute [local irreducible] U W Zd
theorem sync_h:Qam 37 Qzf:=by rintro H h S N c dv ⟨xs,kl,hh⟩ ok hN hc;refine Y2 Tryz.func37 rfl ?_;intro n K hn F;have sdv:=Ql.scalar hc.data;simp only[wA,↓Qc,simprocAttr,Tryz.ntmps37,ta,new,Qb,Qa,and_false,false_and,and_true,true_and,and_self,eq_self,Zfg,Zhc,wB,F.own,F.lt,Qf,sdv];exact W.done (Z2.ret (Q1 rfl rfl (Qm (by first|exact F.lt|assumption|(simp only[Qa];first|exact F.lt|assumption))) (by rw[Jp];rfl)) ⟨Zk 0,⟨xs,kl,hh.ch (F.ch hn (by first|rfl|simp only[Qa]) (fun f' s' h=>by first|rfl|simp only[Qb,Qa,F.lt,Zfc h,false_and,if_false,AM.lk, *,-hn])),hh.kOut⟩,.of_ch0 (F.ch hn (by first|rfl|simp only[Qa]) (fun f' s' h=>by first|rfl|simp only[Qb,Qa,F.lt,Zfc h,false_and,if_false,AM.lk, *,-hn]))⟩)
theorem load_h:Qam 33 Qcc:=by
 rintro H h S N c dv ⟨xs,kl,hh⟩ ok hN hc;refine Y2 Tryz.func33 rfl ?_;intro n K hn F;have sdv:=Ql.scalar hc.data;obtain⟨bs,clk,hm,hb⟩:=hh.lmap;have A:=F.at_ hn hh.cell;have B:=F.at_ hn hm;have lkl:=fun g hg=>Yt (g:=g) (mf:=h.mf) (ms:=h.ms) (l:=xs) (bs:=bs) (clk:=clk) hg c.a;have bad:∀(K2:Qg) (e:Int),Qcc S c=(S,Zl e)->Ch H K2 []->Y4 (Q7 e) (Qcc S c).2/\Xh H K2 h (Qcc S c).1/\Qa8 H K2:=by intro K2 e he hch;rw[he];exact⟨Zk e,⟨xs,kl,hh.ch hch,hh.kOut⟩,.of_ch0 hch⟩
 have hw:=hh.lines▸Y5 xs c.a;simp only[wA,↓Qc,simprocAttr,Tryz.ntmps33,ta,new,Qb,Qa,and_false,false_and,and_true,true_and,and_self,eq_self,Zfg,Zhc,wB,F.own,F.lt,sdv,A.get,A.ltK,B.get,B.ltK,Jn,Jr,Jo,J8,J0,Zhd,Zff,Qf,A.ne,B.ne,↓lkl];refine W.opsK (by kernel_rfl) ?_;cases hx:Kg xs c.a with
 |none=>
  rw[hx] at hw;simp only[wA,↓Qc,simprocAttr,Qf7 Tryz.underlying64];refine W.pcall (Zz 6) rfl rfl rfl ?_;rintro _ rfl;simp only[wA,↓Qc,simprocAttr,Q7,ta,new,Qb,Qa,and_false,false_and,and_true,true_and,and_self,eq_self,Zfg,Zhc,F.lt,splice,wZ];exact W.done (Z2.ret (Q1 rfl rfl (Qm (by first|exact F.lt|assumption|(simp only[Qa];first|exact F.lt|assumption))) (by rw[Jp];rfl)) (bad _ 6 (by rw[Qcc,hw];rfl) (F.ch hn (by first|rfl|simp only[Qa]) (fun f' s' h=>by first|rfl|simp only[Qb,Qa,F.lt,Zfc h,false_and,if_false,AM.lk, *,-hn]))))
 |some x=>
  rw[hx] at hw;have hxm:=(Yk hx).1;obtain⟨l,bs1,clk1,hL⟩:=hh.line x hxm;have X:=F.at_ hn hL.cells;obtain⟨hk1,hk2,hk3⟩:=hh.keyAt hxm;have Y:=F.at_ hn hk3;generalize hk:S.keyOf x.line=k at*;have hw2:Qcc S c=if 64<c.text.length then(S,Zl 3) else if c.text≠k.pass then(S,Zl 201) else({S with keys:=S.keys.set x.line.key {k with loaded:=true}},Zl 0):=by rw[Qcc,hw];simp only[Ze4,hk]
  simp only[wA,↓Qc,simprocAttr,Qdl Tryz.underlying64,ta,new,Qb,Qa,and_false,false_and,and_true,true_and,and_self,eq_self,Zfg,Zhc,wZ,F.lt,A.get,A.ltK,B.get,B.ltK,Jn,Jr,Jo,J8,J0,Zhd,Zff,Qf];refine W.ite (fun h1=>?_) (fun h1=>?_)
  . have h1' :64<c.text.length:=by have:=of_decide_eq_true h1;omega
    rw[if_pos h1'] at hw2;simp only[wA,↓Qc,simprocAttr];refine W.pcall (Zz 3) rfl rfl rfl ?_;rintro _ rfl;simp only[wA,↓Qc,simprocAttr,Q7,ta,new,Qb,Qa,and_false,false_and,and_true,true_and,and_self,eq_self,Zfg,Zhc,F.lt,splice,wZ];exact W.done (Z2.ret (Q1 rfl rfl (Qm (by first|exact F.lt|assumption|(simp only[Qa];first|exact F.lt|assumption))) (by rw[Jp];rfl)) (bad _ 3 hw2 (F.ch hn (by first|rfl|simp only[Qa]) (fun f' s' h=>by first|rfl|simp only[Qb,Qa,F.lt,Zfc h,false_and,if_false,AM.lk, *,-hn]))))
  . have h1' :¬64<c.text.length:=by have:=of_decide_eq_false h1;omega
    rw[if_neg h1'] at hw2;simp only[wA,↓Qc,simprocAttr,ta,new,Qb,Qa,and_false,false_and,and_true,true_and,and_self,eq_self,Zfg,Zhc,wZ,F.lt,A.get,A.ltK,B.get,B.ltK,Jn,Jr,Jo,J8,J0,Zhd,Zff,Qf,X.get,X.ne,Y.get,Y.ne];refine W.opsK (by kernel_rfl) ?_;simp only[wA,↓Qc,simprocAttr];refine W.ite (fun h2=>?_) (fun h2=>?_)
    . have h2' :c.text≠k.pass:=by simpa using h2
      rw[if_pos h2'] at hw2;simp only[wA,↓Qc,simprocAttr];refine W.pcall (Zz 201) rfl rfl rfl ?_;rintro _ rfl;simp only[wA,↓Qc,simprocAttr,Q7,ta,new,Qb,Qa,and_false,false_and,and_true,true_and,and_self,eq_self,Zfg,Zhc,F.lt,splice,wZ];exact W.done (Z2.ret (Q1 rfl rfl (Qm (by first|exact F.lt|assumption|(simp only[Qa];first|exact F.lt|assumption))) (by rw[Jp];rfl)) (bad _ 201 hw2 (F.ch hn (by first|rfl|simp only[Qa]) (fun f' s' h=>by first|rfl|simp only[Qb,Qa,F.lt,Zfc h,false_and,if_false,AM.lk, *,-hn]))))
    . have h2' :¬(c.text≠k.pass):=by simpa using h2
      rw[if_neg h2'] at hw2;have yn:¬n=x.loc.kf:=fun e=>Y.ne e.symm;simp only[wA,↓Qc,simprocAttr,ta,new,Qb,Qa,and_false,false_and,and_true,true_and,and_self,eq_self,Zfg,Zhc,wB,F.lt,A.get,A.ltK,B.get,B.ltK,Jn,Jr,Jo,J8,J0,Zhd,Zff,Qf,X.get,X.ne,Y.get,Y.ne,Y.ltK,yn];refine W.done (Z2.ret (Q1 rfl rfl (Qm (by first|exact F.lt|assumption|(simp only[Qa];first|exact F.lt|assumption))) (by rw[Jp];rfl)) ?_);rw[hw2];refine(fun hch=>⟨Zk 0,⟨xs,kl,hh.key_upd hk1 hk2 hch,hh.kOut⟩,.of_ch hch fun w hw=>by rw[Zfx.1 hw];exact⟨_,hk3,rfl⟩⟩) (F.ch hn (by simp only[Qa]) (fun f' s' h=>?_));simp only[Qb,Qa,F.lt,Y.ltK,Zfc h,false_and,if_false,lk]
theorem Q41:Qam 34 Xx:=by
 rintro H h S N c dv ⟨xs,kl,hh⟩ ok hN hc;refine Y2 Tryz.func34 rfl ?_;intro n K hn F;have sdv:=Ql.scalar hc.data;obtain⟨bs,clk,hm,hb⟩:=hh.lmap;have A:=F.at_ hn hh.cell;have B:=F.at_ hn hm;have lkl:=fun g hg=>Yt (g:=g) (mf:=h.mf) (ms:=h.ms) (l:=xs) (bs:=bs) (clk:=clk) hg c.a;have bad:∀(K2:Qg) (e:Int),Xx S c=(S,Zl e)->Ch H K2 []->Y4 (Q7 e) (Xx S c).2/\Xh H K2 h (Xx S c).1/\Qa8 H K2:=by intro K2 e he hch;rw[he];exact⟨Zk e,⟨xs,kl,hh.ch hch,hh.kOut⟩,.of_ch0 hch⟩
 have hw:=hh.lines▸Y5 xs c.a;simp only[wA,↓Qc,simprocAttr,Tryz.ntmps34,ta,new,Qb,Qa,and_false,false_and,and_true,true_and,and_self,eq_self,Zfg,Zhc,wB,F.own,F.lt,sdv,A.get,A.ltK,B.get,B.ltK,Jn,Jr,Jo,J8,J0,Zhd,Zff,Qf,A.ne,B.ne,↓lkl];refine W.opsK (by kernel_rfl) ?_;cases hx:Kg xs c.a with
 |none=>
  rw[hx] at hw;simp only[wA,↓Qc,simprocAttr,Qf7 Tryz.underlying64];refine W.pcall (Zz 6) rfl rfl rfl ?_;rintro _ rfl;simp only[wA,↓Qc,simprocAttr,Q7,ta,new,Qb,Qa,and_false,false_and,and_true,true_and,and_self,eq_self,Zfg,Zhc,F.lt,splice,wZ];exact W.done (Z2.ret (Q1 rfl rfl (Qm (by first|exact F.lt|assumption|(simp only[Qa];first|exact F.lt|assumption))) (by rw[Jp];rfl)) (bad _ 6 (by rw[Xx,hw];rfl) (F.ch hn (by first|rfl|simp only[Qa]) (fun f' s' h=>by first|rfl|simp only[Qb,Qa,F.lt,Zfc h,false_and,if_false,AM.lk, *,-hn]))))
 |some x=>
  rw[hx] at hw;have hxm:=(Yk hx).1;obtain⟨l,bs1,clk1,hL⟩:=hh.line x hxm;have X:=F.at_ hn hL.cells;obtain⟨hk1,hk2,hk3⟩:=hh.keyAt hxm;have Y:=F.at_ hn hk3;generalize hk:S.keyOf x.line=k at*;have hw2:Xx S c=if !k.loaded then(S,Zl 200) else({S with keys:=S.keys.set x.line.key {k with loaded:=false}},Zl 0):=by rw[Xx,hw];simp only[Ze4,hk]
  simp only[wA,↓Qc,simprocAttr,Qdl Tryz.underlying64,ta,new,Qb,Qa,and_false,false_and,and_true,true_and,and_self,eq_self,Zfg,Zhc,wZ,F.lt,A.get,A.ltK,B.get,B.ltK,Jn,Jr,Jo,J8,J0,Zhd,Zff,Qf,X.get,X.ne,Y.get,Y.ne];refine W.ite (fun h1=>?_) (fun h1=>?_)
  . rw[h1] at hw2;simp only[wA,↓Qc,simprocAttr];refine W.pcall (Zz 200) rfl rfl rfl ?_;rintro _ rfl;simp only[wA,↓Qc,simprocAttr,Q7,ta,new,Qb,Qa,and_false,false_and,and_true,true_and,and_self,eq_self,Zfg,Zhc,F.lt,splice,wZ];exact W.done (Z2.ret (Q1 rfl rfl (Qm (by first|exact F.lt|assumption|(simp only[Qa];first|exact F.lt|assumption))) (by rw[Jp];rfl)) (bad _ 200 hw2 (F.ch hn (by first|rfl|simp only[Qa]) (fun f' s' h=>by first|rfl|simp only[Qb,Qa,F.lt,Zfc h,false_and,if_false,AM.lk, *,-hn]))))
  . rw[h1] at hw2;have yn:¬n=x.loc.kf:=fun e=>Y.ne e.symm;simp only[wA,↓Qc,simprocAttr,ta,new,Qb,Qa,and_false,false_and,and_true,true_and,and_self,eq_self,Zfg,Zhc,wB,F.lt,A.get,A.ltK,B.get,B.ltK,Jn,Jr,Jo,J8,J0,Zhd,Zff,Qf,X.get,X.ne,Y.get,Y.ne,Y.ltK,yn];refine W.done (Z2.ret (Q1 rfl rfl (Qm (by first|exact F.lt|assumption|(simp only[Qa];first|exact F.lt|assumption))) (by rw[Jp];rfl)) ?_);rw[hw2];refine(fun hch=>⟨Zk 0,⟨xs,kl,hh.key_upd hk1 hk2 hch,hh.kOut⟩,.of_ch hch fun w hw=>by rw[Zfx.1 hw];exact⟨_,hk3,rfl⟩⟩) (F.ch hn (by simp only[Qa]) (fun f' s' h=>?_));simp only[Qb,Qa,F.lt,Y.ltK,Zfc h,false_and,if_false,lk]
theorem Q5e:Qam 36 Bz:=by
 rintro H h S N c dv ⟨xs,kl,hh⟩ ok hN hc;refine Y2 Tryz.func36 rfl ?_;intro n K hn F;have sdv:=Ql.scalar hc.data;obtain⟨bs,clk,hm,hb⟩:=hh.lmap;have A:=F.at_ hn hh.cell;have B:=F.at_ hn hm;have lkl:=fun g hg=>Yt (g:=g) (mf:=h.mf) (ms:=h.ms) (l:=xs) (bs:=bs) (clk:=clk) hg c.a;have bad:∀(K2:Qg) (e:Int),Bz S c=(S,Zl e)->Ch H K2 []->Y4 (Q7 e) (Bz S c).2/\Xh H K2 h (Bz S c).1/\Qa8 H K2:=by intro K2 e he hch;rw[he];exact⟨Zk e,⟨xs,kl,hh.ch hch,hh.kOut⟩,.of_ch0 hch⟩
 have hw:=hh.lines▸Y5 xs c.a;simp only[wA,↓Qc,simprocAttr,Tryz.ntmps36,ta,new,Qb,Qa,and_false,false_and,and_true,true_and,and_self,eq_self,Zfg,Zhc,wB,F.own,F.lt,sdv,A.get,A.ltK,B.get,B.ltK,Jn,Jr,Jo,J8,J0,Zhd,Zff,Qf,A.ne,B.ne,↓lkl];refine W.opsK (by kernel_rfl) ?_;cases hx:Kg xs c.a with
 |none=>
  rw[hx] at hw;simp only[wA,↓Qc,simprocAttr,Qf7 Tryz.underlying64];refine W.pcall (Zz 6) rfl rfl rfl ?_;rintro _ rfl;simp only[wA,↓Qc,simprocAttr,Q7,ta,new,Qb,Qa,and_false,false_and,and_true,true_and,and_self,eq_self,Zfg,Zhc,F.lt,splice,wZ];exact W.done (Z2.ret (Q1 rfl rfl (Qm (by first|exact F.lt|assumption|(simp only[Qa];first|exact F.lt|assumption))) (by rw[Jp];rfl)) (bad _ 6 (by rw[Bz,hw];rfl) (F.ch hn (by first|rfl|simp only[Qa]) (fun f' s' h=>by first|rfl|simp only[Qb,Qa,F.lt,Zfc h,false_and,if_false,AM.lk, *,-hn]))))
 |some x=>
  rw[hx] at hw;have hxm:=(Yk hx).1;obtain⟨l,bs1,clk1,hL⟩:=hh.line x hxm;have X:=F.at_ hn hL.cells;simp only[wA,↓Qc,simprocAttr,Qdl Tryz.underlying64];refine W.call (Qr2 _ x.loc x.line.snap x.line.owner x.line.prev l (by simp only[Qb,Qa,F.lt,X.ne,false_and,if_false];exact X.get)) rfl rfl rfl rfl rfl ?_;rintro _ J ⟨rfl,cj⟩;have lj:n<J.length:=cj.lt (by simp only[Qa];exact F.lt);have lowj:∀f s,f<n->Qd J f s=Qd H f s:=fun f s h=>by rw[cj.get f s (by simp only[Qa];have:=F.lt;omega)];simp only[Qb,Qa,F.lt,Zfc h,false_and,if_false,lk];exact F.low f s h
  have oj:=fun s=>cj.own (s:=s) (f:=n) (by simp only[Qa];exact F.lt) (by simp);simp only[wA,↓Qc,simprocAttr];refine W.pcall (Zz _) rfl rfl rfl ?_;rintro _ rfl;simp only[wA,↓Qc,simprocAttr,Q7,ta,new,Qb,Qa,and_false,false_and,and_true,true_and,and_self,eq_self,Zfg,Zhc,lj,oj,F.lt,splice,wZ];exact W.done (Z2.ret (Q1 rfl rfl (Qm (by first|exact F.lt|assumption|(simp only[Qa];first|exact F.lt|assumption))) (by rw[Jp];rfl)) (bad _ _ (by rw[Bz,hw];rfl) (Ch.fin hn lowj lj (Ch.refl J))))
end Go.Proofs.YtmapmgfiamfocaaGreat
namespace Go.Proofs.YtmapmgfiamfocaaGreat
open Go.AM Go.Mod
attribute [local irreducible] U W Zd
theorem Q5x(H:Qg)(nf ns:Nat):CR Tryz.prog Qv 61 [.map nf ns] H fun v H' =>v= .func (.func 81) [] [.ptr H.length 1 0]/\Qd H' H.length 1=some (.cells [.map nf ns])/\Ch H H' []:=by refine Y2 Tryz.func61 rfl ?_;intro n K hn F;simp only[wA,↓Qc,simprocAttr,Tryz.ntmps61,ta,new,Qb,Qa,and_false,false_and,and_true,true_and,and_self,eq_self,Zfg,Zhc,wZ,F.own,F.lt];refine W.done (Z2.ret rfl ?_);rw[Ym (by simp only[Zhk,Zhl,V.refs,Zv];simp)];refine⟨by rw[<-hn];rfl,by rw[<-hn];exact Qm F.lt,by simp only[Qa];have:=F.len;omega,fun f' s' h=>?_⟩;rw[Q8 F.lt (by omega),F.low f' s' (by omega)];rfl
theorem Qi0:∀l:List Ent,Qhw (Kc l)=some (ids (Jf l))
 |[]=>rfl
 |p::l=>by
  have:=Qi0 l;simp only[Kc,ids,Jf,Zfn,Zfp] at this⊢;simp only[Qhw,this]
theorem all_h:Qam 35 Qwn:=by
 rintro H h S N c dv ⟨xs,kl,hh⟩ ok hN hc;refine Y2 Tryz.func35 rfl ?_;intro n K hn F;have sdv:=Ql.scalar hc.data;obtain⟨bs,clk,hm,hb⟩:=hh.lmap;have A:=F.at_ hn hh.cell;have B:=F.at_ hn hm;simp only[wA,↓Qc,simprocAttr,Tryz.ntmps35,ta,new,Qb,Qa,and_false,false_and,and_true,true_and,and_self,eq_self,Zfg,Zhc,wB,A.get,A.ltK,B.get,B.ltK,Jn,Jr,Jo,J8,J0,Zhd,Zff,Qf,A.ne,F.own,F.lt,Qf,sdv];refine W.call (Q5x _ h.mf h.ms) rfl rfl rfl rfl rfl ?_;rintro _ J ⟨rfl,g1,cj⟩;generalize hq:List.length _=q at g1;have lj:n<J.length:=cj.lt (by simp only[Qa];exact F.lt);have lowj:∀f s,f<n->Qd J f s=Qd H f s:=fun f s h=>by rw[cj.get f s (by simp only[Qa];have:=F.lt;omega)];simp only[Qb,Qa,F.lt,Zfc h,false_and,if_false,lk];exact F.low f s h
 have oj:=fun s=>cj.own (s:=s) (f:=n) (by simp only[Qa];exact F.lt) (by simp);have bj:Qd J h.mf h.ms=_:=(lowj _ _ B.lt).trans hm;have ps:Qaq 81 n (some 10) (Qd J) [.func (.func 81) [] [.ptr q 1 0]]=some (Qai ((sortZ (ids S.lines)).map (.int .i64)),none):=by
  simp only[Qaq,if_true,g1,bj,Qi0,<-hh.lines];have l0:=ok.last0;have l1:=ok.last1;have sh:∀x∈ids S.lines,-9223372036854775808<=x/\x<9223372036854775808:=fun x hx=>by obtain⟨p,hp,rfl⟩:=Zfm.1 hx;have:=ok.id0 p hp;have:=ok.id1 p hp;omega
  have cnt:(ids S.lines).length<=1048576:=by have:=ok.cnt;simp only[ids,Zgu];omega
  rw[if_pos ⟨ok.uniq,hb.uniq,hb.lt,sh,cnt⟩]
 simp only[wA,↓Qc,simprocAttr,hq];refine W.prim (g:=Qaq 81) rfl ps ?_;have sl:=Qmy ((sortZ (ids S.lines)).map (.int .i64));have scl:=Ql.scalar sl;have cl:=Ql.cells sl;generalize Qai ((sortZ (ids S.lines)).map (.int .i64))=sv at*;simp only[wA,↓Qc,simprocAttr,ta,new,Qb,Qa,and_false,false_and,and_true,true_and,and_self,eq_self,Zfg,Zhc,wB,lj,oj,F.lt,cl,scl];refine W.done (Z2.ret (Q1 rfl rfl (Qm (by first|exact F.lt|assumption|(simp only[Qa];first|exact F.lt|assumption))) (by rw[Jp];rfl)) ⟨⟨.nS,.nS,sv,rfl,Qx.nil,Ql.nil,?_⟩,⟨xs,kl,hh.ch (Ch.fin hn lowj lj (Ch.refl J)),hh.kOut⟩,.of_ch0 (Ch.fin hn lowj lj (Ch.refl J))⟩);unfold Y0 Jm;simpa [Qwn] using sl
theorem W.primw{P:Program}{Qv:Pol}{L:Yu->Qas}{fn fr:Nat}{t:List V}{H:Qg}{d:Option Nat}{k k' :List It}{Q:Ex->List V->Qg->Prop}{f:FuncId}{args:List V}{g:Nat->Option Nat->Get->List V->Option (V×Option (Nat×Nat×O))}{v:V}{w:Nat×Nat×O}
 (hp:Qv.prim f=some g)(hg:g fr d (Qd H) args=some (v,some w))(h2:W (U P Qv (Zx P Qv) L fn fr k .normal (Z5 t d v) (Qs H w.1 w.2.1 w.2.2)) Q):W (UC P Qv (Zx P Qv) L fn fr (Zn Qv (Zx P Qv) fn fr d f args H) d k k' t) Q:=by
 have e:Zn Qv (Zx P Qv) fn fr d f args H=some (.ret v,Qs H w.1 w.2.1 w.2.2):=by simp only[Zn,hp,hg,Ze4];rfl
 rw[e];exact h2
theorem Q0q(H:Qg)(nf ns:Nat)(es:List (V×V))(bs:List Nat)(clk:Nat)(hg:Qd H nf ns=some (.map es bs clk)):CR Tryz.prog Qv 78 [.map nf ns] H fun v H' =>v= .map H.length 7/\Qd H' H.length 7=some (.map es bs clk)/\Ch H H' []:=by
 refine Y2 Tryz.func78 rfl ?_;intro n K hn F;have A:=F.at_ hn hg;have z:zer Tryz.prog 69=some (.map none):=by kernel_rfl
 simp only[wA,↓Qc,simprocAttr,Tryz.ntmps78,ta,new,Qb,Qa,and_false,false_and,and_true,true_and,and_self,eq_self,Zfg,Zhc,wZ,F.own,F.lt,bn_mp1 Tryz.underlying69,Tryz.underlying69];refine W.primw (g:=Qd1) rfl (v:= .face 69 (.map n 7)) (w:=(n,7,.map es bs clk)) ?_ ?_
 . simp only[Qd1,F.own,A.get]
 . simp only[wA,↓Qc,simprocAttr,Tryz.underlying69,z];refine W.done (Z2.ret rfl ?_);rw[Ym (by simp only[Zhk,Zhl,V.refs];simp)];refine⟨by rw[<-hn];rfl,by rw[<-hn];exact Qm F.lt,by simp only[Qa];have:=F.len;omega,fun f' s' h=>?_⟩;rw[Q8 F.lt (by omega),F.low f' s' (by omega)];rfl
end Go.Proofs.YtmapmgfiamfocaaGreat
namespace Go.Proofs.YtmapmgfiamfocaaGreat
open Go.AM Go.Mod
attribute [local irreducible] U W Zd
theorem Qja:∀(l:List Ob),(∀o∈l,o.data.scalar=true)->(obs l).all V.scalar=true
 |[],_=>rfl
 |o::l,h=>by
  rw[Qhh];simp only[Zht,h o (by simp),Qja l fun x hx=>h x (Zfj _ hx)];rfl
theorem Qfa.scalar{l:List Ob}{m:List Bw}(h:Qfa l m):∀o∈l,o.data.scalar=true:=by
 intro o ho;obtain⟨i,hi,rfl⟩:=List.getElem_of_mem ho;have hm:i<m.length:=by rw[<-h.len];exact hi
 exact Ql.scalar (h.get i _ _ (Ze3 hi) (Ze3 hm)).2.2
section
variable {a : Loc} {sn : Bool} {ow pr : Int} {l : List Ob} {m : List Bw} {f s : Nat}
unseal Zd in
theorem Q1r(h:Qfa l m):(Zd a sn ow pr l).all V.scalar=true:=by simp only[Zd,Zht,Qja l h.scalar];rfl
unseal Zd in
theorem lc_at{f s f' s' nf ns kf ks:Nat}:Zd ⟨f,s,nf,ns,kf,ks⟩ sn ow pr l=Zd ⟨f',s',nf,ns,kf,ks⟩ sn ow pr l:=rfl
theorem Q5q(h:Qfa l m):(V.agg (Zd a sn ow pr l)).cells=some (Zd a sn ow pr l):=by rw[Qlj,if_pos (Q1r h)]
theorem Q6m(h:l.length=16):Zf Tryz.prog 74 (Zd a sn ow pr l) 0=some (.agg (Zd a sn ow pr l)):=by rw[rd74,if_pos (by rw[By];omega),Zhm,Zhi (by rw[By];omega)]
theorem Q7a(h:l.length=16){z:List V}(hz:z.length=53):stO 53 f s 0 (Zd a sn ow pr l) (some (.cells z))=some (.val .bad (some (f,s,.cells (Zd a sn ow pr l)))):=by rw[B8,if_pos ⟨by rw[By];omega,by omega⟩];unfold splice;rw[Zhg,Zhh,Zfu (by rw[By];omega),Zf2]
unseal Zd in
theorem Qvo{nf ns:Nat}:stO 1 f s 4 [.map nf ns] (some (.cells (Zd a sn ow pr l)))=some (.val .bad (some (f,s,.cells (Zd {a with nf:=nf,ns:=ns} sn ow pr l)))):=by rw[B8,if_pos ⟨rfl,by rw[By];omega⟩];rfl
end
theorem Qs0(H:Qg)(a:Loc)(L:Qe)(ok:Q5 L)(l:List Ob)(bs:List Nat)(clk:Nat)(hL:Xi H a L l bs clk):
 CR Tryz.prog Qv 59 [.ptr a.f a.s 0] H fun v H' =>v= .ptr H.length 3 0/\H.length+1<H'.length/\Yn H' ⟨H.length,3,H.length+1,7,a.kf,a.ks⟩ L/\Ch H H' []:=by
 refine Y2 Tryz.func59 rfl ?_;intro n K hn F;have A:=F.at_ hn hL.cells;have B:=F.at_ hn hL.names;have l16:l.length=16:=by rw[hL.obs.len];exact ok.n16
 have zl:∀z,zeroCells Tryz.prog 74=some z->z.length=53:=by intro z hz;rw[zc74] at hz;cases hz;rfl
 obtain⟨z,hz⟩:∃z,zeroCells Tryz.prog 74=some z:=⟨_,zc74⟩;simp only[wA,↓Qc,simprocAttr,Tryz.ntmps59,hz,sz74,new,Qb,Qa,and_false,false_and,and_true,true_and,and_self,eq_self,Zfg,Zhc,wZ,A.get,A.ltK,B.get,B.ltK,Jn,Jr,Jo,J8,J0,Zhd,Zff,Qf,F.own,F.lt,A.ne,Q6m l16,Q5q hL.obs,Q7a l16 (zl z hz)];simp only[wA,↓Qc,simprocAttr,ta,new,Qb,Qa,and_false,false_and,and_true,true_and,and_self,eq_self,Zfg,Zhc,wZ,A.get,A.ltK,B.get,B.ltK,Jn,Jr,Jo,J8,J0,Zhd,Zff,Qf,F.lt,A.ne];refine W.call (Q0q _ a.nf a.ns _ _ _ (by simp only[Qb,Qa,F.lt,B.ne,false_and,if_false];exact B.get)) rfl rfl rfl rfl rfl ?_;rintro _ J ⟨rfl,g7,cj⟩;generalize hq:List.length _=q at g7;have hq1:q=n+1:=by rw[<-hq];simp only[Qa];exact F.len
 have lj:n<J.length:=cj.lt (by simp only[Qa];exact F.lt);have lq:q<J.length:=Q9 g7;have lowj:∀f s,f<n->Qd J f s=Qd H f s:=fun f s h=>by rw[cj.get f s (by simp only[Qa];have:=F.lt;omega)];simp only[Qb,Qa,F.lt,Zfc h,false_and,if_false,lk];exact F.low f s h
 have j3:Qd J n 3=some (.cells (Zd a L.snap L.owner L.prev l)):=(cj.own (by simp only[Qa];exact F.lt) (by simp)).trans (Qm (by simp only[Qa];exact F.lt));have aj:Qd J a.f a.s=_:=(lowj _ _ A.lt).trans hL.cells;clear cj;simp only[wA,↓Qc,simprocAttr,hq,ta,new,Qb,Qa,and_false,false_and,and_true,true_and,and_self,eq_self,Zfg,Zhc,wZ,lj,j3,Qvo (a:=a) (sn:=L.snap) (ow:=L.owner) (pr:=L.prev) (l:=l) (f:=n) (s:=3) (nf:=q) (ns:=7)];refine W.ul ?_;refine W.loop (fun(i:Nat) t H1=>Bq [0,3,14] t 0=Q4g (.ptr a.f a.s 0) (.ptr n 3 0) (.int .i64 i)/\i<=16/\H1.length=J.length/\(∀f s,¬(f=n/\s=3)->Qd H1 f s=Qd J f s)/\
  ∃l1,Qfa l1 L.objs/\Qd H1 n 3=some (.cells (Zd {a with nf:=q,ns:=7} L.snap L.owner L.prev l1))) (fun i=>16-i) ?_ 0 ⟨rfl,by omega,by simp only[Qa],fun f s h=>by rw[Ks lj h],l,hL.obs,Qm lj⟩ rfl
 rintro i t H1 ⟨ht,hi,hlen,hoth,l1,ho1,h3⟩;have l116:l1.length=16:=by rw[ho1.len];exact ok.n16
 refine⟨_,_,Bo (kt:=[0,3,14]) rfl,?_⟩;rw[ht];have n1:n<H1.length:=by omega
 have a1:Qd H1 a.f a.s=_:=(hoth a.f a.s (fun e=>A.ne e.1)).trans aj;simp only[Q4g];by_cases h:i<16
 . have c1:decide ((i:Int)<16)=true:=Zig (by omega);have w1:(IntKind.i64).wrap ((i:Int)+1)=((i+1:Nat):Int):=by rw[wrap_i64]<;>omega
   obtain⟨o,ho,hk,hlk,hd⟩:=hL.obs.at_ (ok.at_ (i:=(i:Int)) (by omega) (by omega));have hi1:i<l1.length:=by omega
   have ho2:l1[(i:Int).toNat]?=some l1[i]:=Ze3 hi1;have hmi:=ok.at_ (i:=(i:Int)) (by omega) (by omega);simp only[wA,↓Qc,simprocAttr,c1,ta,new,Qb,Qa,and_false,false_and,and_true,true_and,and_self,eq_self,Zfg,Zhc,wZ,A.get,A.ltK,B.get,B.ltK,Jn,Jr,Jo,J8,J0,Zhd,Zff,Qf,n1,a1,A.ne,Qcb (show(0:Int)<=(i:Int) by omega) (show(i:Int)<16 by omega),Qgc ho];refine W.lcall (Q24 o.data _ hd (by have:=ok.dat i;omega)) rfl rfl rfl rfl (Qt (hd.frz _) rfl) ?_;intro r hr;have cr:=Ql.cells hr;simp only[wA,↓Qc,simprocAttr,ta,new,Qb,Qa,and_false,false_and,and_true,true_and,and_self,eq_self,Zfg,Zhc,wZ,A.get,A.ltK,B.get,B.ltK,Jn,Jr,Jo,J8,J0,Zhd,Zff,Qf,n1,h3,Qcb (show(0:Int)<=(i:Int) by omega) (show(i:Int)<16 by omega),cr,Qto ho2,w1];refine W.done ⟨i+1,⟨rfl,by omega,by simp only[Qa];exact hlen,fun f s h=>by rw[Ks n1 h,hoth f s h],l1.set i {l1[i] with data:=r},?_,Qm n1⟩,by omega⟩;have hh:=ho1.get i _ _ ho2 hmi;have Qs:=ho1.set i (o:={l1[i] with data:=r}) (p:=L.ob i) ⟨hh.1,hh.2.1,hr⟩;have e:L.objs.set i (L.ob i)=L.objs:=by obtain⟨hl,he⟩:=Zf0.1 hmi;rw[<-he];exact List.set_getElem_self hl
   rwa[e] at Qs
 . have c1:decide ((i:Int)<16)=false:=Zih (by omega);simp only[wA,↓Qc,simprocAttr,c1];refine W.done ?_;simp only[wA,↓Qc,simprocAttr];refine W.done (Z2.ret rfl ?_);rw[Ym (by simp only[Zhk,Zhl,V.refs];simp)];have hJ:q<H1.length:=by omega
   refine⟨by rw[<-hn];rfl,by omega,⟨l1,bs,clk,ho1,?_,?_,hL.born⟩,by omega,fun f s hf=>?_⟩
   . rw[<-hn,<-hq1,lc_at (f:=n) (s:=3) (f' :=a.f) (s' :=a.s)];exact h3
   . rw[<-hn,<-hq1,hoth q 7 (fun e=>by omega)];exact g7
   . rw[hoth f s (fun e=>by omega),lowj f s (by omega)];rfl
end Go.Proofs.YtmapmgfiamfocaaGreat
namespace Go.Proofs.YtmapmgfiamfocaaGreat
open Go.AM
attribute [local irreducible] U W
theorem Qw1(H:Qg)(f s nf ns:Nat)(last:Int)(es:List (V×V))(bs:List Nat)(clk:Nat)(lp:V)(hh:Qd H f s=some (.cells [.int .i64 last,.map nf ns]))(hm:Qd H nf ns=some (.map es bs clk))
 (h0:0<=last)(h1:last<=1000000)(hk:findKey (.int .i64 (last+1)) es 0=some none):
 CR Tryz.prog Qv 58 [.ptr f s 0,lp] H fun v H' =>v= .int .i64 (last+1)/\Ch H H' [(nf,ns,.map (es++[(.int .i64 (last+1),lp)]) (bs++[clk]) (clk+1)),(f,s,.cells [.int .i64 (last+1),.map nf ns])]:=by
 refine Y2 Tryz.func58 rfl ?_;intro n K hn F;have hf:=Q9 hh;have hnf:=Q9 hm;have hf' :f<n:=by omega
 have hnf' :nf<n:=by omega
 have kf:f<K.length:=by have:=F.len;omega
 have knf:nf<K.length:=by have:=F.len;omega
 have gh:=(F.low f s hf').trans hh;have gm:=(F.low nf ns hnf').trans hm;have ne1:=Ya hh hm;have ne2:=B7 hh hm;have w1:(IntKind.i64).wrap (last+1)=last+1:=by rw[wrap_i64]<;>omega
 have up:∀g:Get,g nf ns=some (.map es bs clk)->updateV Tryz.prog g 43 (.map nf ns) (.int .i64 (last+1)) lp=_:=fun g hg=>Qpp Tryz.underlying43 Tryz.underlying3 hg rfl hk;simp only[wA,↓Qc,simprocAttr,Tryz.ntmps58,ta,new,Qb,Qa,and_false,false_and,and_true,true_and,and_self,eq_self,Zfg,Zhc,wZ,splice,gh,gm,kf,knf,ne1,ne2,w1,up];refine W.opsK (by kernel_rfl) ?_;simp only[wA,↓Qc,simprocAttr,ta,new,Qb,Qa,and_false,false_and,and_true,true_and,and_self,eq_self,Zfg,Zhc,wZ,splice,gh,gm,kf,knf,ne1,ne2,w1,up];exact W.done (Z2.ret rfl ⟨rfl,(F.ch hn (by first|rfl|simp only[Qa]) (fun f' s' h=>by first|rfl|simp only[Qb,Qa,F.lt,Zfc h,false_and,if_false,AM.lk, *,-hn]))⟩)
end Go.Proofs.YtmapmgfiamfocaaGreat
namespace Go.Proofs.YtmapmgfiamfocaaGreat
open Go.AM Go.Mod
attribute [local irreducible] U W Zd
theorem Qv4(xs ys:List Ent):Jf (xs++ys)=Jf xs++Jf ys:=by simp[Jf]
theorem Qnv(xs ys:List Ent):Kc (xs++ys)=Kc xs++Kc ys:=by simp[Kc]
theorem Qq3{p:Nat->Nat->Bool}:∀(es:List (V×V)) (k:V) (f s o:Nat),p f s=true->Qfe p (es++[(k,.ptr f s o)])=true
 |[],k,f,s,o,h=>by simp[Qfe,V.refs,h]
 |e::es,k,f,s,o,h=>by
  obtain⟨a,b⟩:=e;simp only[Zgh,Qfe,Qq3 es k f s o h,Bool.or_true]
theorem Qjs{n:Nat}{v:V}{K:Qg}{f s:Nat}{es:List (V×V)}{k:V}{f' s' o:Nat}{bs:List Nat}{clk:Nat}(hf:f<n)(h:Qd K f s=some (.map (es++[(k,.ptr f' s' o)]) bs clk))(hn:n<=f'):Yb n v K=K:=
 Qoz hf h (Qq3 es k f' s' o (by simpa using hn))
section
variable {H H' : Qg} {h : Hs} {S : MSt} {xs : List Ent} {kl : List (Nat × Nat)}
theorem Zo.grow(hh:Zo H h S xs kl)(hlow:∀f s,f<H.length->¬(f=h.f/\s=h.s)->¬(f=h.mf/\s=h.ms)->Qd H' f s=Qd H f s)(hc:Qd H' h.f h.s=some (.cells [.int .i64 (S.last+1),.map h.mf h.ms])){x:Ent}
 (hm:∃bs clk,Qd H' h.mf h.ms=some (.map (Kc (xs++[x])) bs clk)/\Qft (xs.length+1) bs clk)(hl:Yn H' x.loc x.line)(ha:H.length<=x.loc.f)(hn:H.length<=x.loc.nf)(kn:Option (Qpf×Nat×Nat))
 (hkn:∀y,kn=some y->H.length<=y.2.1/\Qd H' y.2.1 y.2.2=some (.cells [.str y.1.pass,.bool y.1.loaded]))(hk:(kl++(kn.map (·.2)).toList)[x.line.key]?=some (x.loc.kf,x.loc.ks)):
 Zo H' h ⟨S.last+1,S.keys++(kn.map (·.1)).toList,S.lines++[(x.id,x.line)]⟩ (xs++[x]) (kl++(kn.map (·.2)).toList):=by
 obtain⟨bs,clk,h1,h2⟩:=hm;obtain⟨bs0,clk0,h3,h4⟩:=hh.lmap;have kold:∀(i:Nat) (q:Nat×Nat),kl[i]?=some q->∃k,S.keys[i]?=some k/\Qd H' q.1 q.2=some (.cells [.str k.pass,.bool k.loaded]):=by intro i q hq;obtain⟨k,e1,e2⟩:=hh.keys i q hq;refine⟨k,e1,(hlow _ _ (Q9 e2) ?_ (Ya e2 h3)).trans e2⟩;rintro⟨e3,e4⟩;rw[e3,e4,hh.cell] at e2;cases e2
 refine⟨hc,⟨bs,clk,h1,by simpa using h2⟩,by rw[Qv4,<-hh.lines];rfl,fun y hy=>?_,fun y hy=>?_,fun i q hq=>?_,?_,?_,?_⟩
 . rcases Zfw.1 hy with hy|hy
   . have ly:=hh.line y hy;exact ly.same (hlow _ _ ly.lt.1 (fun e=>hh.d1 hy ⟨e.1.symm,e.2.symm⟩) (fun e=>hh.d3 hy ⟨e.1.symm,e.2.symm⟩)) (hlow _ _ ly.lt.2 (fun e=>hh.d2 hy ⟨e.1.symm,e.2.symm⟩) (fun e=>hh.d4 hy ⟨e.1.symm,e.2.symm⟩))
   . rw[Zfx.1 hy];exact hl
 . rcases Zfw.1 hy with hy|hy
   . have:=hh.key y hy;rw[Zfy (Yw this)];exact this
   . rw[Zfx.1 hy];exact hk
 . by_cases hi:i<kl.length
   . rw[Zfy hi] at hq;obtain⟨k,e1,e2⟩:=kold i q hq;exact⟨k,by rw[Zfy (by rw[<-hh.klen];exact hi)];exact e1,e2⟩
   . rw[Zfz (by omega)] at hq;cases kn with
     |none=>simp at hq
     |some y=>
      have hi0:i-kl.length=0:=by have:=Yw hq;simp at this;omega
      rw[hi0] at hq;simp at hq;subst hq;refine⟨y.1,?_,(hkn y rfl).2⟩;rw[Zfz (by rw[<-hh.klen];omega),<-hh.klen,hi0];rfl
 . cases kn<;>simp[hh.klen]
 . rw[Zg3];refine⟨hh.apart,by simp,fun a ha2 b hb=>?_⟩;rw[Zfx.1 hb];have la:=hh.line a ha2;exact⟨fun e=>by have:=la.lt.1;omega,fun e=>by have:=la.lt.2;omega⟩
 . rw[Zgx];refine⟨hh.kapart,by cases kn<;>simp,fun a ha2 b hb=>?_⟩;cases kn with
   |none=>simp at hb
   |some y=>
    simp at hb;subst hb;obtain⟨i,hi,e⟩:=List.getElem_of_mem ha2;obtain⟨k,_,e2⟩:=hh.keys i a (by rw[Ze3 hi,e]);have:=Q9 e2;have:=(hkn y rfl).1;rintro rfl;omega
theorem Zo.newKey(hh:Zo H h S xs kl){n:Nat}(ok:J1 S n):∀j,findKey (.int .i64 (S.last+1)) (Kc xs) j=some none:=by
 intro j;obtain⟨k,hk⟩:=Qev (S.last+1) xs j;rw[hk];have h1:=ok.fresh;rw[hh.lines,Y5] at h1;cases h2:Kg xs (S.last+1) with
 |none=>rfl
 |some x=>rw[h2] at h1;cases h1
end
unseal Zd in
theorem lc_new{n:Nat}{ow:Int}:([.bool false,.int .i64 ow,.int .i64 0,.ptr n 14 0,.map n 15,.int .u8 0,.int .i64 0,.nS,.int .u8 0,.int .i64 0,.nS,.int .u8 0,.int .i64 0,.nS,.int .u8 0,.int .i64 0,.nS,.int .u8 0,.int .i64 0,.nS,.int .u8 0,.int .i64 0,.nS,.int .u8 0,.int .i64 0,.nS,.int .u8 0,.int .i64 0,.nS,.int .u8 0,.int .i64 0,.nS,.int .u8 0,.int .i64 0,.nS,.int .u8 0,.int .i64 0,.nS,.int .u8 0,.int .i64 0,.nS,.int .u8 0,.int .i64 0,.nS,.int .u8 0,.int .i64 0,.nS,.int .u8 0,.int .i64 0,.nS,.int .u8 0,.int .i64 0,.nS]:List V)
 =Zd ⟨n,17,n,15,n,14⟩ false ow 0 (List.replicate 16 ⟨0,0,.nS⟩):=rfl
theorem set_h:Qam 27 Qng:=by
 rintro H h S N c dv ⟨xs,kl,hh⟩ ok hN hc;refine Y2 Tryz.func27 rfl ?_;intro n K hn F;have sdv:=Ql.scalar hc.data;obtain⟨bs,clk,hm,hb⟩:=hh.lmap;have A:=F.at_ hn hh.cell;have B:=F.at_ hn hm;simp only[wA,↓Qc,simprocAttr,Tryz.ntmps27,ta,new,Qb,Qa,and_false,false_and,and_true,true_and,and_self,eq_self,Zfg,Zhc,wB,F.own,F.lt,sdv,A.get,A.ltK,B.get,B.ltK,Jn,Jr,Jo,J8,J0,Zhd,Zff,Qf,A.ne,B.ne];refine W.ite (fun h1=>?_) (fun h1=>?_)
 . have h1' :64<c.text.length:=by have:=of_decide_eq_true h1;omega
   simp only[wA,↓Qc,simprocAttr];refine W.pcall (Zz 3) rfl rfl rfl ?_;rintro _ rfl;simp only[wA,↓Qc,simprocAttr,Q7,ta,new,Qb,Qa,and_false,false_and,and_true,true_and,and_self,eq_self,Zfg,Zhc,F.lt,splice,wZ];refine W.done (Z2.ret (Q1 rfl rfl (Qm (by first|exact F.lt|assumption|(simp only[Qa];first|exact F.lt|assumption))) (by rw[Jp];rfl)) ?_);rw[Qng,if_pos h1'];exact⟨Zk 3,⟨xs,kl,hh.ch (F.ch hn (by first|rfl|simp only[Qa]) (fun f' s' h=>by first|rfl|simp only[Qb,Qa,F.lt,Zfc h,false_and,if_false,AM.lk, *,-hn])),hh.kOut⟩,.of_ch0 (F.ch hn (by first|rfl|simp only[Qa]) (fun f' s' h=>by first|rfl|simp only[Qb,Qa,F.lt,Zfc h,false_and,if_false,AM.lk, *,-hn]))⟩
 . have h1' :¬64<c.text.length:=by have:=of_decide_eq_false h1;omega
   simp only[wA,↓Qc,simprocAttr,ta,new,Qb,Qa,and_false,false_and,and_true,true_and,and_self,eq_self,Zfg,Zhc,wB,F.own,F.lt,Tryz.underlying69];have hl0:=ok.last0;have hl1:=ok.last1;refine W.call (Qw1 _ h.f h.s h.mf h.ms S.last (Kc xs) bs clk _ (by simp only[Qb,Qa,F.lt,A.ne,false_and,if_false];exact A.get) (by simp only[Qb,Qa,F.lt,B.ne,false_and,if_false];exact B.get) hl0 (by omega) (hh.newKey ok 0)) rfl rfl rfl rfl rfl ?_;rintro _ J ⟨rfl,cj⟩;have lj:n<J.length:=cj.lt (by simp only[Qa];exact F.lt);have ow:∀x∈([(h.mf,h.ms,O.map (Kc xs++[(.int .i64 (S.last+1),.ptr n 17 0)]) (bs++[clk]) (clk+1)),(h.f,h.s,O.cells [.int .i64 (S.last+1),.map h.mf h.ms])]:List (Nat×Nat×O)),x.1<n:=by
    intro x hx;simp only[Zfi,Zgm,or_false] at hx;rcases hx with rfl|rfl
    . exact B.lt
    . exact A.lt
   have oj:=fun s=>cj.own (s:=s) (f:=n) (by simp only[Qa];exact F.lt) ow;have lowj:∀f s,f<n->¬(f=h.f/\s=h.s)->¬(f=h.mf/\s=h.ms)->Qd J f s=Qd H f s:=fun f s h1 h2 h3=>by rw[cj.get f s (by simp only[Qa];have:=F.lt;omega)];simp only[lk,h2,h3,if_false,Qb,Qa,F.lt,Zfc h1,false_and];exact F.low f s h1
   have jm:Qd J h.mf h.ms=some (.map (Kc xs++[(.int .i64 (S.last+1),.ptr n 17 0)]) (bs++[clk]) (clk+1)):=by rw[cj.get _ _ (by simp only[Qa];exact B.ltK)];simp only[lk,and_self,if_true]
   have jc:Qd J h.f h.s=some (.cells [.int .i64 (S.last+1),.map h.mf h.ms]):=by rw[cj.get _ _ (by simp only[Qa];exact A.ltK)];simp only[lk,Ya hh.cell hm,and_self,if_true,if_false]
   clear cj;simp only[wA,↓Qc,simprocAttr,ta,new,Qb,Qa,and_false,false_and,and_true,true_and,and_self,eq_self,Zfg,Zhc,wB,lj,oj,F.lt];refine W.done (Z2.ret (Q1 rfl rfl (Qm (by first|exact F.lt|assumption|(simp only[Qa];first|exact F.lt|assumption))) (by rw[Jp];rfl)) ?_);rw[Qjs (f:=h.mf) (s:=h.ms) B.lt (by simp only[Qb,Qa,lj,B.ne,false_and,if_false];exact jm) (Ze8 n)];have hs:Qng S c=(⟨S.last+1,S.keys++[⟨c.text,true⟩],S.lines++[(S.last+1,Bb (S.last+1) S.keys.length)]⟩,{Zl 0 with id:=S.last+1}):=by rw[Qng,if_neg h1']
   rw[hs];refine⟨⟨.nS,.nS,.nS,rfl,Qx.nil,Ql.nil,Y0.nil⟩,⟨xs++[⟨S.last+1,Bb (S.last+1) S.keys.length,⟨n,17,n,15,n,14⟩⟩],_,hh.grow (kn:=some (⟨c.text,true⟩,n,14)) (x:=⟨S.last+1,Bb (S.last+1) S.keys.length,⟨n,17,n,15,n,14⟩⟩) ?_ ?_ ?_ ?_ (by simp[hn]) (by simp[hn]) ?_ ?_,?_⟩,⟨by simp only[Qa];omega,fun f s o h1 h2=>?_⟩⟩
   . intro f s h1 h2 h3;have:¬f=n:=by omega
     simp only[Qb,Qa,lj,this,false_and,if_false];exact lowj f s (by omega) h2 h3
   . simp only[Qb,Qa,lj,A.ne,false_and,if_false];exact jc
   . refine⟨bs++[clk],clk+1,?_,hb.add⟩;simp only[Qb,Qa,lj,B.ne,false_and,if_false];rw[Qnv];exact jm
   . refine⟨List.replicate 16 ⟨0,0,.nS⟩,[],0,?_,?_,?_,?_⟩
     . refine⟨rfl,fun i o p h1 h2=>?_⟩;have e1:o=⟨0,0,.nS⟩:=List.eq_of_mem_replicate (Zgv h1);have e2:p=Qc2:=List.eq_of_mem_replicate (Zgv h2);rw[e1,e2];exact⟨rfl,rfl,Qx.nil⟩
     . simp only[Qb,Qa,lj,Nat.reduceEqDiff,and_false,and_self,if_false,if_true];rw[lc_new];rfl
     . simp only[Qb,Qa,lj,oj,F.lt,Nat.reduceEqDiff,and_false,and_self,if_false,if_true];rfl
     . exact⟨rfl,List.nodup_nil,by simp⟩
   . rintro y hy;cases hy;refine⟨by show H.length<=n;omega,?_⟩;simp only[Qb,Qa,lj,oj,F.lt,Nat.reduceEqDiff,and_false,and_self,if_false,if_true]
   . simp only[Ze4,Zhu,Bb];rw[<-hh.klen,Zfz (Ze8 _)];simp
   . intro q hq;rcases Zfw.1 hq with hq|hq
     . exact hh.kOut q hq
     . simp at hq;subst hq;exact .inr ⟨_,List.mem_append_right _ (Zfx.2 rfl),rfl,rfl⟩
   . have hf:=Q9 h1;have:¬f=n:=by omega
     simp only[Qb,Qa,lj,this,false_and,if_false];rw[lowj f s (by omega) (Ky h1 h2 hh.cell rfl) (Ky h1 h2 hm rfl)];exact h1
end Go.Proofs.YtmapmgfiamfocaaGreat
end
