/- This file holds in one the texts YO20, YO21, YO22, YO23; each says at its head what it proves. -/
import Derived.Test.YtmapmgfiamfocaaGreatT19
set_option linter.unusedSimpArgs false
set_option linter.unusedVariables false
section
set_option maxRecDepth 100000
namespace Go.Proofs.YtmapmgfiamfocaaGreat
open Go.AM Go.Mod
attribute [local irreducible] U W Zd
theorem Q1v{xs:List Ent}{i:Int}{x y:Ent}(h:Kg xs i=some x):Kg (xs++[y]) i=some x:=by
 induction xs with
 |nil=>cases h
 |cons z xs ih=>
  simp only[Zgh,Kg] at h⊢;split
  . rename_i e;rw[if_pos e] at h;exact h
  . rename_i e;rw[if_neg e] at h;exact ih h
theorem Q2u{xs:List Ent}(hu:xs.Pairwise fun x y=>x.id≠y.id){y:Ent}(h:∀x∈xs,x.id≠y.id):(xs++[y]).Pairwise fun x y=>x.id≠y.id:=by rw[Zg3];exact⟨hu,by simp,fun a ha b hb=>by rw[Zfx.1 hb];exact h a ha⟩
theorem Zo.idLe{H:Qg}{h:Hs}{S:MSt}{xs:List Ent}{kl:List (Nat×Nat)}(hh:Zo H h S xs kl){n:Nat}(ok:J1 S n):∀x∈xs,x.id≠S.last+1:=by intro x hx;have:=ok.id1 (x.id,x.line) (by rw[hh.lines];exact Zfm.2 ⟨x,hx,rfl⟩);simp only at this;omega
theorem Qlc{h:Hs}{n:Nat}{o o' :O}(h1:h.f<n)(h2:h.mf<n):∀x∈([(h.mf,h.ms,o),(h.f,h.s,o')]:List (Nat×Nat×O)),x.1<n:=by intro x hx;simp only[Zfi,Zgm,or_false] at hx;rcases hx with rfl|rfl<;>assumption
theorem snap_h:Qam 28 Qdf:=by
 rintro H h S N c dv ⟨xs,kl,hh⟩ ok hN hc;refine Y2 Tryz.func28 rfl ?_;intro n K hn F;have sdv:=Ql.scalar hc.data;obtain⟨bs,clk,hm,hb⟩:=hh.lmap;have A:=F.at_ hn hh.cell;have B:=F.at_ hn hm;have hl0:=ok.last0;have hl1:=ok.last1;have lkl:=fun g hg=>Yt (g:=g) (mf:=h.mf) (ms:=h.ms) (l:=xs) (bs:=bs) (clk:=clk) hg c.a;have bad:∀(K2:Qg) (e:Int),Qdf S c=(S,Zl e)->Ch H K2 []->Y4 (Q7 e) (Qdf S c).2/\Xh H K2 h (Qdf S c).1/\Qa8 H K2:=by intro K2 e he hch;rw[he];exact⟨Zk e,⟨xs,kl,hh.ch hch,hh.kOut⟩,.of_ch0 hch⟩
 have hw:=hh.lines▸Y5 xs c.a;simp only[wA,↓Qc,simprocAttr,Tryz.ntmps28,ta,new,Qb,Qa,and_false,false_and,and_true,true_and,and_self,eq_self,Zfg,Zhc,wB,F.own,F.lt,sdv,A.get,A.ltK,B.get,B.ltK,Jn,Jr,Jo,J8,J0,Zhd,Zff,Qf,A.ne,B.ne,↓lkl];refine W.opsK (by kernel_rfl) ?_;cases hx:Kg xs c.a with
 |none=>
  rw[hx] at hw;simp only[wA,↓Qc,simprocAttr,Qf7 Tryz.underlying64];refine W.pcall (Zz 6) rfl rfl rfl ?_;rintro _ rfl;simp only[wA,↓Qc,simprocAttr,Q7,ta,new,Qb,Qa,and_false,false_and,and_true,true_and,and_self,eq_self,Zfg,Zhc,F.lt,splice,wZ];exact W.done (Z2.ret (Q1 rfl rfl (Qm (by first|exact F.lt|assumption|(simp only[Qa];first|exact F.lt|assumption))) (by rw[Jp];rfl)) (bad _ 6 (by rw[Qdf,hw];rfl) (F.ch hn (by first|rfl|simp only[Qa]) (fun f' s' h=>by first|rfl|simp only[Qb,Qa,F.lt,Zfc h,false_and,if_false,AM.lk, *,-hn]))))
 |some x=>
  rw[hx] at hw;have hxm:=(Yk hx).1;obtain⟨l,bs1,clk1,hL⟩:=hh.line x hxm;have X:=F.at_ hn hL.cells;have Xn:=F.at_ hn hL.names;have hw2:Qdf S c=if x.line.snap then(S,Zl 202) else(⟨S.last+1,S.keys,putL (S.lines++[(S.last+1,{x.line with snap:=true})]) c.a {x.line with prev:=S.last+1}⟩,{Zl 0 with id:=S.last+1}):=by rw[Qdf,hw];simp only[Ze4]
  simp only[wA,↓Qc,simprocAttr,Qdl Tryz.underlying64,ta,new,Qb,Qa,and_false,false_and,and_true,true_and,and_self,eq_self,Zfg,Zhc,wZ,F.lt,X.get,X.ne,A.get,A.ltK,B.get,B.ltK,Jn,Jr,Jo,J8,J0,Zhd,Zff,Qf];refine W.ite (fun h1=>?_) (fun h1=>?_)
  . rw[h1] at hw2;simp only[wA,↓Qc,simprocAttr];refine W.pcall (Zz 202) rfl rfl rfl ?_;rintro _ rfl;simp only[wA,↓Qc,simprocAttr,Q7,ta,new,Qb,Qa,and_false,false_and,and_true,true_and,and_self,eq_self,Zfg,Zhc,F.lt,splice,wZ];exact W.done (Z2.ret (Q1 rfl rfl (Qm (by first|exact F.lt|assumption|(simp only[Qa];first|exact F.lt|assumption))) (by rw[Jp];rfl)) (bad _ 202 hw2 (F.ch hn (by first|rfl|simp only[Qa]) (fun f' s' h=>by first|rfl|simp only[Qb,Qa,F.lt,Zfc h,false_and,if_false,AM.lk, *,-hn]))))
  . rw[h1] at hw2;simp only[Ze7,if_false] at hw2;have okL:Q5 x.line:=ok.ok (x.id,x.line) (by rw[hh.lines];exact Zfm.2 ⟨x,hxm,rfl⟩);simp only[wA,↓Qc,simprocAttr];refine W.call (Qs0 _ x.loc x.line okL l bs1 clk1 (hL.low (by rw[<-hn];exact(fun f s h=>by simp only[Qb,Qa,F.lt,Zfc h,false_and,if_false];exact F.low f s h)))) rfl rfl rfl rfl rfl ?_;rintro _ J ⟨rfl,lq,⟨l2,bs2,clk2,hL2⟩,cj⟩;generalize hq:List.length (Qs _ _ _ _)=q at*;have hq1:q=n+1:=by rw[<-hq];simp only[Qa];exact F.len
    have lj:n<J.length:=by omega
    have lowj:∀f s,f<n->Qd J f s=Qd H f s:=fun f s h=>by rw[cj.get f s (by rw[hq];omega)];simp only[Qb,Qa,F.lt,Zfc h,false_and,if_false,lk];exact F.low f s h
    have oj:=fun s=>cj.own (s:=s) (f:=n) (by rw[hq];omega) (by simp);clear cj;have j2:=hL2.cells;have j2n:=hL2.names;simp only at j2 j2n;have q1:q<J.length:=by omega
    simp only[wA,↓Qc,simprocAttr,ta,new,Qb,Qa,and_false,false_and,and_true,true_and,and_self,eq_self,Zfg,Zhc,wZ,j2,q1,Qzq (a:=⟨q,3,q+1,7,x.loc.kf,x.loc.ks⟩) (sn:=x.line.snap) (ow:=x.line.owner) (pr:=x.line.prev) (l:=l2) (f:=q) (s:=3) (b:=true)];have qm:¬h.mf=q:=by have:=B.lt;omega
    have qc:¬h.f=q:=by have:=A.lt;omega
    refine W.call (Qw1 _ h.f h.s h.mf h.ms S.last (Kc xs) bs clk _ (by simp only[Qb,q1,qc,false_and,if_false];exact(lowj _ _ A.lt).trans hh.cell) (by simp only[Qb,q1,qm,false_and,if_false];exact(lowj _ _ B.lt).trans hm) hl0 (by omega) (hh.newKey ok 0)) rfl rfl rfl rfl rfl ?_;rintro _ J3 ⟨rfl,c3⟩;have l3:q<J3.length:=c3.lt (by simp only[Qa];exact q1);have ln3:n<J3.length:=by omega
    have o3:∀s,Qd J3 n s=Qd J n s:=fun s=>(c3.own (s:=s) (f:=n) (by simp only[Qa];exact lj) (Qlc A.lt B.lt)).trans (Q8 q1 (by omega));have low3:∀f s,f<n->¬(f=h.f/\s=h.s)->¬(f=h.mf/\s=h.ms)->Qd J3 f s=Qd H f s:=fun f s h1 h2 h3=>by rw[c3.get f s (by simp only[Qa];omega)];simp only[lk,h2,h3,if_false];rw[Q8 q1 (show¬f=q by omega)];exact lowj f s h1
    have jm:Qd J3 h.mf h.ms=some (.map (Kc xs++[(.int .i64 (S.last+1),.ptr q 3 0)]) (bs++[clk]) (clk+1)):=by rw[c3.get _ _ (by simp only[Qa];have:=B.lt;omega)];simp only[lk,and_self,if_true]
    have jc:Qd J3 h.f h.s=some (.cells [.int .i64 (S.last+1),.map h.mf h.ms]):=by rw[c3.get _ _ (by simp only[Qa];have:=A.lt;omega)];simp only[lk,Ya hh.cell hm,and_self,if_true,if_false]
    have jx:Qd J3 x.loc.f x.loc.s=_:=(low3 _ _ X.lt (fun e=>hh.d1 hxm ⟨e.1.symm,e.2.symm⟩) (fun e=>hh.d3 hxm ⟨e.1.symm,e.2.symm⟩)).trans hL.cells;have jq:Qd J3 q 3=_:=(c3.own (f:=q) (s:=3) (by simp only[Qa];exact q1) (Qlc (by have:=A.lt;omega) (by have:=B.lt;omega))).trans (Qm q1);have jqn:Qd J3 (q+1) 7=_:=(c3.own (f:=q+1) (s:=7) (by simp only[Qa];exact lq) (Qlc (by have:=A.lt;omega) (by have:=B.lt;omega))).trans ((Q8 q1 (by omega)).trans j2n);have lx3:x.loc.f<J3.length:=by have:=X.lt;omega
    have xn:¬n=x.loc.f:=fun e=>X.ne e.symm;have h3:Zo J3 h ⟨S.last+1,S.keys++((none:Option (Qpf×Nat×Nat)).map (·.1)).toList,S.lines++[(S.last+1,{x.line with snap:=true})]⟩ (xs++[⟨S.last+1,{x.line with snap:=true},⟨q,3,q+1,7,x.loc.kf,x.loc.ks⟩⟩]) (kl++((none:Option (Qpf×Nat×Nat)).map (·.2)).toList):=by refine hh.grow (kn:=none) (x:=⟨S.last+1,{x.line with snap:=true},⟨q,3,q+1,7,x.loc.kf,x.loc.ks⟩⟩) (fun f s h1=>low3 f s (by omega)) jc ⟨bs++[clk],clk+1,by rw[Qnv];exact jm,hb.add⟩ ⟨l2,bs2,clk2,hL2.obs,jq,jqn,hL2.born⟩ (by simp only;omega) (by simp only;omega) (by simp) ?_;simp only[Option.map_none,Option.toList_none,Zf2];exact hh.key x hxm
    simp only[Option.map_none,Option.toList_none,Zf2] at h3;have o34:Qd J3 n 4=_:=(o3 4).trans ((oj 4).trans (Qm (by simp only[Qa];exact F.lt)));have h16:∀y∈xs++[(⟨S.last+1,{x.line with snap:=true},⟨q,3,q+1,7,x.loc.kf,x.loc.ks⟩⟩:Ent)],y.line.objs.length=16:=by
     intro y hy;rcases Zfw.1 hy with hy|hy
     . exact(ok.ok (y.id,y.line) (by rw[hh.lines];exact Zfm.2 ⟨y,hy,rfl⟩)).n16
     . rw[Zfx.1 hy];exact okL.n16
    clear c3;simp only[wA,↓Qc,simprocAttr,ta,new,Qb,Qa,and_false,false_and,and_true,true_and,and_self,eq_self,Zfg,Zhc,wB,jx,lx3,xn,X.ne,Qnr (a:=x.loc) (sn:=x.line.snap) (ow:=x.line.owner) (pr:=x.line.prev) (l:=l) (f:=x.loc.f) (s:=x.loc.s) (n:=S.last+1),Jo,Zff,ln3,o3,oj,F.lt];refine W.done (Z2.ret (Q1 rfl rfl (Qm (by first|exact F.lt|assumption|(simp only[Qa];first|exact F.lt|assumption))) (by rw[Jp];rfl)) ?_);rw[Qjs (f:=h.mf) (s:=h.ms) B.lt (by
     simp only[Qb,Qa,ln3,lx3,B.ne,hh.d3 hxm,false_and,if_false];exact jm) (by omega)]
    rw[hw2];refine⟨⟨.nS,.nS,.nS,rfl,Qx.nil,Ql.nil,Y0.nil⟩,⟨_,_,(h3.aside (o:= .cells [.int .i64 0,.int .i64 (S.last+1),.nS,.nS,.int .i64 0,.int .u8 0,.int .i64 0,.int .i64 0,.str [],.nS]) o34 rfl h16).line_upd (Q2u (hh.uniq ok) (hh.idLe ok)) (Q1v hx) (L' :={x.line with prev:=S.last+1}) ⟨l,bs1,clk1,hL.obs,?_,?_,hL.born⟩ ⟨by simp only[Qa];exact Ze8 _,?_⟩ rfl,hh.kOut⟩,⟨by simp only[Qa];omega,fun f s o g1 g2=>?_⟩⟩
    . simp only[Qb,Qa,ln3,lx3,X.ne,and_self,if_true,false_and,if_false,h1]
    . simp only[Qb,Qa,ln3,lx3,Xn.ne,hL.ne2,false_and,if_false];exact(low3 _ _ Xn.lt (fun e=>hh.d2 hxm ⟨e.1.symm,e.2.symm⟩) (fun e=>hh.d4 hxm ⟨e.1.symm,e.2.symm⟩)).trans hL.names
    . intro f s hf n1 n2;simp only[Qb,Qa,ln3,lx3,n1,if_false]
    . have hf:=Q9 g1;have fn:¬f=n:=by omega
      have fx:=Ky g1 g2 hL.cells (Qen (by rw[hL.obs.len];exact okL.n16));simp only[Qb,Qa,ln3,lx3,fn,fx,false_and,if_false];rw[low3 f s (by omega) (Ky g1 g2 hh.cell rfl) (Ky g1 g2 hm rfl)];exact g1
end Go.Proofs.YtmapmgfiamfocaaGreat
namespace Go.Proofs.YtmapmgfiamfocaaGreat
open Go.AM Go.Mod
attribute [local irreducible] U W Zd
theorem Q7e:Qam 29 Qan:=by
 rintro H h S N c dv ⟨xs,kl,hh⟩ ok hN hc;refine Y2 Tryz.func29 rfl ?_;intro n K hn F;have sdv:=Ql.scalar hc.data;obtain⟨bs,clk,hm,hb⟩:=hh.lmap;have A:=F.at_ hn hh.cell;have B:=F.at_ hn hm;have hl0:=ok.last0;have hl1:=ok.last1;have lkl:=fun g hg=>Yt (g:=g) (mf:=h.mf) (ms:=h.ms) (l:=xs) (bs:=bs) (clk:=clk) hg c.a;have bad:∀(K2:Qg) (e:Int),Qan S c=(S,Zl e)->Ch H K2 []->Y4 (Q7 e) (Qan S c).2/\Xh H K2 h (Qan S c).1/\Qa8 H K2:=by intro K2 e he hch;rw[he];exact⟨Zk e,⟨xs,kl,hh.ch hch,hh.kOut⟩,.of_ch0 hch⟩
 have hw:=hh.lines▸Y5 xs c.a;simp only[wA,↓Qc,simprocAttr,Tryz.ntmps29,ta,new,Qb,Qa,and_false,false_and,and_true,true_and,and_self,eq_self,Zfg,Zhc,wB,F.own,F.lt,sdv,A.get,A.ltK,B.get,B.ltK,Jn,Jr,Jo,J8,J0,Zhd,Zff,Qf,A.ne,B.ne,↓lkl];refine W.opsK (by kernel_rfl) ?_;cases hx:Kg xs c.a with
 |none=>
  rw[hx] at hw;simp only[wA,↓Qc,simprocAttr,Qf7 Tryz.underlying64];refine W.pcall (Zz 6) rfl rfl rfl ?_;rintro _ rfl;simp only[wA,↓Qc,simprocAttr,Q7,ta,new,Qb,Qa,and_false,false_and,and_true,true_and,and_self,eq_self,Zfg,Zhc,F.lt,splice,wZ];exact W.done (Z2.ret (Q1 rfl rfl (Qm (by first|exact F.lt|assumption|(simp only[Qa];first|exact F.lt|assumption))) (by rw[Jp];rfl)) (bad _ 6 (by rw[Qan,hw];rfl) (F.ch hn (by first|rfl|simp only[Qa]) (fun f' s' h=>by first|rfl|simp only[Qb,Qa,F.lt,Zfc h,false_and,if_false,AM.lk, *,-hn]))))
 |some x=>
  rw[hx] at hw;have hxm:=(Yk hx).1;obtain⟨l,bs1,clk1,hL⟩:=hh.line x hxm;have X:=F.at_ hn hL.cells;have Xn:=F.at_ hn hL.names;have hw2:Qan S c=if !x.line.snap then(S,Zl 2) else(⟨S.last+1,S.keys,S.lines++[(S.last+1,{x.line with snap:=false,prev:=c.a,owner:=S.last+1})]⟩,{Zl 0 with id:=S.last+1}):=by rw[Qan,hw];simp only[Ze4]
  simp only[wA,↓Qc,simprocAttr,Qdl Tryz.underlying64,ta,new,Qb,Qa,and_false,false_and,and_true,true_and,and_self,eq_self,Zfg,Zhc,wZ,F.lt,X.get,X.ne,A.get,A.ltK,B.get,B.ltK,Jn,Jr,Jo,J8,J0,Zhd,Zff,Qf];refine W.ite (fun h1=>?_) (fun h1=>?_)
  . rw[h1] at hw2;simp only[wA,↓Qc,simprocAttr];refine W.pcall (Zz 2) rfl rfl rfl ?_;rintro _ rfl;simp only[wA,↓Qc,simprocAttr,Q7,ta,new,Qb,Qa,and_false,false_and,and_true,true_and,and_self,eq_self,Zfg,Zhc,F.lt,splice,wZ];exact W.done (Z2.ret (Q1 rfl rfl (Qm (by first|exact F.lt|assumption|(simp only[Qa];first|exact F.lt|assumption))) (by rw[Jp];rfl)) (bad _ 2 hw2 (F.ch hn (by first|rfl|simp only[Qa]) (fun f' s' h=>by first|rfl|simp only[Qb,Qa,F.lt,Zfc h,false_and,if_false,AM.lk, *,-hn]))))
  . rw[h1] at hw2;simp only[Ze7,if_false] at hw2;have okL:Q5 x.line:=ok.ok (x.id,x.line) (by rw[hh.lines];exact Zfm.2 ⟨x,hxm,rfl⟩);simp only[wA,↓Qc,simprocAttr];refine W.call (Qs0 _ x.loc x.line okL l bs1 clk1 (hL.low (by rw[<-hn];exact(fun f s h=>by simp only[Qb,Qa,F.lt,Zfc h,false_and,if_false];exact F.low f s h)))) rfl rfl rfl rfl rfl ?_;rintro _ J ⟨rfl,lq,⟨l2,bs2,clk2,hL2⟩,cj⟩;generalize hq:List.length (Qs _ _ _ _)=q at*;have hq1:q=n+1:=by rw[<-hq];simp only[Qa];exact F.len
    have lj:n<J.length:=by omega
    have lowj:∀f s,f<n->Qd J f s=Qd H f s:=fun f s h=>by rw[cj.get f s (by rw[hq];omega)];simp only[Qb,Qa,F.lt,Zfc h,false_and,if_false,lk];exact F.low f s h
    have oj:=fun s=>cj.own (s:=s) (f:=n) (by rw[hq];omega) (by simp);clear cj;have j2:=hL2.cells;have j2n:=hL2.names;simp only at j2 j2n;have q1:q<J.length:=by omega
    have qn:¬n=q:=by omega
    have qn' :¬q=n:=by omega
    simp only[wA,↓Qc,simprocAttr,ta,new,Qb,Qa,and_false,false_and,and_true,true_and,and_self,eq_self,Zfg,Zhc,wZ,Qf,j2,q1,qn,qn',oj,F.lt,Qzq (a:=⟨q,3,q+1,7,x.loc.kf,x.loc.ks⟩) (sn:=x.line.snap) (ow:=x.line.owner) (pr:=x.line.prev) (l:=l2) (f:=q) (s:=3) (b:=false),Qnr (a:=⟨q,3,q+1,7,x.loc.kf,x.loc.ks⟩) (sn:=false) (ow:=x.line.owner) (pr:=x.line.prev) (l:=l2) (f:=q) (s:=3) (n:=c.a)];refine W.opsC [(3,6)] (by kernel_rfl) (by
     simp only[Qgd,Zhl,Zhk,Zgf,List.reverse_nil,Zhh,Zgh,and_true];refine Qcg (by simp) (by simp) ?_
     simp[Xr,Op.operands,rho,V.id?,qn']) ?_
    simp only[wA,↓Qc,simprocAttr];have qm:¬h.mf=q:=by have:=B.lt;omega
    have qc:¬h.f=q:=by have:=A.lt;omega
    refine W.call (Qw1 _ h.f h.s h.mf h.ms S.last (Kc xs) bs clk _ (by simp only[Qb,Qa,q1,qc,false_and,if_false];exact(lowj _ _ A.lt).trans hh.cell) (by simp only[Qb,Qa,q1,qm,false_and,if_false];exact(lowj _ _ B.lt).trans hm) hl0 (by omega) (hh.newKey ok 0)) rfl rfl rfl rfl rfl ?_;rintro _ J3 ⟨rfl,c3⟩;have l3:q<J3.length:=c3.lt (by simp only[Qa];exact q1);have ln3:n<J3.length:=by omega
    have o3:∀s,Qd J3 n s=Qd J n s:=fun s=>(c3.own (s:=s) (f:=n) (by simp only[Qa];exact lj) (Qlc A.lt B.lt)).trans (by simp only[Qb,Qa,q1,qn,false_and,if_false]);have low3:∀f s,f<n->¬(f=h.f/\s=h.s)->¬(f=h.mf/\s=h.ms)->Qd J3 f s=Qd H f s:=fun f s h1 h2 h3=>by
     have fq:¬f=q:=by omega
     rw[c3.get f s (by simp only[Qa];omega)];simp only[lk,h2,h3,if_false,Qb,Qa,q1,fq,false_and];exact lowj f s h1
    have jm:Qd J3 h.mf h.ms=some (.map (Kc xs++[(.int .i64 (S.last+1),.ptr q 3 0)]) (bs++[clk]) (clk+1)):=by rw[c3.get _ _ (by simp only[Qa];have:=B.lt;omega)];simp only[lk,and_self,if_true]
    have jc:Qd J3 h.f h.s=some (.cells [.int .i64 (S.last+1),.map h.mf h.ms]):=by rw[c3.get _ _ (by simp only[Qa];have:=A.lt;omega)];simp only[lk,Ya hh.cell hm,and_self,if_true,if_false]
    have jq:Qd J3 q 3=_:=(c3.own (f:=q) (s:=3) (by simp only[Qa];exact q1) (Qlc (by have:=A.lt;omega) (by have:=B.lt;omega))).trans (Qm (by simp only[Qa];exact q1));have q2:¬q+1=q:=by omega
    have jqn:Qd J3 (q+1) 7=_:=(c3.own (f:=q+1) (s:=7) (by simp only[Qa];exact lq) (Qlc (by have:=A.lt;omega) (by have:=B.lt;omega))).trans ((by simp only[Qb,Qa,q1,q2,false_and,if_false]:Qd _ (q+1) 7=Qd J (q+1) 7).trans j2n);clear c3;simp only[wA,↓Qc,simprocAttr,ta,new,Qb,Qa,and_false,false_and,and_true,true_and,and_self,eq_self,Zfg,Zhc,wB,jq,l3,qn,qn',Qv6 (a:=⟨q,3,q+1,7,x.loc.kf,x.loc.ks⟩) (sn:=false) (ow:=x.line.owner) (pr:=c.a) (l:=l2) (f:=q) (s:=3) (n:=S.last+1),Jr,Zff,ln3,o3,oj,F.lt];refine W.done (Z2.ret (Q1 rfl rfl (Qm (by first|exact F.lt|assumption|(simp only[Qa];first|exact F.lt|assumption))) (by rw[Jp];rfl)) ?_);rw[Qjs (f:=h.mf) (s:=h.ms) B.lt (by
     simp only[Qb,Qa,ln3,l3,B.ne,qm,false_and,if_false];exact jm) (by omega)]
    rw[hw2];refine⟨⟨.nS,.nS,.nS,rfl,Qx.nil,Ql.nil,Y0.nil⟩,⟨xs++[⟨S.last+1,{x.line with snap:=false,prev:=c.a,owner:=S.last+1},⟨q,3,q+1,7,x.loc.kf,x.loc.ks⟩⟩],kl,?_,hh.kOut⟩,⟨by simp only[Qa];omega,fun f s o g1 g2=>?_⟩⟩
    rotate_left
    . have hf:=Q9 g1;have fn:¬f=n:=by omega
      have fq:¬f=q:=by omega
      simp only[Qb,Qa,ln3,l3,fn,fq,false_and,if_false];rw[low3 f s (by omega) (Ky g1 g2 hh.cell rfl) (Ky g1 g2 hm rfl)];exact g1
    have:=hh.grow (H' :=Qs (Qs J3 q 3 (.cells (Zd ⟨q,3,q+1,7,x.loc.kf,x.loc.ks⟩ false (S.last+1) c.a l2))) n 4 (.cells [.int .i64 0,.int .i64 (S.last+1),.nS,.nS,.int .i64 0,.int .u8 0,.int .i64 0,.int .i64 0,.str [],.nS])) (kn:=none) (x:=⟨S.last+1,{x.line with snap:=false,prev:=c.a,owner:=S.last+1},⟨q,3,q+1,7,x.loc.kf,x.loc.ks⟩⟩) (fun f s h1 h2 h3=>by
     have fq:¬f=q:=by omega
     have fn:¬f=n:=by omega
     simp only[Qb,Qa,ln3,l3,fq,fn,false_and,if_false]
     exact low3 f s (by omega) h2 h3) (by simp only[Qb,Qa,ln3,l3,A.ne,qc,false_and,if_false];exact jc) ⟨bs++[clk],clk+1,by simp only[Qb,Qa,ln3,l3,B.ne,qm,false_and,if_false];rw[Qnv];exact jm,hb.add⟩
     ⟨l2,bs2,clk2,hL2.obs,by simp only[Qb,Qa,ln3,l3,qn',false_and,and_self,if_true,if_false],by simp only[Qb,Qa,ln3,l3,q2,show¬q+1=n by omega,false_and,if_false];exact jqn,hL2.born⟩ (by simp only;omega) (by simp only;omega) (by simp) (by
       simp only[Option.map_none,Option.toList_none,Zf2]
       exact hh.key x hxm)
    simpa only[Option.map_none,Option.toList_none,Zf2] using this
end Go.Proofs.YtmapmgfiamfocaaGreat
namespace Go.Proofs.YtmapmgfiamfocaaGreat
open Go.AM Go.Mod
attribute [local irreducible] U W Zd
section
variable {a : Loc} {sn : Bool} {ow pr : Int} {l l2 : List Ob} {m : List Bw} {f s : Nat}
unseal Zd in
theorem Q7r(h:l.length=16):Zf Tryz.prog 72 (Zd a sn ow pr l) 5=some (.agg (obs l)):=by rw[rd72,if_pos (by rw[By];omega)];simp only[Zd,Zhn,Zhm];rw[Zhi (by rw[Qcn];omega)]
theorem Q47(h:Qfa l m):(V.agg (obs l)).cells=some (obs l):=by rw[Qlj,if_pos (Qja l h.scalar)]
unseal Zd in
theorem Q6x(h:l.length=16)(h2:l2.length=16):stO 48 f s 5 (obs l2) (some (.cells (Zd a sn ow pr l)))=some (.val .bad (some (f,s,.cells (Zd a sn ow pr l2)))):=by rw[B8,if_pos ⟨by rw[Qcn];omega,by rw[By];omega⟩];unfold splice;simp only[Zd,Zhb,Zhg,Zgh,Zhh];rw[show 5+(obs l2).length=(obs l2).length+1+1+1+1+1 by omega];simp only[Zhn];rw[Zfu (by rw[Qcn,Qcn];omega),Zf2]
unseal Zd in
theorem Qzb{p:Nat->Nat->Bool}(h:p a.nf a.ns=true):(O.cells (Zd a sn ow pr l)).refs p=true:=by simp only[O.refs,Zd,Zv,V.refs,h,Bool.true_or,Bool.or_true]
end
theorem roll_h:Qam 31 Qca:=by
 rintro H h S N c dv ⟨xs,kl,hh⟩ ok hN hc;refine Y2 Tryz.func31 rfl ?_;intro n K hn F;have sdv:=Ql.scalar hc.data;obtain⟨bs,clk,hm,hb⟩:=hh.lmap;have A:=F.at_ hn hh.cell;have B:=F.at_ hn hm;have lkl:=fun g hg=>Yt (g:=g) (mf:=h.mf) (ms:=h.ms) (l:=xs) (bs:=bs) (clk:=clk) hg c.a;have bad:∀(K2:Qg) (e:Int),Qca S c=(S,Zl e)->Ch H K2 []->Y4 (Q7 e) (Qca S c).2/\Xh H K2 h (Qca S c).1/\Qa8 H K2:=by intro K2 e he hch;rw[he];exact⟨Zk e,⟨xs,kl,hh.ch hch,hh.kOut⟩,.of_ch0 hch⟩
 have hw:=hh.lines▸Y5 xs c.a;simp only[wA,↓Qc,simprocAttr,Tryz.ntmps31,ta,new,Qb,Qa,and_false,false_and,and_true,true_and,and_self,eq_self,Zfg,Zhc,wB,F.own,F.lt,sdv,A.get,A.ltK,B.get,B.ltK,Jn,Jr,Jo,J8,J0,Zhd,Zff,Qf,A.ne,B.ne,↓lkl];refine W.opsK (by kernel_rfl) ?_;cases hx:Kg xs c.a with
 |none=>
  rw[hx] at hw;simp only[wA,↓Qc,simprocAttr,Qf7 Tryz.underlying64];refine W.pcall (Zz 6) rfl rfl rfl ?_;rintro _ rfl;simp only[wA,↓Qc,simprocAttr,Q7,ta,new,Qb,Qa,and_false,false_and,and_true,true_and,and_self,eq_self,Zfg,Zhc,F.lt,splice,wZ];exact W.done (Z2.ret (Q1 rfl rfl (Qm (by first|exact F.lt|assumption|(simp only[Qa];first|exact F.lt|assumption))) (by rw[Jp];rfl)) (bad _ 6 (by rw[Qca,hw];rfl) (F.ch hn (by first|rfl|simp only[Qa]) (fun f' s' h=>by first|rfl|simp only[Qb,Qa,F.lt,Zfc h,false_and,if_false,AM.lk, *,-hn]))))
 |some x=>
  rw[hx] at hw;have hxm:=(Yk hx).1;obtain⟨l,bs1,clk1,hL⟩:=hh.line x hxm;have X:=F.at_ hn hL.cells;have Xn:=F.at_ hn hL.names;have hw2:Qca S c=if x.line.snap then(S,Zl 202) else if x.line.prev=0 then(S,Zl 2) else match Zw S.lines x.line.prev with
   |none=>(S,Zl 2)
   |some y=>({S with lines:=putL S.lines c.a {x.line with names:=y.names,objs:=y.objs}},Zl 0):=by
   rw[Qca,hw];simp only[Ze4];rfl
  simp only[wA,↓Qc,simprocAttr,Qdl Tryz.underlying64,ta,new,Qb,Qa,and_false,false_and,and_true,true_and,and_self,eq_self,Zfg,Zhc,wZ,F.lt,X.get,X.ne,A.get,A.ltK,B.get,B.ltK,Jn,Jr,Jo,J8,J0,Zhd,Zff,Qf];refine W.ite (fun h1=>?_) (fun h1=>?_)
  . rw[h1] at hw2;simp only[wA,↓Qc,simprocAttr];refine W.pcall (Zz 202) rfl rfl rfl ?_;rintro _ rfl;simp only[wA,↓Qc,simprocAttr,Q7,ta,new,Qb,Qa,and_false,false_and,and_true,true_and,and_self,eq_self,Zfg,Zhc,F.lt,splice,wZ];exact W.done (Z2.ret (Q1 rfl rfl (Qm (by first|exact F.lt|assumption|(simp only[Qa];first|exact F.lt|assumption))) (by rw[Jp];rfl)) (bad _ 202 hw2 (F.ch hn (by first|rfl|simp only[Qa]) (fun f' s' h=>by first|rfl|simp only[Qb,Qa,F.lt,Zfc h,false_and,if_false,AM.lk, *,-hn]))))
  . rw[h1] at hw2;simp only[Ze7,if_false] at hw2;simp only[wA,↓Qc,simprocAttr,Qdl Tryz.underlying64,ta,new,Qb,Qa,and_false,false_and,and_true,true_and,and_self,eq_self,Zfg,Zhc,wZ,F.lt,X.get,X.ne,A.get,A.ltK,B.get,B.ltK,Jn,Jr,Jo,J8,J0,Zhd,Zff,Qf];refine W.ite (fun h2=>?_) (fun h2=>?_)
    . have h2' :x.line.prev=0:=by simpa using h2
      rw[if_pos h2'] at hw2;simp only[wA,↓Qc,simprocAttr];refine W.pcall (Zz 2) rfl rfl rfl ?_;rintro _ rfl;simp only[wA,↓Qc,simprocAttr,Q7,ta,new,Qb,Qa,and_false,false_and,and_true,true_and,and_self,eq_self,Zfg,Zhc,F.lt,splice,wZ];exact W.done (Z2.ret (Q1 rfl rfl (Qm (by first|exact F.lt|assumption|(simp only[Qa];first|exact F.lt|assumption))) (by rw[Jp];rfl)) (bad _ 2 hw2 (F.ch hn (by first|rfl|simp only[Qa]) (fun f' s' h=>by first|rfl|simp only[Qb,Qa,F.lt,Zfc h,false_and,if_false,AM.lk, *,-hn]))))
    . have h2' :¬x.line.prev=0:=by simpa using h2
      rw[if_neg h2'] at hw2;obtain⟨yl,hy1,hy2⟩:=ok.prevOf (i:=c.a) (L:=x.line) (by rw[hw];rfl) h2';have hy3:=hh.lines▸Y5 xs x.line.prev;rw[hy1] at hy3 hw2;cases hy:Kg xs x.line.prev with
      |none=>rw[hy] at hy3;cases hy3
      |some y=>
       rw[hy] at hy3;have e1:yl=y.line:=by simpa using hy3
       subst e1;have hym:=(Yk hy).1;obtain⟨ly,bsy,clky,hLy⟩:=hh.line y hym;have okY:Q5 y.line:=ok.ok (y.id,y.line) (by rw[hh.lines];exact Zfm.2 ⟨y,hym,rfl⟩);have okX:Q5 x.line:=ok.ok (x.id,x.line) (by rw[hh.lines];exact Zfm.2 ⟨x,hxm,rfl⟩);have lkp:=fun g hg=>Yt (g:=g) (mf:=h.mf) (ms:=h.ms) (l:=xs) (bs:=bs) (clk:=clk) hg x.line.prev;rw[hy] at lkp;simp only[wA,↓Qc,simprocAttr,Qdl Tryz.underlying64,ta,new,Qb,Qa,and_false,false_and,and_true,true_and,and_self,eq_self,Zfg,Zhc,wZ,F.lt,X.get,X.ne,A.ne,B.ne,A.get,A.ltK,B.get,B.ltK,Jn,Jr,Jo,J8,J0,Zhd,Zff,Qf,↓lkp];refine W.callT (Qs0 _ y.loc y.line okY ly bsy clky (hLy.low (by rw[<-hn];exact(fun f s h=>by simp only[Qb,Qa,F.lt,Zfc h,false_and,if_false];exact F.low f s h)))) rfl rfl rfl rfl rfl ?_;rintro _ J ⟨rfl,lq,⟨l2,bs2,clk2,hL2⟩,cj⟩;generalize hq:List.length (Qs _ _ _ _)=q at*;have hq1:q=n+1:=by rw[<-hq];simp only[Qa];exact F.len
       have lj:n<J.length:=by omega
       have lowj:∀f s,f<n->Qd J f s=Qd H f s:=fun f s h=>by rw[cj.get f s (by rw[hq];omega)];simp only[Qb,Qa,F.lt,Zfc h,false_and,if_false,lk];exact F.low f s h
       have oj:=fun s=>cj.own (s:=s) (f:=n) (by rw[hq];omega) (by simp);have j4:Qd J n 4=_:=(oj 4).trans (Qm (by simp only[Qa];exact F.lt));clear cj;have j2:=hL2.cells;have j2n:=hL2.names;simp only at j2 j2n;have l216:l2.length=16:=by rw[hL2.obs.len];exact okY.n16
       have l16:l.length=16:=by rw[hL.obs.len];exact okX.n16
       have q1:q<J.length:=by omega
       have jx:Qd J x.loc.f x.loc.s=_:=(lowj _ _ X.lt).trans hL.cells;have lx:x.loc.f<J.length:=by have:=X.lt;omega
       have xq:¬q=x.loc.f:=by have:=X.lt;omega
       have xn:¬n=x.loc.f:=by have:=X.lt;omega
       simp only[wA,↓Qc,simprocAttr];refine W.opsK (by kernel_rfl) ?_;simp only[wA,↓Qc,simprocAttr,ta,new,Qb,Qa,and_false,false_and,and_true,true_and,and_self,eq_self,Zfg,Zhc,wZ,j2,jx,q1,lx,xq,Zff,J0,Q7r l216,Q47 hL2.obs,Qvo (a:=x.loc) (sn:=x.line.snap) (ow:=x.line.owner) (pr:=x.line.prev) (l:=l) (f:=x.loc.f) (s:=x.loc.s) (nf:=q+1) (ns:=7),Q6x (a:={x.loc with nf:=q+1,ns:=7}) (sn:=x.line.snap) (ow:=x.line.owner) (pr:=x.line.prev) (f:=x.loc.f) (s:=x.loc.s) l16 l216];refine W.opsK (by kernel_rfl) ?_;simp only[wA,↓Qc,simprocAttr,ta,new,Qb,Qa,and_false,false_and,and_true,true_and,and_self,eq_self,Zfg,Zhc,wB,lj,lx,xn,j4];refine W.done (Z2.ret (Q1 rfl rfl (Qm (by first|exact F.lt|assumption|(simp only[Qa];first|exact F.lt|assumption))) (by rw[Jp];rfl)) ?_);rw[Qoz (f:=x.loc.f) (s:=x.loc.s) X.lt (by rw[Q8 (by simp only[Qa];exact lj) X.ne,Qm (by simp only[Qa];exact lx)]) (Qzb (by simp;omega))];rw[hw2];refine⟨Zk 0,⟨_,_,(hh.low (H' :=H) fun _ _ _=>rfl).line_new (hh.uniq ok) hx (nf:=q+1) (ns:=7) (by omega) (L' :={x.line with names:=y.line.names,objs:=y.line.objs}) ⟨l2,bs2,clk2,hL2.obs,?_,?_,hL2.born⟩ (fun f s hf hne=>?_) rfl,hh.kOut⟩,⟨by simp only[Qa];omega,fun f s o g1 g2=>?_⟩⟩
       . simp only[Qb,Qa,lj,lx,X.ne,and_self,if_true,false_and,if_false]
       . simp only[Qb,Qa,lj,lx,show¬q+1=n by omega,show¬q+1=x.loc.f by have:=X.lt;omega,false_and,if_false];exact j2n
       . simp only[Qb,Qa,lj,lx,show¬f=n by omega,hne,false_and,if_false];exact lowj f s (by omega)
       . have hf:=Q9 g1;have fx:=Ky g1 g2 hL.cells (Qen l16);simp only[Qb,Qa,lj,lx,show¬f=n by omega,fx,false_and,if_false];rw[lowj f s (by omega)];exact g1
end Go.Proofs.YtmapmgfiamfocaaGreat
namespace Go.Proofs.YtmapmgfiamfocaaGreat
open Go.AM Go.Mod
attribute [local irreducible] U W Zd
theorem Qax{K:Qg}{n f s:Nat}(h:f<n):Qd (K.take n) f s=Qd K f s:=by rw[Qld,if_neg (by simp;omega)]
theorem Qoo{K:Qg}{n f s:Nat}{o:O}(h:Qd (K.take n) f s=some o):f<n/\Qd K f s=some o:=by
 rw[Qld] at h;split at h
 . cases h
 . rename_i hc;have:f<n:=by simpa using hc
   exact⟨this,h⟩
theorem Q0a:Qam 30 Yq:=by
 rintro H h S N c dv ⟨xs,kl,hh⟩ ok hN hc;refine Y2 Tryz.func30 rfl ?_;intro n K hn F;have sdv:=Ql.scalar hc.data;obtain⟨bs,clk,hm,hb⟩:=hh.lmap;have A:=F.at_ hn hh.cell;have B:=F.at_ hn hm;have lkl:=fun g hg=>Yt (g:=g) (mf:=h.mf) (ms:=h.ms) (l:=xs) (bs:=bs) (clk:=clk) hg c.a;have bad:∀(K2:Qg) (e:Int),Yq S c=(S,Zl e)->Ch H K2 []->Y4 (Q7 e) (Yq S c).2/\Xh H K2 h (Yq S c).1/\Qa8 H K2:=by intro K2 e he hch;rw[he];exact⟨Zk e,⟨xs,kl,hh.ch hch,hh.kOut⟩,.of_ch0 hch⟩
 have hw:=hh.lines▸Y5 xs c.a;simp only[wA,↓Qc,simprocAttr,Tryz.ntmps30,ta,new,Qb,Qa,and_false,false_and,and_true,true_and,and_self,eq_self,Zfg,Zhc,wB,F.own,F.lt,sdv,A.get,A.ltK,B.get,B.ltK,Jn,Jr,Jo,J8,J0,Zhd,Zff,Qf,A.ne,B.ne,↓lkl];refine W.opsK (by kernel_rfl) ?_;cases hx:Kg xs c.a with
 |none=>
  rw[hx] at hw;simp only[wA,↓Qc,simprocAttr,Qf7 Tryz.underlying64];refine W.pcall (Zz 6) rfl rfl rfl ?_;rintro _ rfl;simp only[wA,↓Qc,simprocAttr,Q7,ta,new,Qb,Qa,and_false,false_and,and_true,true_and,and_self,eq_self,Zfg,Zhc,F.lt,splice,wZ];exact W.done (Z2.ret (Q1 rfl rfl (Qm (by first|exact F.lt|assumption|(simp only[Qa];first|exact F.lt|assumption))) (by rw[Jp];rfl)) (bad _ 6 (by rw[Yq,hw];rfl) (F.ch hn (by first|rfl|simp only[Qa]) (fun f' s' h=>by first|rfl|simp only[Qb,Qa,F.lt,Zfc h,false_and,if_false,AM.lk, *,-hn]))))
 |some x=>
  rw[hx] at hw;have hxm:=(Yk hx).1;obtain⟨l,bs1,clk1,hL⟩:=hh.line x hxm;have X:=F.at_ hn hL.cells;have hw2:Yq S c=if x.line.snap then(S,Zl 202) else if x.line.prev=0\/Qer S.lines x.line.prev=c.a then(S,Zl 2) else
   ({S with lines:=Yz (Qer S.lines x.line.prev) c.a (x.line.prev.toNat+1) S.lines x.line.prev},Zl 0):=by
   rw[Yq,hw];simp only[Ze4]
  simp only[wA,↓Qc,simprocAttr,Qdl Tryz.underlying64,ta,new,Qb,Qa,and_false,false_and,and_true,true_and,and_self,eq_self,Zfg,Zhc,wZ,F.lt,X.get,X.ne,A.get,A.ltK,B.get,B.ltK,Jn,Jr,Jo,J8,J0,Zhd,Zff,Qf];refine W.ite (fun h1=>?_) (fun h1=>?_)
  . rw[h1] at hw2;simp only[wA,↓Qc,simprocAttr];refine W.pcall (Zz 202) rfl rfl rfl ?_;rintro _ rfl;simp only[wA,↓Qc,simprocAttr,Q7,ta,new,Qb,Qa,and_false,false_and,and_true,true_and,and_self,eq_self,Zfg,Zhc,F.lt,splice,wZ];exact W.done (Z2.ret (Q1 rfl rfl (Qm (by first|exact F.lt|assumption|(simp only[Qa];first|exact F.lt|assumption))) (by rw[Jp];rfl)) (bad _ 202 hw2 (F.ch hn (by first|rfl|simp only[Qa]) (fun f' s' h=>by first|rfl|simp only[Qb,Qa,F.lt,Zfc h,false_and,if_false,AM.lk, *,-hn]))))
  . rw[h1] at hw2;simp only[Ze7,if_false] at hw2;simp only[wA,↓Qc,simprocAttr,Qdl Tryz.underlying64,ta,new,Qb,Qa,and_false,false_and,and_true,true_and,and_self,eq_self,Zfg,Zhc,wZ,F.lt,X.get,X.ne,A.get,A.ltK,B.get,B.ltK,Jn,Jr,Jo,J8,J0,Zhd,Zff,Qf];refine W.ite (fun h2=>?_) (fun h2=>?_)
    . have h2' :x.line.prev=0:=by simpa using h2
      rw[if_pos (.inl h2')] at hw2;simp only[wA,↓Qc,simprocAttr,h2];refine W.pcall (Zz 2) rfl rfl rfl ?_;rintro _ rfl;simp only[wA,↓Qc,simprocAttr,Q7,ta,new,Qb,Qa,and_false,false_and,and_true,true_and,and_self,eq_self,Zfg,Zhc,F.lt,splice,wZ];exact W.done (Z2.ret (Q1 rfl rfl (Qm (by first|exact F.lt|assumption|(simp only[Qa];first|exact F.lt|assumption))) (by rw[Jp];rfl)) (bad _ 2 hw2 (F.ch hn (by first|rfl|simp only[Qa]) (fun f' s' h=>by first|rfl|simp only[Qb,Qa,F.lt,Zfc h,false_and,if_false,AM.lk, *,-hn]))))
    . have h2' :¬x.line.prev=0:=by simpa using h2
      obtain⟨yl,hy1,hy2⟩:=ok.prevOf (i:=c.a) (L:=x.line) (by rw[hw];rfl) h2';have hy3:=hh.lines▸Y5 xs x.line.prev;rw[hy1] at hy3;have how:Qer S.lines x.line.prev=yl.owner:=by rw[Qer,hy1];rfl
      rw[how] at hw2;cases hy:Kg xs x.line.prev with
      |none=>rw[hy] at hy3;cases hy3
      |some y=>
       rw[hy] at hy3;have e1:yl=y.line:=by simpa using hy3
       subst e1;have hym:=(Yk hy).1;obtain⟨ly,bsy,clky,hLy⟩:=hh.line y hym;have Y:=F.at_ hn hLy.cells;have lkp:=fun g hg=>Yt (g:=g) (mf:=h.mf) (ms:=h.ms) (l:=xs) (bs:=bs) (clk:=clk) hg x.line.prev;rw[hy] at lkp;simp only[wA,↓Qc,simprocAttr,ta,new,Qb,Qa,and_false,false_and,and_true,true_and,and_self,eq_self,Zfg,Zhc,wZ,F.lt,X.get,X.ne,Y.get,Y.ne,A.ne,B.ne,A.get,A.ltK,B.get,B.ltK,Jn,Jr,Jo,J8,J0,Zhd,Zff,Qf,↓lkp];refine W.opsK (by kernel_rfl) ?_;simp only[wA,↓Qc,simprocAttr];refine W.ite (fun h3=>?_) (fun h3=>?_)
       . have h3' :y.line.owner=c.a:=by simpa using h3
         rw[if_pos (.inr h3')] at hw2;simp only[wA,↓Qc,simprocAttr];refine W.pcall (Zz 2) rfl rfl rfl ?_;rintro _ rfl;simp only[wA,↓Qc,simprocAttr,Q7,ta,new,Qb,Qa,and_false,false_and,and_true,true_and,and_self,eq_self,Zfg,Zhc,F.lt,splice,wZ];exact W.done (Z2.ret (Q1 rfl rfl (Qm (by first|exact F.lt|assumption|(simp only[Qa];first|exact F.lt|assumption))) (by rw[Jp];rfl)) (bad _ 2 hw2 (F.ch hn (by first|rfl|simp only[Qa]) (fun f' s' h=>by first|rfl|simp only[Qb,Qa,F.lt,Zfc h,false_and,if_false,AM.lk, *,-hn]))))
       . have h3' :¬y.line.owner=c.a:=by simpa using h3
         rw[if_neg (by simp[h2',h3'])] at hw2;simp only[wA,↓Qc,simprocAttr,ta,new,Qb,Qa,and_false,false_and,and_true,true_and,and_self,eq_self,Zfg,Zhc,wZ,F.lt,X.get,X.ne,Y.get,Y.ne,A.ne,B.ne,A.get,A.ltK,B.get,B.ltK,Jn,Jr,Jo,J8,J0,Zhd,Zff,Qf,↓lkp];refine W.opsK (by kernel_rfl) ?_;simp only[wA,↓Qc,simprocAttr,ta,new,Qb,Qa,and_false,false_and,and_true,true_and,and_self,eq_self,Zfg,Zhc,wZ,F.lt,X.get,X.ne,A.get,A.ltK,B.get,B.ltK,Jn,Jr,Jo,J8,J0,Zhd,Zff,Qf];generalize hwas:y.line.owner=was at*;refine W.ul ?_;have hT:∀f s,f<H.length->Qd (List.take n (Qs (Qs K n 3 (.cells (Qf c dv))) n 4 (.cells [.int .i64 0,.int .i64 0,.nS,.nS,.int .i64 0,.int .u8 0,.int .i64 0,.int .i64 0,.str [],.nS]))) f s=Qd H f s:=fun f s hf=>by rw[Qax (by omega)];simp only[Qb,Qa,F.lt,show¬f=n by omega,false_and,if_false];exact F.low f s (by omega)
         refine W.loop (fun(a:Nat×List Ent×Int) t H1=>Bq [0,3,4,6,7] t 0=Qzw (.ptr h.f h.s 0) (.ptr n 3 0) (.ptr n 4 0) (.int .i64 was) (.int .i64 a.2.2)/\n<H1.length/\Qd H1 n 3=some (.cells (Qf c dv))/\Qd H1 n 4=some (.cells [.int .i64 0,.int .i64 0,.nS,.nS,.int .i64 0,.int .u8 0,.int .i64 0,.int .i64 0,.str [],.nS])/\
          Zo (H1.take n) h {S with lines:=Jf a.2.1} a.2.1 kl/\J1 {S with lines:=Jf a.2.1} N/\(∀f s o,Qd H f s=some o->Qa3 o=true->Qd H1 f s=some o)/\Kc a.2.1=Kc xs/\(a.2.2=0\/∃y,Kg a.2.1 a.2.2=some y/\y.line.snap=true/\0<a.2.2)/\a.2.2.toNat<a.1/\
          Yz was c.a a.1 (Jf a.2.1) a.2.2=Yz was c.a (x.line.prev.toNat+1) S.lines x.line.prev) (fun a=>a.2.2.toNat) ?_ (x.line.prev.toNat+1,xs,x.line.prev)
          ⟨rfl,by simp only[Qa];exact F.lt,by simp only[Qb,Qa,F.lt,Nat.reduceEqDiff,and_false,and_self,if_true,if_false];rfl,Qm (by simp only[Qa];exact F.lt),?_,?_,?_,rfl,.inr ⟨y,hy,hy2,?_⟩,by simp,by rw[<-hh.lines]⟩ rfl
         rotate_left
         . rw[<-hh.lines];exact hh.low hT
         . rw[<-hh.lines];exact ok
         . intro f s o g1 g2;have hf:=Q9 g1;have:=hT f s hf;rw[Qax (by omega)] at this;exact this.trans g1
         . have h5:=ok.id0 (y.id,y.line) (by rw[hh.lines];exact Zfm.2 ⟨y,hym,rfl⟩);have h6:=(Yk hy).2;simp only at h5;simp only;omega
         rintro⟨k,xs1,i⟩ t H1 ⟨ht,hn1,g3,g4,hh1,ok1,has,henc,hi,hki,hpr⟩;simp only at hh1 ok1 henc hi hki hpr ht;refine⟨_,_,Bo (kt:=[0,3,4,6,7]) rfl,?_⟩;rw[ht];simp only[Qzw];obtain⟨bs2,clk2,hm2,hb2⟩:=hh1.lmap;have gm:=(Qoo hm2).2;have gc:=(Qoo hh1.cell).2;have lk1:=fun g hg=>Yt (g:=g) (mf:=h.mf) (ms:=h.ms) (l:=xs1) (bs:=bs2) (clk:=clk2) hg i;have finish:Yz was c.a k (Jf xs1) i=Jf xs1->∀v,Y4 (Q7 0) (Yq S c).2/\Xh H (Yb n v (Qs H1 n 4 (.cells [.int .i64 0,.int .i64 0,.nS,.nS,.int .i64 0,.int .u8 0,.int .i64 0,.int .i64 0,.str [],.nS]))) h (Yq S c).1/\Qa8 H (Yb n v (Qs H1 n 4 (.cells [.int .i64 0,.int .i64 0,.nS,.nS,.int .i64 0,.int .u8 0,.int .i64 0,.int .i64 0,.str [],.nS]))):=by
          intro hf v;rw[hw2,<-hpr,hf];refine⟨Zk 0,⟨xs1,kl,hh1.low fun f s hfl=>?_,hh.kOut⟩,⟨?_,fun f s o g1 g2=>?_⟩⟩
          rotate_left
          . exact Ze9 (by omega) (Qbc (n:=n) (by simp only[Qa];omega))
          . have hf:=Q9 g1;rw[Xm (by omega),Q8 hn1 (by omega)];exact has f s o g1 g2
          have hfn:f<n:=by rw[Zf9] at hfl;omega
          rw[Xm hfn,Q8 hn1 (by omega),Qax hfn]
         obtain⟨k',hk'⟩:∃k',k=k' +1:=⟨k-1,by omega⟩;subst hk';by_cases hi0:i=0
         . subst hi0;simp only[wA,↓Qc,simprocAttr];refine W.done ?_;simp only[wA,↓Qc,simprocAttr,ta,new,Qb,Qa,and_false,false_and,and_true,true_and,and_self,eq_self,Zfg,Zhc,wB,hn1,g4];exact W.done (Z2.ret (Q1 rfl rfl (Qm (by first|exact F.lt|assumption|(simp only[Qa];first|exact F.lt|assumption))) (by rw[Jp];rfl)) (finish (by simp[Yz]) _))
         . have c0:(i !=0)=true:=by simpa using hi0
           rcases hi with h0|⟨y1,hy1e,hy1s,hip⟩
           . exact absurd h0 hi0
           . rw[hy1e] at lk1;have hy1m:=(Yk hy1e).1;obtain⟨ly1,bsy1,clky1,hLy1⟩:=hh1.line y1 hy1m;have gy:=(Qoo hLy1.cells).2;have ylt:=(Qoo hLy1.cells).1;have hl1:Zw (Jf xs1) i=some y1.line:=by rw[Y5,hy1e];rfl
             simp only[wA,↓Qc,simprocAttr,c0,ta,new,Qb,Qa,and_false,false_and,and_true,true_and,and_self,eq_self,Zfg,Zhc,wZ,gc,gm,gy,Zff,Jr,↓lk1];refine W.ite (fun h4=>?_) (fun h4=>?_)
             . have h4' :y1.line.owner=was:=by simpa using h4
               have yl1:y1.loc.f<H1.length:=by omega
               have yn1:¬n=y1.loc.f:=by omega
               have yn2:¬y1.loc.f=n:=by omega
               have dm:=hh1.d3 hy1m;have dc:=hh1.d1 hy1m;simp only[wA,↓Qc,simprocAttr,ta,new,Qb,Qa,and_false,false_and,and_true,true_and,and_self,eq_self,Zfg,Zhc,wZ,gc,gm,gy,g3,Qf,Zff,↓lk1,yl1,yn1,Qv6 (a:=y1.loc) (sn:=y1.line.snap) (ow:=y1.line.owner) (pr:=y1.line.prev) (l:=ly1) (f:=y1.loc.f) (s:=y1.loc.s) (n:=c.a)];refine W.opsK (by kernel_rfl) ?_;have lk2:=lk1 (Qd (Qs H1 y1.loc.f y1.loc.s (.cells (Zd y1.loc y1.line.snap c.a y1.line.prev ly1)))) (by rw[Ks yl1 dm];exact gm);simp only[wA,↓Qc,simprocAttr,ta,new,Qb,Qa,and_false,false_and,and_true,true_and,and_self,eq_self,Zfg,Zhc,wZ,gc,gm,Zff,↓lk2,yl1,dc,dm,Jo];have e5:Jf (Qfb xs1 i {y1.line with owner:=c.a} y1.loc)=Go.Mod.putL (Jf xs1) i {y1.line with owner:=c.a}:=Qje _ _ _ _;have ok2:J1 {S with lines:=Jf (Qfb xs1 i {y1.line with owner:=c.a} y1.loc)} N:=by rw[e5];exact ok1.putL (L:=y1.line) hl1 ((ok1.ok (y1.id,y1.line) (Zfm.2 ⟨y1,hy1m,rfl⟩)).owner c.a) rfl rfl rfl
               have hl2:Zw (Jf (Qfb xs1 i {y1.line with owner:=c.a} y1.loc)) i=some {y1.line with owner:=c.a}:=by rw[e5,Qeh,hl1];simp
               have hds:=ok1.desc (y1.id,y1.line) (Zfm.2 ⟨y1,hy1m,rfl⟩) hy1s;simp only[(Yk hy1e).2] at hds;refine W.done ⟨(k',Qfb xs1 i {y1.line with owner:=c.a} y1.loc,y1.line.prev),⟨rfl,by simp only[Qa];exact hn1,by rw[Q8 yl1 yn1];exact g3,by rw[Q8 yl1 yn1];exact g4,?_,ok2,?_,?_,?_,?_,?_⟩,?_⟩
               . have h6:=hh1.line_upd (H' :=List.take n (Qs H1 y1.loc.f y1.loc.s (.cells (Zd y1.loc y1.line.snap c.a y1.line.prev ly1)))) (hh1.uniq ok1) hy1e (L' :={y1.line with owner:=c.a}) ⟨ly1,bsy1,clky1,hLy1.obs,by rw[Qax ylt];exact Qm yl1,?_,hLy1.born⟩ ⟨by simp only[Zf9,Qa];omega,fun f s hf n1 n2=>?_⟩ rfl
                 . rw[e5];exact h6
                 . have:=Qoo hLy1.names;rw[Qax this.1,Ks yl1 hLy1.ne2];exact this.2
                 . have hfn:f<n:=by rw[Zf9] at hf;omega
                   rw[Qax hfn,Qax hfn,Ks yl1 n1]
               . intro f s o g1 g2;rw[Ks yl1 (Ky (has f s o g1 g2) g2 gy (Qen (by rw[hLy1.obs.len];exact(ok1.ok (y1.id,y1.line) (Zfm.2 ⟨y1,hy1m,rfl⟩)).n16)))];exact has f s o g1 g2
               . rw[Qpy xs1 i _ y1.loc hy1e rfl rfl];exact henc
               . by_cases h7:y1.line.prev=0
                 . exact .inl h7
                 . obtain⟨z,hz1,hz2⟩:=ok2.prevOf (L:={y1.line with owner:=c.a}) hl2 h7;simp only at hz1;rw[Y5] at hz1;cases h8:Kg (Qfb xs1 i {y1.line with owner:=c.a} y1.loc) y1.line.prev with
                   |none=>rw[h8] at hz1;cases hz1
                   |some w=>
                    rw[h8] at hz1;have h9:w.line=z:=by simpa using hz1
                    have h10:=ok2.id0 (w.id,w.line) (Zfm.2 ⟨w,(Yk h8).1,rfl⟩);simp only[(Yk h8).2] at h10;exact .inr ⟨w,rfl,by rw[h9];exact hz2,by simp only;omega⟩
               . simp only;omega
               . rw[e5,<-hpr];simp only[Yz,hi0,if_false,hl1,h4',if_true]
               . simp only;omega
             . have h4' :¬y1.line.owner=was:=by simpa using h4
               simp only[wA,↓Qc,simprocAttr];refine W.done ?_;simp only[wA,↓Qc,simprocAttr,ta,new,Qb,Qa,and_false,false_and,and_true,true_and,and_self,eq_self,Zfg,Zhc,wB,hn1,g4];exact W.done (Z2.ret (Q1 rfl rfl (Qm (by first|exact F.lt|assumption|(simp only[Qa];first|exact F.lt|assumption))) (by rw[Jp];rfl)) (finish (by simp[Yz,hi0,hl1,h4']) _))
end Go.Proofs.YtmapmgfiamfocaaGreat
end
