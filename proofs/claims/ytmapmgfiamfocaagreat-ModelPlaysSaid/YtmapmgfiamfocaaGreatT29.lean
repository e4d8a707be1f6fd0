/- This file holds in one the texts R31, YOI, YOJ, R0k; each says at its head what it proves. -/
import Derived.Test.YtmapmgfiamfocaaGreatT16
import Derived.Test.YtmapmgfiamfocaaGreatT28
import Derived.Shelf.SlIter.Nil
import Derived.Shelf.SortM.Plain
import Derived.Shelf.SortM.SortNone
import Derived.Ground.GgzProg
import Derived.Ground.SlgmProg
import Derived.Test.YtmapmgfiamfocaaGreatProg
import Derived.Shelf.SlIterI.Nil
set_option linter.unusedSimpArgs false
set_option linter.unusedVariables false
section
set_option maxRecDepth 100000
namespace Go.Proofs.YtmapmgfiamfocaaGreat
open Go.AM Go.Mod
attribute [local irreducible] U W
theorem Q2s{H:Qg}{lo f s n:Nat}{c xs ys:List V}{r:Zi}(h:Qdg H lo (.agg c) r)(hg:Qd H f s=some (.mgrow xs n))(hd:∀m,c[2]?≠some (.mg f s m 1)):Qdg (Qs H f s (.mgrow ys n)) lo (.agg c) r:=by
 obtain⟨dv,nv,lv,e,h1,h2,h3⟩:=h;injection e with e;subst e;have hl:=Q9 hg;have hd' :∀m,dv≠ .mg f s m 1:=fun m hm=>hd m (by rw[hm];rfl);refine⟨dv,nv,lv,rfl,?_,h2,h3⟩;rcases h1 with h1|h1|⟨f',s',g1,g2,rfl,g3⟩|⟨f',s',g1,rfl,g3⟩
 . exact .inl h1
 . exact .inr (.inl h1)
 . refine .inr (.inr (.inl ⟨f',s',g1,g2,rfl,?_⟩));rw[Ks hl]
   . exact g3
   . rintro⟨rfl,rfl⟩;rw[hg] at g3;cases g3
 . refine .inr (.inr (.inr ⟨f',s',g1,rfl,?_⟩));rw[Ks hl]
   . exact g3
   . rintro⟨rfl,rfl⟩;exact hd' _ rfl
theorem Q4j{H:Qg}{lo:Nat}{ov:V}{rs:List Zi}(h:OutR H lo ov rs):∃(ocs:List V) (p:Nat->V),(∀g,Qaw Tryz.prog g 32 ov=some (.int .i64 rs.length))/\(∀i:Nat,i<rs.length->Zs Tryz.prog 32 ov (.int .i64 i)=some (p (i*10)))/\
 (∀(g:Get) (t:TypeId) (o:Nat),ldV Tryz.prog t g (p o)=Zf Tryz.prog t ocs o)/\(∀off o,faV off (p o)=some (p (o+off)))/\Qa6 H lo ocs rs:=by
 rcases h with⟨rfl,rfl⟩|⟨os,f,s,h0,rfl,h⟩
 . exact⟨[],fun o=> .iptr [] o,fun g=>by simp only[Qaw,Tryz.underlying32];rfl,fun i hi=>absurd hi (by simp),fun g t o=>rfl,fun off o=>rfl,Qa6.nil _ _⟩
 . cases hp:Zt os with
   |true=>
    refine⟨os,fun o=> .iptr os o,fun g=>by simp only[Qaw,Tryz.underlying32],fun i hi=>?_,fun g t o=>rfl,fun off o=>rfl,h⟩;simp only[Zs,Tryz.underlying32,Qow,hp,if_true];rw[if_pos ⟨by omega,by omega,trivial⟩];rfl
   |false=>
    refine⟨os,fun o=> .rptr os o,fun g=>by simp only[Qaw,Tryz.underlying32],fun i hi=>?_,fun g t o=>rfl,fun off o=>rfl,h⟩;simp only[Zs,Tryz.underlying32,Qow,hp,Ze7,if_false];rw[if_pos ⟨by omega,by omega,trivial⟩];rfl
theorem ia_mgB{f s n k:Nat}(h:k<n):Zs Tryz.prog 24 (.mg f s n 1) (.int .i64 k)=some (.mp f s k n):=by simp only[Zs,Tryz.underlying24,sz5];rw[if_pos ⟨by omega,by omega,trivial⟩];simp
theorem Q66{H:Qg}{k:Nat}{v:V}{l:Qq}(h:Qnc H k v l):∀g,Qaw Tryz.prog g 24 v=some (.int .i64 l.length):=by
 intro g;rcases h with⟨_,h⟩|⟨rfl,rfl⟩|⟨f,s,_,rfl,rfl,h⟩|⟨f,s,_,rfl,h⟩
 . exact(show Ql 1 v (Qp l) l.length from h).len Tryz.underlying24 g
 all_goals (simp only[Qaw,Tryz.underlying24];try rfl)
def OwnB(H:Qg)(v:V)(n:Nat):Prop:=n=0\/∃f s c,v= .mg f s n 1/\Qd H f s=some (.mgrow c n)/\c.length=n/\∀q:Nat,q<n->∃x:Int,c[q]?=some (.int .u8 x)
theorem Q7b{H:Qg}{k:Nat}{v:V}{l:Qq}(h:Qnc H k v l):OwnB H v l.length:=by
 rcases h with⟨rfl,_⟩|⟨_,rfl⟩|⟨_,_,_,rfl,_⟩|⟨f,s,_,rfl,h⟩
 . exact .inl rfl
 . exact .inl rfl
 . exact .inl rfl
 . refine .inr ⟨f,s,_,rfl,h,Ja l,fun q hq=>⟨_,by rw[Qhr,Ze3 hq];rfl⟩⟩
theorem Q6z{H:Qg}{f s n k:Nat}{c:List V}(hg:Qd H f s=some (.mgrow c n))(hcl:c.length=n)(hx:∀q:Nat,q<n->∃x:Int,c[q]?=some (.int .u8 x))(hk:k<n)(y:Int):OwnB (Qs H f s (.mgrow (c.take k++[.int .u8 y]++c.drop (k+1)) n)) (.mg f s n 1) n:=by
 refine .inr ⟨f,s,_,rfl,Qm (Q9 hg),by simp only[Zfv,Zf9,Zga,Zgz,Zg2];omega,fun q hq=>?_⟩;have hl:(c.take k).length=k:=by rw[Zf9];omega
 by_cases h1:q<k
 . rw[Zgg,Zfy (by omega),Zfh,if_pos h1];exact hx q hq
 . by_cases h2:q=k
   . subst h2;exact⟨y,by rw[Zgg,Zfz (by omega),hl,Nat.sub_self];rfl⟩
   . rw[Zfz (by simp only[Zfv,hl,Zgz,Zg2];omega),Zhv];simp only[Zfv,hl,Zgz,Zg2];rw[show k+1+(q-(k+(0+1)))=q by omega];exact hx q hq
set_option maxHeartbeats 4000000 in
theorem Q1q(v:V)(cs:List V)(l:List Zc)(hv:Ql 8 v cs l.length)(hc:Qdj cs l)(oc:List V)(o:Zi)(ho:Y4 (.agg oc) o):Fz Tryz.prog Qv 3 [v,.agg oc] fun r=>r= .bool true:=by
 have hoA:=ho;obtain⟨dv,nv,lv,e,h1,h2,h3⟩:=ho;injection e with e;subst e;refine Jx Tryz.func3 rfl ?_;have sv:=Qz hv;have pv:=Ql.pure hv;have s1:=Qz h1;have s2:=Qz h2;have s3:=Qz h3;have p1:=Ql.pure h1;have p2:=Ql.pure h2;have p3:=Ql.pure h3;have ld:=(show Ql 1 dv (Qp o.data) o.data.length from h1).len Tryz.underlying24;have ln:=h2.len Tryz.underlying25;have ll:=(show Ql 1 lv (Jm o.lines) o.lines.length from h3).len Tryz.underlying28;have hvf:=fun(g:Get)=>Ql.frz' hv g 11;simp only[wA,↓Qc,simprocAttr,Tryz.ntmps3,sv,pv,s1,s2,s3,p1,p2,p3,V.pure,Zgp,ta,wH,wB];refine W.pcall (Q4x v cs l hv hc 40 (by decide)) rfl rfl (Qt (hvf _) rfl) ?_;rintro _ rfl;cases g1:Qlf l 40 with
 |true=>
  simp only[wA,↓Qc,simprocAttr,sv,s1,s2,s3,p1,p2,p3,V.pure,Zgp,ta,wH,wB];exact W.done (Zg.ret rfl rfl rfl)
 |false=>
  obtain⟨n1,n2,n3⟩:=Q4p g1;by_cases k1:o.data.length>10000
  . have d1:decide ((o.data.length:Int)>10000)=true:=Zig (by omega);simp only[wA,↓Qc,simprocAttr,d1,ld,sv,s1,s2,s3,p1,p2,p3,V.pure,Zgp,ta,wH,wB];exact W.done (Zg.ret rfl rfl rfl)
  have d1:decide ((o.data.length:Int)>10000)=false:=Zih (by omega);by_cases k2:o.names.length>1000
  . have d2:decide ((o.names.length:Int)>1000)=true:=Zig (by omega);simp only[wA,↓Qc,simprocAttr,d1,d2,ld,ln,sv,s1,s2,s3,p1,p2,p3,V.pure,Zgp,ta,wH,wB];exact W.done (Zg.ret rfl rfl rfl)
  have d2:decide ((o.names.length:Int)>1000)=false:=Zih (by omega);by_cases k3:o.lines.length>1000
  . have d3:decide ((o.lines.length:Int)>1000)=true:=Zig (by omega);simp only[wA,↓Qc,simprocAttr,d1,d2,d3,ld,ln,ll,sv,s1,s2,s3,p1,p2,p3,V.pure,Zgp,ta,wH,wB];exact W.done (Zg.ret rfl rfl rfl)
  have d3:decide ((o.lines.length:Int)>1000)=false:=Zih (by omega);have fo:Qvn o:=⟨by omega,by omega,by omega⟩;have hcc:¬64<l.length->Qd5 cs l:=fun h=>hc.ok (by rwa[Zhi (by omega)] at n2);simp only[wA,↓Qc,simprocAttr,d1,d2,d3,ld,ln,ll,sv,s1,s2,s3,p1,p2,p3,V.pure,Zgp,ta,wH,wB];refine W.call (Qy6 [[]] (by simp) v cs l hv hcc) rfl rfl rfl rfl rfl ?_;rintro _ H ⟨ov,rfl,hout⟩;obtain⟨rs,hrs⟩:∃rs,rs=(if 64<l.length then[] else(Zj Zq l).2):=⟨_,rfl⟩;have hfits:∀r∈rs,Qvn r:=by
   intro r hr;rw[hrs] at hr;split at hr
   . cases hr
   . exact Qu4 l Zq 0 Qka (by omega) r hr
  have hlen:rs.length<=64:=by
   rw[hrs];split
   . simp
   . rw[Qdu];omega
  have hplay:=Qxm v cs l hv hcc;have halone:=Q63 v cs l hv hcc;rw[<-hrs] at hout;simp only[<-hrs] at hplay halone;generalize(if 64<l.length then(4:Int) else 0)=er at*;obtain⟨w0,ds0,of1,of2,of3⟩:=Quv hout 8;simp only[wA,↓Qc,simprocAttr,sv,s1,s2,s3,p1,p2,p3,V.pure,Zgp,ta,wH,wB];refine W.pcall hplay rfl rfl (Qt (hvf _) rfl) ?_;rintro _ ⟨rv,os,rfl,r1,r2⟩;have srv:=Qz r1;have frv:=fun(g:Get)=>Ql.frz' r1 g 11;have oA:=fun(g:Get)=>hoA.frzA g 9;have L1:=Qh4 (Qo9 w0 rv rs ds0 os of2 r1 of3 r2 hfits (by omega));have L2:=Qh4 (Qfu o o _ _ hoA hoA fo fo);rw[Qjb] at L2;have ovs:ov.scalar=true:=by rcases hout with⟨_,rfl⟩|⟨_,_,_,_,rfl,_⟩<;>rfl
  simp only[wA,↓Qc,simprocAttr,sv,s1,s2,s3,p1,p2,p3,srv,ovs,V.pure,Zgp,ta,wH,wB];refine W.lcall L1 rfl rfl rfl rfl (Qt of1 (Qt (frv _) rfl)) ?_;rintro _ rfl;simp only[wA,↓Qc,simprocAttr,sv,s1,s2,s3,p1,p2,p3,srv,ovs,bne_self_eq_false,Zhf,V.pure,Zgp,ta,wH,wB];refine W.lcall L2 rfl rfl rfl rfl (Qt (oA _) (Qt (oA _) rfl)) ?_;rintro _ rfl;simp only[wA,↓Qc,simprocAttr,sv,s1,s2,s3,p1,p2,p3,srv,ovs,bne_self_eq_false,Zhf,V.pure,Zgp,ta,wH,wB];refine W.ul ?_;obtain⟨ocs,p,lov,atov,ldp,fap,hM⟩:=Q4j hout;refine W.loop (fun(i:Nat) t H1=>Bq [0,3,5,7,9] t 0=st3_8 v (.iptr [.int .i64 o.err,.int .i64 o.id,dv,nv,.int .i64 o.info.obj,.int .u8 o.info.kind,.int .i64 o.info.links,.int .i64 o.info.size,.str o.info.to,lv] 0) ov rv (.int .i64 i)/\i<=rs.length/\∀j r,i<=j->rs[j]?=some r->Qdg H1 ([[]].length+1) (.agg ((ocs.drop (j*10)).take 10)) r) (fun i=>rs.length-i) ?_ 0 ⟨rfl,by omega,fun j r _ hj=>hM.at_ j r hj⟩ rfl;rintro i t H1 ⟨ht,hi,hrep⟩;refine⟨_,H1,(Bo (kt:=[0,3,5,7,9]) rfl rfl).trans (by rw[ht]),?_⟩;simp only[st3_8];have key:i<rs.length\/¬i<rs.length:=Classical.em _;rcases key with h|h
  . have c1:decide ((i:Int)<rs.length)=true:=Zig (by omega);have w1:(IntKind.i64).wrap ((i:Int)+1)=((i+1:Nat):Int):=by rw[wrap_i64]<;>omega
    have hri:rs[i]?=some rs[i]:=Ze3 h;have hRi:=hrep i _ (Ze8 i) hri;have fr:=hfits _ (Zg5 h);have hMl:=hM.len;have rdc:∀x:Nat,x=i*10->Zf Tryz.prog 30 ocs x=some (.agg ((ocs.drop (i*10)).take 10)):=by rintro _ rfl;rw[Jp,if_pos (by omega)]
    have at1:=atov i h;obtain⟨d,g3,g4,g5⟩:=Qui hRi 8;have g6:frz (Qd H1) 12 (.agg ((ocs.drop (i*10)).take 10))=some (.agg d):=by show(frzL (frz (Qd H1) 11) _).map V.agg=_;rw[g3];rfl
    have x2:=r2.at_ hri;have atb:=r1.at (k:= .i64) Tryz.underlying32 Qow (by decide) (i:=(i:Int)) (by omega) (by omega);have rdb:Zf Tryz.prog 30 os ((i:Int).toNat*10)=some (.agg ((os.drop (i*10)).take 10)):=by rw[Jp,if_pos (by rw[r2.len];have:(i:Int).toNat=i:=rfl;omega)];rfl
    have L3:=Qh4 (Qfu rs[i] o d _ g5 hoA fr fo);have L4:=Qh4 (Qn5 rs[i] o d _ g5 hoA fr fo);have L5:=Qh4 (Qfu rs[i] rs[i] d _ g5 x2 fr fr);rw[Qjb] at L5;have rdi:=rdc _ rfl;simp only[wA,↓Qc,simprocAttr,c1,lov,at1,ldp,↓rdi,sv,s1,s2,s3,p1,p2,p3,srv,ovs,V.pure,Zgp,ta,wH,wB];refine W.lcallT L3 rfl rfl rfl rfl (Qt g6 (Qt (oA _) rfl)) ?_;rintro _ rfl;simp only[wA,↓Qc,simprocAttr,c1,lov,at1,ldp,↓rdi,sv,s1,s2,s3,p1,p2,p3,srv,ovs,V.pure,Zgp,ta,wH,wB];refine W.lcallT L4 rfl rfl rfl rfl (Qt g6 (Qt (oA _) rfl)) ?_;rintro _ rfl;generalize Xw rs[i] o=bb;have bne2:∀x y:Operand,X7 Tryz.prog .neq 4 x y (.bool bb) (.bool bb)=some (.bool false):=fun x y=>by cases bb<;>rfl
    simp only[wA,↓Qc,simprocAttr,bne2,bne_self_eq_false,c1,lov,at1,ldp,↓rdi,atb,↓rdb,sv,s1,s2,s3,p1,p2,p3,srv,ovs,V.pure,Zgp,ta,wH,wB];refine W.lcallT L5 rfl rfl rfl rfl (Qt g6 (Qt (x2.frzA _ 9) rfl)) ?_;rintro _ rfl;simp only[wA,↓Qc,simprocAttr,Zhf,sv,s1,s2,s3,p1,p2,p3,srv,ovs,V.pure,Zgp,ta,wH,wB];refine W.opsK (by kernel_rfl) ?_;simp only[wA,↓Qc,simprocAttr,sv,s1,s2,s3,p1,p2,p3,srv,ovs,V.pure,Zgp,ta,wH,wB];refine W.ul ?_;obtain⟨dvi,nvi,lvi,ec,hD,hN,hL⟩:=hRi;injection ec with ec;have ldi:=Q66 hD;have hOw:=Q7b hD;have hc2:ocs[i*10+2]?=some dvi:=by have:=congrArg (fun z=>z[2]?) ec;simp only[Zfh,Zhv] at this;simpa using this
    have rdd:Zf Tryz.prog 24 ocs (i*10+2)=some dvi:=by rw[rd24];exact hc2
    have hdl:=fr.d;generalize rs[i].data.length=n at*;refine W.loop (fun(k:Nat) t H2=>Bq [0,3,5,7,9,10] t 0=Q3g v (.iptr [.int .i64 o.err,.int .i64 o.id,dv,nv,.int .i64 o.info.obj,.int .u8 o.info.kind,.int .i64 o.info.links,.int .i64 o.info.size,.str o.info.to,lv] 0) ov rv (.int .i64 i) (.int .i64 k)/\k<=n/\OwnB H2 dvi n/\∀j r,i+1<=j->rs[j]?=some r->Qdg H2 ([[]].length+1) (.agg ((ocs.drop (j*10)).take 10)) r) (fun k=>n-k) ?_ 0 ⟨rfl,by omega,hOw,fun j r hj hr=>hrep j r (by omega) hr⟩ rfl;rintro k t2 H2 ⟨ht2,hk,hOw2,hrep2⟩;refine⟨_,H2,(Bo (kt:=[0,3,5,7,9,10]) rfl rfl).trans (by rw[ht2]),?_⟩;simp only[Q3g];have key2:k<n\/¬k<n:=Classical.em _;rcases key2 with hkn|hkn
    . have e1:decide ((k:Int)<n)=true:=Zig (by omega);have w2:(IntKind.i64).wrap ((k:Int)+1)=((k+1:Nat):Int):=by rw[wrap_i64]<;>omega
      rcases hOw2 with h0|⟨f,s,c,rfl,hg,hcl,hx⟩
      . exact absurd hkn (by omega)
      obtain⟨x,hxk⟩:=hx k hkn;have iam:=ia_mgB (f:=f) (s:=s) hkn;have rdk:Zf Tryz.prog 5 c k=some (.int .u8 x):=by rw[rd5];exact hxk
      have hk1:k+1<=c.length:=by omega
      simp only[wA,↓Qc,simprocAttr,e1,ldi,at1,ldp,fap,rdd,iam,Q3,Q4,hg,Qh,Qi,rdk,hk1,w2,sv,s1,s2,s3,p1,p2,p3,srv,ovs,V.pure,Zgp,ta,wH,wB];refine W.done ⟨k+1,⟨rfl,by omega,Q6z hg hcl hx hkn _,fun j r hj hr=>Q2s (hrep2 j r hj hr) hg (fun m hm=>?_)⟩,by omega⟩;have hjl:j<rs.length:=(Zf0.1 hr).1;rw[cs_at (by omega)] at hm;exact hM.dist i j f s (by omega) ⟨_,hc2⟩ ⟨m,hm⟩
    . have e1:decide ((k:Int)<n)=false:=Zih (by omega);simp only[wA,↓Qc,simprocAttr,e1,ldi,at1,ldp,fap,rdd,sv,s1,s2,s3,p1,p2,p3,srv,ovs,V.pure,Zgp,ta,wH,wB];refine W.done ?_;simp only[wA,↓Qc,simprocAttr,w1,sv,s1,s2,s3,p1,p2,p3,srv,ovs,V.pure,Zgp,ta,wH,wB];exact W.done ⟨i+1,⟨rfl,by omega,hrep2⟩,by omega⟩
  . have c1:decide ((i:Int)<rs.length)=false:=Zih (by omega);simp only[wA,↓Qc,simprocAttr,c1,lov,sv,s1,s2,s3,p1,p2,p3,srv,ovs,V.pure,Zgp,ta,wH,wB];refine W.done ?_;simp only[wA,↓Qc,simprocAttr,sv,s1,s2,s3,p1,p2,p3,srv,ovs,V.pure,Zgp,ta,wH,wB];obtain⟨vv,HH,v',q1,q2,w,ds,rfl,q3,q4⟩:=halone;have L6:=Qh4 (Qo9 w rv rs ds os q3 r1 q4 r2 hfits (by omega));have wsc:=Qz q3;refine W.uc (Qti rfl rfl (Qt (hvf _) rfl) q1 q2) ?_;simp only[wA,↓Qc,simprocAttr,wsc,sv,s1,s2,s3,p1,p2,p3,srv,ovs,V.pure,Zgp,ta,wH,wB];refine W.lcall L6 rfl rfl rfl rfl (Qt (Ql.frz' q3 _ 11) (Qt (frv _) rfl)) ?_;rintro _ rfl;simp only[wA,↓Qc,simprocAttr,wsc,sv,s1,s2,s3,p1,p2,p3,srv,ovs,V.pure,Zgp,ta,wH,wB];exact W.done (Zg.ret rfl rfl rfl)
end Go.Proofs.YtmapmgfiamfocaaGreat
namespace Go.Proofs
open Go.Shelf
def Tryz.keys76_ren:Go.Shelf.Ren:=⟨fun|7=>76|10=>84|n=>n,fun|23=>69|26=>9|3=>3|28=>119|0=>0|27=>118|33=>82|4=>4|n=>n,fun|n=>n⟩
theorem Tryz.keys76:Go.Proofs.SlLaysZ.n7 Tryz.prog Tryz.keys76_ren:={
 mixed:=by kernel_rfl
 f7:=⟨Tryz.f76.name,by decide,Tryz.func76.trans (congrArg some (by kernel_rfl))⟩
 f10:=⟨Tryz.f84.name,by decide,Tryz.func84.trans (congrArg some (by kernel_rfl))⟩
 t0:=Tryz.underlying0
 a0:=Tryz.isAgg0
 z0:=Tryz.sizeOf0
 v0:=Tryz.zeroValue0
 t4:=Tryz.underlying4
 a4:=Tryz.isAgg4
 z4:=Tryz.sizeOf4
 v4:=Tryz.zeroValue4
 t23:=Tryz.underlying69
 a23:=Tryz.isAgg69
 z23:=Tryz.sizeOf69
 v23:=Tryz.zeroValue69
 t26:=Tryz.underlying9
 a26:=Tryz.isAgg9
 z26:=Tryz.sizeOf9
 v26:=Tryz.zeroValue9
 t27:=Tryz.underlying118
 a27:=Tryz.isAgg118
 z27:=Tryz.sizeOf118
 v27:=Tryz.zeroValue118
 t28:=Tryz.underlying119
 a28:=Tryz.isAgg119
 z28:=Tryz.sizeOf119
 v28:=Tryz.zeroValue119
 t33:=Tryz.underlying82
 a33:=Tryz.isAgg82
 z33:=Tryz.sizeOf82
 v33:=Tryz.zeroValue82}
def Tryz.sorted75_ren:Go.Shelf.Ren:=⟨fun|6=>75|8=>82|9=>83|11=>89|13=>88|12=>90|23=>100|24=>101|14=>102|15=>103|16=>104|17=>105|18=>106|19=>107|20=>108|21=>109|22=>110|25=>117|26=>112|27=>113|28=>118|29=>119|30=>120|31=>122|n=>n,fun|26=>9|28=>119|24=>25|0=>0|3=>3|37=>129|48=>141|50=>143|4=>4|40=>134|39=>133|45=>109|5=>5|9=>9|51=>150|55=>154|57=>158|58=>83|33=>82|n=>n,fun|n=>n⟩
theorem Tryz.sorted75:Go.Proofs.SlLaysZ.n6 Tryz.prog Tryz.sorted75_ren:={
 mixed:=by kernel_rfl
 f6:=⟨Tryz.f75.name,by decide,Tryz.func75.trans (congrArg some (by kernel_rfl))⟩
 f8:=⟨Tryz.f82.name,by decide,Tryz.func82.trans (congrArg some (by kernel_rfl))⟩
 f11:=⟨Tryz.f89.name,by decide,Tryz.func89.trans (congrArg some (by kernel_rfl))⟩
 t0:=Tryz.underlying0
 a0:=Tryz.isAgg0
 z0:=Tryz.sizeOf0
 v0:=Tryz.zeroValue0
 t24:=Tryz.underlying25
 a24:=Tryz.isAgg25
 z24:=Tryz.sizeOf25
 v24:=Tryz.zeroValue25
 t26:=Tryz.underlying9
 a26:=Tryz.isAgg9
 z26:=Tryz.sizeOf9
 v26:=Tryz.zeroValue9
 t28:=Tryz.underlying119
 a28:=Tryz.isAgg119
 z28:=Tryz.sizeOf119
 v28:=Tryz.zeroValue119
 i26:=by kernel_rfl}
def Tryz.sort83_ren:Go.Shelf.Ren:=⟨fun|6=>83|8=>88|9=>90|19=>100|20=>101|21=>102|22=>103|23=>104|24=>105|25=>106|26=>107|27=>108|28=>109|29=>110|36=>117|31=>112|32=>113|37=>118|38=>119|39=>120|41=>122|n=>n,fun|27=>25|29=>9|3=>3|32=>129|26=>25|0=>0|44=>141|46=>143|4=>4|36=>134|35=>133|41=>109|5=>5|9=>9|53=>150|57=>154|63=>158|64=>83|n=>n,fun|n=>n⟩
theorem Tryz.sort83:Go.Proofs.SlLaysM.n6 Tryz.prog Tryz.sort83_ren:={
 mixed:=by kernel_rfl
 f6:=⟨Tryz.f83.name,by decide,Tryz.func83.trans (congrArg some (by kernel_rfl))⟩
 f8:=Tryz.func88.trans (congrArg some (by kernel_rfl))
 f9:=⟨Tryz.f90.name,by decide,Tryz.func90.trans (congrArg some (by kernel_rfl))⟩
 f19:=Tryz.func100.trans (congrArg some (by kernel_rfl))
 f20:=Tryz.func101.trans (congrArg some (by kernel_rfl))
 f21:=⟨Tryz.f102.name,by decide,Tryz.func102.trans (congrArg some (by kernel_rfl))⟩
 f22:=⟨Tryz.f103.name,by decide,Tryz.func103.trans (congrArg some (by kernel_rfl))⟩
 f23:=⟨Tryz.f104.name,by decide,Tryz.func104.trans (congrArg some (by kernel_rfl))⟩
 f24:=⟨Tryz.f105.name,by decide,Tryz.func105.trans (congrArg some (by kernel_rfl))⟩
 f25:=⟨Tryz.f106.name,by decide,Tryz.func106.trans (congrArg some (by kernel_rfl))⟩
 f26:=⟨Tryz.f107.name,by decide,Tryz.func107.trans (congrArg some (by kernel_rfl))⟩
 f27:=⟨Tryz.f108.name,by decide,Tryz.func108.trans (congrArg some (by kernel_rfl))⟩
 f28:=⟨Tryz.f109.name,by decide,Tryz.func109.trans (congrArg some (by kernel_rfl))⟩
 f29:=⟨Tryz.f110.name,by decide,Tryz.func110.trans (congrArg some (by kernel_rfl))⟩
 f31:=Tryz.func112.trans (congrArg some (by kernel_rfl))
 f32:=Tryz.func113.trans (congrArg some (by kernel_rfl))
 f36:=⟨Tryz.f117.name,by decide,Tryz.func117.trans (congrArg some (by kernel_rfl))⟩
 f37:=⟨Tryz.f118.name,by decide,Tryz.func118.trans (congrArg some (by kernel_rfl))⟩
 f38:=⟨Tryz.f119.name,by decide,Tryz.func119.trans (congrArg some (by kernel_rfl))⟩
 f39:=⟨Tryz.f120.name,by decide,Tryz.func120.trans (congrArg some (by kernel_rfl))⟩
 f41:=⟨Tryz.f122.name,by decide,Tryz.func122.trans (congrArg some (by kernel_rfl))⟩
 t0:=Tryz.underlying0
 a0:=Tryz.isAgg0
 z0:=Tryz.sizeOf0
 v0:=Tryz.zeroValue0
 t3:=Tryz.underlying3
 a3:=Tryz.isAgg3
 z3:=Tryz.sizeOf3
 v3:=Tryz.zeroValue3
 t4:=Tryz.underlying4
 a4:=Tryz.isAgg4
 z4:=Tryz.sizeOf4
 v4:=Tryz.zeroValue4
 t5:=Tryz.underlying5
 a5:=Tryz.isAgg5
 z5:=Tryz.sizeOf5
 v5:=Tryz.zeroValue5
 t9:=Tryz.underlying9
 a9:=Tryz.isAgg9
 z9:=Tryz.sizeOf9
 v9:=Tryz.zeroValue9
 t26:=Tryz.underlying25
 a26:=Tryz.isAgg25
 z26:=Tryz.sizeOf25
 v26:=Tryz.zeroValue25
 t27:=Tryz.underlying25
 a27:=Tryz.isAgg25
 z27:=Tryz.sizeOf25
 v27:=Tryz.zeroValue25
 t29:=Tryz.underlying9
 a29:=Tryz.isAgg9
 z29:=Tryz.sizeOf9
 v29:=Tryz.zeroValue9
 t32:=Tryz.underlying129
 a32:=Tryz.isAgg129
 z32:=Tryz.sizeOf129
 v32:=Tryz.zeroValue129
 t35:=Tryz.underlying133
 a35:=Tryz.isAgg133
 z35:=Tryz.sizeOf133
 v35:=Tryz.zeroValue133
 t36:=Tryz.underlying134
 a36:=Tryz.isAgg134
 z36:=Tryz.sizeOf134
 v36:=Tryz.zeroValue134
 t41:=Tryz.underlying109
 a41:=Tryz.isAgg109
 z41:=Tryz.sizeOf109
 v41:=Tryz.zeroValue109
 t44:=Tryz.underlying141
 a44:=Tryz.isAgg141
 z44:=Tryz.sizeOf141
 v44:=Tryz.zeroValue141
 t46:=Tryz.underlying143
 a46:=Tryz.isAgg143
 z46:=Tryz.sizeOf143
 v46:=Tryz.zeroValue143
 t53:=Tryz.underlying150
 a53:=Tryz.isAgg150
 z53:=Tryz.sizeOf150
 v53:=Tryz.zeroValue150
 t57:=Tryz.underlying154
 a57:=Tryz.isAgg154
 z57:=Tryz.sizeOf154
 v57:=Tryz.zeroValue154
 t63:=Tryz.underlying158
 a63:=Tryz.isAgg158
 z63:=Tryz.sizeOf158
 v63:=Tryz.zeroValue158
 t64:=Tryz.underlying83
 a64:=Tryz.isAgg83
 z64:=Tryz.sizeOf83
 v64:=Tryz.zeroValue83}
end Go.Proofs
namespace Go.Proofs
open Go.Shelf
def Tryz.keys61_ren:Go.Shelf.Ren:=⟨fun|7=>61|10=>81|n=>n,fun|23=>43|26=>3|3=>64|28=>105|0=>0|27=>104|33=>111|4=>4|n=>n,fun|n=>n⟩
theorem Tryz.keys61:Go.Proofs.SlLaysZI.n7 Tryz.prog Tryz.keys61_ren:={
 mixed:=by kernel_rfl
 f7:=⟨Tryz.f61.name,by decide,Tryz.func61.trans (congrArg some (by kernel_rfl))⟩
 f10:=⟨Tryz.f81.name,by decide,Tryz.func81.trans (congrArg some (by kernel_rfl))⟩
 t0:=Tryz.underlying0
 a0:=Tryz.isAgg0
 z0:=Tryz.sizeOf0
 v0:=Tryz.zeroValue0
 t4:=Tryz.underlying4
 a4:=Tryz.isAgg4
 z4:=Tryz.sizeOf4
 v4:=Tryz.zeroValue4
 t23:=Tryz.underlying43
 a23:=Tryz.isAgg43
 z23:=Tryz.sizeOf43
 v23:=Tryz.zeroValue43
 t26:=Tryz.underlying3
 a26:=Tryz.isAgg3
 z26:=Tryz.sizeOf3
 v26:=Tryz.zeroValue3
 t27:=Tryz.underlying104
 a27:=Tryz.isAgg104
 z27:=Tryz.sizeOf104
 v27:=Tryz.zeroValue104
 t28:=Tryz.underlying105
 a28:=Tryz.isAgg105
 z28:=Tryz.sizeOf105
 v28:=Tryz.zeroValue105
 t33:=Tryz.underlying111
 a33:=Tryz.isAgg111
 z33:=Tryz.sizeOf111
 v33:=Tryz.zeroValue111}
def Tryz.sorted60_ren:Go.Shelf.Ren:=⟨fun|6=>60|8=>79|9=>80|11=>86|13=>88|12=>87|23=>100|24=>101|14=>91|15=>92|16=>93|17=>94|18=>95|19=>96|20=>97|21=>98|22=>99|25=>111|26=>112|27=>113|28=>114|29=>115|30=>116|31=>121|n=>n,fun|26=>3|28=>105|24=>28|0=>0|3=>3|37=>129|48=>141|50=>143|4=>4|40=>134|39=>133|45=>109|5=>5|9=>9|51=>150|55=>154|57=>158|58=>83|33=>111|n=>n,fun|n=>n⟩
theorem Tryz.sorted60:Go.Proofs.SlLaysZI.n6 Tryz.prog Tryz.sorted60_ren:={
 mixed:=by kernel_rfl
 f6:=⟨Tryz.f60.name,by decide,Tryz.func60.trans (congrArg some (by kernel_rfl))⟩
 f8:=⟨Tryz.f79.name,by decide,Tryz.func79.trans (congrArg some (by kernel_rfl))⟩
 f11:=⟨Tryz.f86.name,by decide,Tryz.func86.trans (congrArg some (by kernel_rfl))⟩
 t0:=Tryz.underlying0
 a0:=Tryz.isAgg0
 z0:=Tryz.sizeOf0
 v0:=Tryz.zeroValue0
 t24:=Tryz.underlying28
 a24:=Tryz.isAgg28
 z24:=Tryz.sizeOf28
 v24:=Tryz.zeroValue28
 t26:=Tryz.underlying3
 a26:=Tryz.isAgg3
 z26:=Tryz.sizeOf3
 v26:=Tryz.zeroValue3
 t28:=Tryz.underlying105
 a28:=Tryz.isAgg105
 z28:=Tryz.sizeOf105
 v28:=Tryz.zeroValue105
 i26:=by kernel_rfl}
def Tryz.sort80_ren:Go.Shelf.Ren:=⟨fun|5=>80|8=>88|7=>87|19=>100|20=>101|10=>91|11=>92|12=>93|13=>94|14=>95|15=>96|16=>97|17=>98|18=>99|30=>111|31=>112|32=>113|33=>114|34=>115|35=>116|40=>121|n=>n,fun|23=>28|25=>3|3=>3|32=>129|22=>28|0=>0|44=>141|46=>143|4=>4|36=>134|35=>133|41=>109|5=>5|9=>9|53=>150|57=>154|63=>158|64=>83|n=>n,fun|n=>n⟩
theorem Tryz.sort80:Go.Proofs.SlLaysM.n5 Tryz.prog Tryz.sort80_ren:={
 mixed:=by kernel_rfl
 f5:=⟨Tryz.f80.name,by decide,Tryz.func80.trans (congrArg some (by kernel_rfl))⟩
 f7:=⟨Tryz.f87.name,by decide,Tryz.func87.trans (congrArg some (by kernel_rfl))⟩
 f8:=Tryz.func88.trans (congrArg some (by kernel_rfl))
 f10:=⟨Tryz.f91.name,by decide,Tryz.func91.trans (congrArg some (by kernel_rfl))⟩
 f11:=⟨Tryz.f92.name,by decide,Tryz.func92.trans (congrArg some (by kernel_rfl))⟩
 f12:=⟨Tryz.f93.name,by decide,Tryz.func93.trans (congrArg some (by kernel_rfl))⟩
 f13:=⟨Tryz.f94.name,by decide,Tryz.func94.trans (congrArg some (by kernel_rfl))⟩
 f14:=⟨Tryz.f95.name,by decide,Tryz.func95.trans (congrArg some (by kernel_rfl))⟩
 f15:=⟨Tryz.f96.name,by decide,Tryz.func96.trans (congrArg some (by kernel_rfl))⟩
 f16:=⟨Tryz.f97.name,by decide,Tryz.func97.trans (congrArg some (by kernel_rfl))⟩
 f17:=⟨Tryz.f98.name,by decide,Tryz.func98.trans (congrArg some (by kernel_rfl))⟩
 f18:=⟨Tryz.f99.name,by decide,Tryz.func99.trans (congrArg some (by kernel_rfl))⟩
 f19:=Tryz.func100.trans (congrArg some (by kernel_rfl))
 f20:=Tryz.func101.trans (congrArg some (by kernel_rfl))
 f30:=⟨Tryz.f111.name,by decide,Tryz.func111.trans (congrArg some (by kernel_rfl))⟩
 f31:=Tryz.func112.trans (congrArg some (by kernel_rfl))
 f32:=Tryz.func113.trans (congrArg some (by kernel_rfl))
 f33:=⟨Tryz.f114.name,by decide,Tryz.func114.trans (congrArg some (by kernel_rfl))⟩
 f34:=⟨Tryz.f115.name,by decide,Tryz.func115.trans (congrArg some (by kernel_rfl))⟩
 f35:=⟨Tryz.f116.name,by decide,Tryz.func116.trans (congrArg some (by kernel_rfl))⟩
 f40:=⟨Tryz.f121.name,by decide,Tryz.func121.trans (congrArg some (by kernel_rfl))⟩
 t0:=Tryz.underlying0
 a0:=Tryz.isAgg0
 z0:=Tryz.sizeOf0
 v0:=Tryz.zeroValue0
 t3:=Tryz.underlying3
 a3:=Tryz.isAgg3
 z3:=Tryz.sizeOf3
 v3:=Tryz.zeroValue3
 t4:=Tryz.underlying4
 a4:=Tryz.isAgg4
 z4:=Tryz.sizeOf4
 v4:=Tryz.zeroValue4
 t5:=Tryz.underlying5
 a5:=Tryz.isAgg5
 z5:=Tryz.sizeOf5
 v5:=Tryz.zeroValue5
 t9:=Tryz.underlying9
 a9:=Tryz.isAgg9
 z9:=Tryz.sizeOf9
 v9:=Tryz.zeroValue9
 t22:=Tryz.underlying28
 a22:=Tryz.isAgg28
 z22:=Tryz.sizeOf28
 v22:=Tryz.zeroValue28
 t23:=Tryz.underlying28
 a23:=Tryz.isAgg28
 z23:=Tryz.sizeOf28
 v23:=Tryz.zeroValue28
 t25:=Tryz.underlying3
 a25:=Tryz.isAgg3
 z25:=Tryz.sizeOf3
 v25:=Tryz.zeroValue3
 t32:=Tryz.underlying129
 a32:=Tryz.isAgg129
 z32:=Tryz.sizeOf129
 v32:=Tryz.zeroValue129
 t35:=Tryz.underlying133
 a35:=Tryz.isAgg133
 z35:=Tryz.sizeOf133
 v35:=Tryz.zeroValue133
 t36:=Tryz.underlying134
 a36:=Tryz.isAgg134
 z36:=Tryz.sizeOf134
 v36:=Tryz.zeroValue134
 t41:=Tryz.underlying109
 a41:=Tryz.isAgg109
 z41:=Tryz.sizeOf109
 v41:=Tryz.zeroValue109
 t44:=Tryz.underlying141
 a44:=Tryz.isAgg141
 z44:=Tryz.sizeOf141
 v44:=Tryz.zeroValue141
 t46:=Tryz.underlying143
 a46:=Tryz.isAgg143
 z46:=Tryz.sizeOf143
 v46:=Tryz.zeroValue143
 t53:=Tryz.underlying150
 a53:=Tryz.isAgg150
 z53:=Tryz.sizeOf150
 v53:=Tryz.zeroValue150
 t57:=Tryz.underlying154
 a57:=Tryz.isAgg154
 z57:=Tryz.sizeOf154
 v57:=Tryz.zeroValue154
 t63:=Tryz.underlying158
 a63:=Tryz.isAgg158
 z63:=Tryz.sizeOf158
 v63:=Tryz.zeroValue158
 t64:=Tryz.underlying83
 a64:=Tryz.isAgg83
 z64:=Tryz.sizeOf83
 v64:=Tryz.zeroValue83}
end Go.Proofs
namespace Go.Proofs.YtmapmgfiamfocaaGreat
open Go.AM Go.RowKit Go.Maps Go.Sort Go.Shelf
theorem Qz8(m:Nat):AnyZ.SortsIn Tryz.prog Tryz.sorted75_ren Fence.wide m:=
 ⟨fun blk off cap ss W hH hblk hsz=>callsIn_wide.2 (AnyM.slices_Sort_string Tryz.sort83 blk off cap ss W hH hblk hsz),
  fun p cap W=>callsIn_wide.2 (AnyM.slices_Sort_string_none Tryz.sort83 p cap W)⟩
set_option maxHeartbeats 1000000 in
theorem Qqb:Qq8 Tryz.prog 75 84 9:=by
 intro Bm b w es clk hBm hcell hb hst hkeys hsz;have hown:=Qwd (P:=Tryz.prog) (k:=9) Tryz.underlying9 hb hst hkeys hsz;have hseq:SeqGives Fence.wide 2 Tryz.prog 84 #[.pointer (some ⟨Bm,0,none⟩)] encStr (fun ss=>ss.Perm (strKeys (Qbj Tryz.prog 9 es))) (Maps.size (Qbj Tryz.prog 9 es)) w:=
  AnyZ.keys_gives (ρ:=Tryz.keys76_ren) {Tryz.keys76 with} Fence.wide _ trivial rfl (by omega) Bm b 1048576 _ w hBm hcell hown
 have hs:Maps.size (Qbj Tryz.prog 9 es)<=1048576:=by rw[Qpt];exact hsz
 have hc:=AnyZ.sorted_in Tryz.sorted75 Fence.wide 5 trivial trivial trivial trivial rfl (by omega) (Qz8 _) (enters_of Tryz.func83 (by kernel_rfl) rfl) 84 #[.pointer (some ⟨Bm,0,none⟩)] trivial (enters_of Tryz.func84 (by kernel_rfl) rfl) _ _ (Ze9 hs (by decide)) (by omega) w hseq;change CallsIn _ _ Tryz.prog 75 _ _ _ at hc;refine .inr ⟨75,enters_of Tryz.func75 (by kernel_rfl) rfl _ _,(callsIn_wide.1 hc).mono ?_⟩;rintro e w' ⟨v,ss,rfl,hp,hrow,hnil,hbelow⟩;exact⟨v,ss,rfl,(hp.map encStr).trans (Qqp Tryz.underlying9 hkeys),hrow,hnil,hbelow⟩
theorem Q2g(m:Nat):AnyZI.SortsIn Tryz.prog Tryz.sorted60_ren Fence.wide m:=
 ⟨fun blk off cap ss W hH hblk hsz=>callsIn_wide.2 (AnyM.slices_Sort_int Tryz.sort80 blk off cap ss W hH hblk hsz),
  fun p cap W=>callsIn_wide.2 (AnyM.slices_Sort_int_none Tryz.sort80 p cap W)⟩
set_option maxHeartbeats 1000000 in
theorem Qqv:Qpv Tryz.prog 60 81 3:=by
 intro Bm b w es clk hBm hcell hb hst hkeys hsz;have hown:=Qt5 (P:=Tryz.prog) (k:=3) Tryz.underlying3 hb hst hkeys hsz;have hseq:SeqGives Fence.wide 2 Tryz.prog 81 #[.pointer (some ⟨Bm,0,none⟩)] encZ (fun ss=>ss.Perm (intKeys (Qbj Tryz.prog 3 es))) (Maps.size (Qbj Tryz.prog 3 es)) w:=
  AnyZI.keys_gives (ρ:=Tryz.keys61_ren) {Tryz.keys61 with} Fence.wide _ trivial rfl (by omega) Bm b 1048576 _ w hBm hcell hown
 have hs:Maps.size (Qbj Tryz.prog 3 es)<=1048576:=by rw[Qpt];exact hsz
 have hc:=AnyZI.sorted_in Tryz.sorted60 Fence.wide 5 trivial trivial trivial trivial rfl (by omega) (Q2g _) (enters_of Tryz.func80 (by kernel_rfl) rfl) 81 #[.pointer (some ⟨Bm,0,none⟩)] trivial (enters_of Tryz.func81 (by kernel_rfl) rfl) _ _ (Ze9 hs (by decide)) (by omega) w hseq;change CallsIn _ _ Tryz.prog 60 _ _ _ at hc;refine .inr ⟨60,enters_of Tryz.func60 (by kernel_rfl) rfl _ _,(callsIn_wide.1 hc).mono ?_⟩;rintro e w' ⟨v,ss,rfl,hp,hrow,hnil,hbelow⟩;exact⟨v,ss,rfl,(hp.map encZ).trans (Qqf Tryz.underlying3 hkeys),hrow,hnil,hbelow⟩
theorem xClone:Qfi Tryz.prog 85 Extern.MapsClone.clone:=⟨Tryz.f85,Tryz.func85,by kernel_rfl,by kernel_rfl,by kernel_rfl,by kernel_rfl⟩
theorem okR:Qe2 Tryz.prog Qv where
 mixed:=Tryz.checked.mixed
 draws:=fun f F c hF hc=>by have:=Zh4.1 Q0g F (Array.mem_of_getElem? hF);unfold gD at this;rwa[hc] at this
 loops:=fun f F c hF hc=>by have:=Zh4.1 Q0i F (Array.mem_of_getElem? hF);unfold gL at this;rw[hc] at this;simpa using this
 num:=fun f F hF hb=>by
  have:=Zh4.1 Q6k F (Array.mem_of_getElem? hF);unfold gN at this;cases hn:F.body with
  |none=>rw[hn] at hb;cases hb
  |some c=>rw[hn] at this;simpa using this
 prim:=fun f g hg B F H E fr dst args cargs v x S hlt hr h=>by
  simp only[Qv] at hg;split at hg
  . rename_i hf;subst hf;cases hg;exact Qve xClone S hlt hr h
  . split at hg
    . rename_i hf;subst hf;cases hg;exact Qqy Qqb S hr h
    . split at hg
      . rename_i hf;subst hf;cases hg;exact Qqr Qqv S hr h
      . cases hg
end Go.Proofs.YtmapmgfiamfocaaGreat
end
