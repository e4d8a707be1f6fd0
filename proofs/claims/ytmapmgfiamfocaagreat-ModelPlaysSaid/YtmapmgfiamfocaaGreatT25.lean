/- This file holds in one the texts R15, R16, R17, R18; each says at its head what it proves. -/
import Derived.Test.YtmapmgfiamfocaaGreatT24
set_option linter.unusedSimpArgs false
set_option linter.unusedVariables false
namespace Go.Proofs.YtmapmgfiamfocaaGreat
section
set_option maxRecDepth 100000
open Go.AM Go.Mod
attribute [local irreducible] U W
set_option maxHeartbeats 4000000 in
theorem Qw6(id:Int)(ky:Int)(nv ov:V)(oc:List V)(ns:List (Qq×Int))(L:Qe)(h:LnR nv ov oc ns L)(ok:Q5 L)(c:Zc)(dv:V)(hc:Ye c dv)(hk:c.kind=15)(obj:Int)(h0:0<=obj)(h1:obj<16)(hcc:inR c.c=true)(hle:(c.data.length:Int)<=3840-c.c):
 Fz Tryz.prog Qv 26 [.agg (Qk id L.snap L.owner L.prev ky nv ov),.agg (Qf c dv),.int .i64 obj] fun r=>∃nv' ov' oc' ns',r= .agg (Qk id L.snap L.owner L.prev ky nv' ov')/\LnR nv' ov' oc' ns' (Z6 L c obj):=by
 refine Jx Tryz.func26 rfl ?_;have s1:=Qz h.n;have s2:=Qz h.o;have s3:=Qz hc.data;have p1:=Ql.pure h.n;have p2:=Ql.pure h.o;have p3:=Ql.pure hc.data;have hlen:=h.len ok;have tc:=Qee [.int .i64 0,.bool false,.int .i64 0,.int .i64 0,.int .i64 0,.nS,.nS] id ky nv ov oc ns L h ok (fun _=>rfl);obtain⟨kind,a,b,cc,name,as_,text,data⟩:=c;simp only at hk hcc hle;subst hk;simp only[wA,↓Qc,simprocAttr,Tryz.ntmps26,Qk,Qf,s1,s2,s3,p1,p2,p3,V.pure,Zgp,ta,wH,wB];refine W.call tc rfl rfl rfl rfl rfl ?_;rintro _ _ ⟨nv1,oc1,rfl,hL,hl,rfl⟩;obtain⟨ob,ra,hb⟩:=hL.ra ok h0 h1;have t1:=Qz hL.n;have t2:=Ql.cells hL.n;have t3:=Qz hb;have t4:=Ql.cells hb;have ia:=Qpm h0 h1;have c48:obj.toNat*3+3<=48:=by omega
 have ci:obj.toNat<L.objs.length:=by rw[ok.n16];omega
 have fo:=fun g m=>hL.c.frzL g (m+1);have eU:=ok.uniq;have hc1:0<=cc/\cc<=3840:=by simpa [inR] using hcc
 obtain⟨CC,rfl⟩:=Int.eq_ofNat_of_zero_le hc1.1;have ll:=hb.len Tryz.underlying24;have hE:Qx dv data:=hc.data;have le:=hE.len Tryz.underlying24;have u:=Tryz.underlying24;have hdl:=ok.dat obj;by_cases hE0:data.length=0
 . have c1:decide ((data.length:Int)>0)=false:=by simp[hE0]
   have hN:=hL.n;have hob:(∀g,frzL (frz g 10) [.int .u8 (L.ob obj).kind,.int .i64 (L.ob obj).links,ob]=some [.int .u8 (L.ob obj).kind,.int .i64 (L.ob obj).links,ob])/\Qx ob (L.ob obj).data:=⟨fun g=>by have:=hb.frz (g:=g) 9;simp only[frzL,this];rfl,hb⟩;simp only[wA,↓Qc,simprocAttr,c1,ll,le,Qk,t1,t2,t3,t4,Qj,Qy,Q3,Qh,Q4,Qi,ia,ra,hl,c48,s1,s2,s3,V.pure,Zgp,ta,wH,wB];refine W.done (Zg.ret rfl (Qa9 (ys:=splice oc1 (obj.toNat*3) [.int .u8 (L.ob obj).kind,.int .i64 (L.ob obj).links,ob]) hN rfl (by simp only[splice,Zfv,Zf9,Zga,hl,Zgz,Zg2];omega) (K9 (b' :=[.int .u8 (L.ob obj).kind,.int .i64 (L.ob obj).links,ob]) (fo _ 8) (hob.1 _) rfl _)) ⟨_,_,_,_,rfl,hN,Ql.mk ?_,?_,hL.p,hL.r⟩)
   . simp only[splice,Zfv,Zf9,Zga,hl,Zgz,Zg2];omega
   . have:=Xy.put (o:=L.ob obj) hob.2 obj.toNat ci hL.c;simp only[Z6,Qe.setOb,Qbg,hE0,if_true];exact this
 . have c1:decide ((data.length:Int)>0)=true:=Zig (by omega);generalize hD:(L.ob obj).data=D at*;obtain⟨N,hNd⟩:∃N,N=max D.length (CC+data.length):=⟨_,rfl⟩;obtain⟨WW,hWd⟩:∃WW,WW=over (Jg D N) CC data:=⟨_,rfl⟩;have hWl:WW.length=N:=by rw[hWd,overL (by rw[Qgj];omega),Qgj]
   have hwW:Qbg D CC data=WW:=by rw[Qbg,if_neg hE0,hWd,hNd]
   have wA1:(IntKind.i64).wrap ((CC:Int)+(data.length:Int))=((CC+data.length:Nat):Int):=by rw[wrap_i64]<;>omega
   have mxe:(if((CC+data.length:Nat):Int)>(D.length:Int) then((CC+data.length:Nat):Int) else(D.length:Int))=(N:Int):=by split<;>omega
   have hN2:N<=7680:=by omega
   have cB:0<=(N:Int):=Int.natCast_nonneg N;have ro:Qa1 N 1=true:=Jb (by omega) (by omega);have lm:∀g,Qaw Tryz.prog g 24 (.mS 0 102 0 N (some N) 1)=some (.int .i64 N):=fun g=>by simp only[Qaw,u]
   simp only[wA,↓Qc,simprocAttr,c1,ll,le,wA1,mxe,u,Qe5,ro,cB,Int.le_refl,and_self,Zhj,Qrk,Qk,t1,t2,t3,t4,Qj,Qy,Q3,Qh,Q4,Qi,ia,ra,hl,c48,s1,s2,s3,V.pure,Zgp,ta,wH,wB];refine W.ul ?_;refine W.loopS (kt:=[2,4,6,7,8,9,10]) rfl (fun i:Nat=>Qzi (.int .i64 obj) (.iptr [.int .u8 15,.int .i64 a,.int .i64 b,.int .i64 CC,.str name,.str as_,.str text,dv] 0) (.ptr 0 6 0) (.ptr 0 7 0) (.ptr 0 8 0) (.mS 0 102 0 N (some N) 1) (.int .i64 i)) (fun i=>[[(6,.cells zLn),(7,.cells [.int .i64 id,.bool L.snap,.int .i64 L.owner,.int .i64 L.prev,.int .i64 ky,nv1,.mg 1 37 16 3]),(8,.cells [.int .u8 (L.ob obj).kind,.int .i64 (L.ob obj).links,ob]),(102,.cells (wrX WW N i))],[(2,.cells [.int .i64 id,.bool L.snap,.int .i64 L.owner,.int .i64 L.prev,.int .i64 ky,nv1,.mg 1 37 16 3]),(3,.cells [.int .i64 id,.bool L.snap,.int .i64 L.owner,.int .i64 L.prev,.int .i64 ky,nv1,.mg 1 37 16 3]),(37,.mgrow oc1 16)]]) (fun i=>i<=N) (fun i=>N-i) ?_ 0 (by omega) rfl (by rw[Qvc];rfl);intro i hi;simp only[Qzi];have wi:(IntKind.i64).wrap ((i:Int)+1)=((i+1:Nat):Int):=by rw[wrap_i64]<;>omega
   have key:i<N\/¬i<N:=Classical.em _;rcases key with q|q
   . have d1:decide ((i:Int)<(N:Int))=true:=Zig (by omega);have ix:Zs Tryz.prog 24 (.mS 0 102 0 N (some N) 1) (.int .i64 i)=some (.ptr 0 102 i):=by
      simp only[Zs,u,sz5];rw[if_pos ⟨by omega,by omega,by first|rfl|trivial⟩];simp
     have hxl:=Qzn (W:=WW) (n:=N) (i:=i) hWl hi;have cxi:i+1<=N:=by omega
     have hg:=Q46 (l:=Jg D N) (E:=data) (o:=CC) (i:=i) (by rw[Qgj];omega) (by rw[Qgj];exact q);rw[<-hWd,Qrb q] at hg;have hD2:i<D.length->(Qp D)[(i:Int).toNat]?=some (.int .u8 (D.getD i 0).toNat):=fun q2=>by have hx:(i:Int).toNat=i:=rfl;rw[hx];unfold Qp;rw[Zhx,Ze3 q2,List.getD,Ze3 q2];rfl
     have at2:=fun(q2:i<D.length)=>hb.at (k:= .i64) u sz5 (by decide) (i:=(i:Int)) (by omega) (by omega);have at3:=fun(q3:CC<=i/\i<CC+data.length)=>hE.at (k:= .i64) u sz5 (by decide) (i:=((i-CC:Nat):Int)) (by omega) (by omega);have wS:CC<=i->(IntKind.i64).wrap ((i:Int)-(CC:Int))=((i-CC:Nat):Int):=fun q3=>by rw[wrap_i64]<;>omega
     have r1:∀A:List V,A.length=N->(List.take i A++[V.int .u8 (D.getD i 0).toNat]++List.drop (i+1) A).length=N:=fun A hA=>by simp only[Zfv,Zf9,Zga,Zgz,Zg2,hA];omega
     have r1' :=r1 _ hxl;by_cases q2:i<D.length
     . have d2:decide ((i:Int)<(D.length:Int))=true:=Zig (by omega);have g1:=hD2 q2;have g1' :(Qp D)[(i:Int).toNat*1]?=some (.int .u8 (D.getD i 0).toNat):=by rw[Zgd];exact g1
       have a2:=at2 q2;by_cases q3:CC<=i/\i<CC+data.length
       . have d3:decide ((i:Int)>=(CC:Int))=true:=Zig (by omega);have d4:decide ((i:Int)<((CC+data.length:Nat):Int))=true:=Zig (by omega);have a3:=at3 q3;have w3:=wS q3.1;rw[if_pos q3] at hg;have q4:i-CC<data.length:=by omega
         rw[Ze3 q4] at hg;have g3:(Qp data)[((i-CC:Nat):Int).toNat]?=some (.int .u8 data[i-CC].toNat):=by have hx:((i-CC:Nat):Int).toNat=i-CC:=rfl;rw[hx];unfold Qp;rw[Zhx,Ze3 q4];rfl
         have g3' :(Qp data)[((i-CC:Nat):Int).toNat*1]?=some (.int .u8 data[i-CC].toNat):=by rw[Zgd];exact g3
         have hs:=Q6d (.int .u8 (D.getD i 0).toNat) hWl q hg;have hs' :List.take i (List.take i (wrX WW N i)++[.int .u8 (D.getD i 0).toNat]++List.drop (i+1) (wrX WW N i))++[.int .u8 data[i-CC].toNat]++List.drop (i+1) (List.take i (wrX WW N i)++[.int .u8 (D.getD i 0).toNat]++List.drop (i+1) (wrX WW N i))=wrX WW N (i+1):=hs;simp only[wA,↓Qc,simprocAttr,d1,d2,d3,d4,a2,a3,w3,wA1,g1,g1',g3,g3',ix,ll,le,lm,hxl,r1',cxi,u,Qk,t1,t2,t3,t4,Qj,Qy,Q3,Qh,Q4,Qi,ia,ra,hl,c48,s1,s2,s3,V.pure,Zgp,ta,wH,wB,wi];exact W.done ⟨i+1,rfl,by simp only[hs'],by omega,by omega⟩
       . rw[if_neg q3] at hg;have hs:=Qy1 hWl q hg;have hs' :List.take i (wrX WW N i)++[.int .u8 (D.getD i 0).toNat]++List.drop (i+1) (wrX WW N i)=wrX WW N (i+1):=hs;by_cases q5:CC<=i
         . have d3:decide ((i:Int)>=(CC:Int))=true:=Zig (by omega);have d4:decide ((i:Int)<((CC+data.length:Nat):Int))=false:=Zih (by omega);simp only[wA,↓Qc,simprocAttr,d1,d2,d3,d4,a2,wA1,g1,g1',ix,ll,le,lm,hxl,cxi,u,Qk,t1,t2,t3,t4,Qj,Qy,Q3,Qh,Q4,Qi,ia,ra,hl,c48,s1,s2,s3,V.pure,Zgp,ta,wH,wB,wi];exact W.done ⟨i+1,rfl,by simp only[hs'],by omega,by omega⟩
         . have d3:decide ((i:Int)>=(CC:Int))=false:=Zih (by omega);simp only[wA,↓Qc,simprocAttr,d1,d2,d3,a2,wA1,g1,g1',ix,ll,le,lm,hxl,cxi,u,Qk,t1,t2,t3,t4,Qj,Qy,Q3,Qh,Q4,Qi,ia,ra,hl,c48,s1,s2,s3,V.pure,Zgp,ta,wH,wB,wi];exact W.done ⟨i+1,rfl,by simp only[hs'],by omega,by omega⟩
     . have d2:decide ((i:Int)<(D.length:Int))=false:=Zih (by omega);by_cases q3:CC<=i/\i<CC+data.length
       . have d3:decide ((i:Int)>=(CC:Int))=true:=Zig (by omega);have d4:decide ((i:Int)<((CC+data.length:Nat):Int))=true:=Zig (by omega);have a3:=at3 q3;have w3:=wS q3.1;rw[if_pos q3] at hg;have q4:i-CC<data.length:=by omega
         rw[Ze3 q4] at hg;have g3:(Qp data)[((i-CC:Nat):Int).toNat]?=some (.int .u8 data[i-CC].toNat):=by have hx:((i-CC:Nat):Int).toNat=i-CC:=rfl;rw[hx];unfold Qp;rw[Zhx,Ze3 q4];rfl
         have g3' :(Qp data)[((i-CC:Nat):Int).toNat*1]?=some (.int .u8 data[i-CC].toNat):=by rw[Zgd];exact g3
         have hs:=Qy1 hWl q hg;have hs' :List.take i (wrX WW N i)++[.int .u8 data[i-CC].toNat]++List.drop (i+1) (wrX WW N i)=wrX WW N (i+1):=hs;simp only[wA,↓Qc,simprocAttr,d1,d2,d3,d4,a3,w3,wA1,g3,g3',ix,ll,le,lm,hxl,cxi,u,Qk,t1,t2,t3,t4,Qj,Qy,Q3,Qh,Q4,Qi,ia,ra,hl,c48,s1,s2,s3,V.pure,Zgp,ta,wH,wB,wi];exact W.done ⟨i+1,rfl,by simp only[hs'],by omega,by omega⟩
       . have hD0:D.getD i 0=0:=by rw[List.getD,Ze6 (by omega)];rfl
         rw[if_neg q3,hD0] at hg;have hs' :=Q6v q hg;have d3:decide ((i:Int)>=(CC:Int))=false:=Zih (by omega);simp only[wA,↓Qc,simprocAttr,d1,d2,d3,wA1,ix,ll,le,lm,u,Qk,t1,t2,t3,t4,Qj,Qy,Q3,Qh,Q4,Qi,ia,ra,hl,c48,s1,s2,s3,V.pure,Zgp,ta,wH,wB,wi];exact W.done ⟨i+1,rfl,by simp only[<-hs'],by omega,by omega⟩
   . have e:i=N:=by omega
     have d1:decide ((i:Int)<(N:Int))=false:=Zih (by omega);rw[show wrX WW N i=Qp WW by rw[e];exact Qza hWl];simp only[wA,↓Qc,simprocAttr,d1,ll,le,lm,Qk,t1,t2,t3,t4,Qj,Qy,Q3,Qh,Q4,Qi,ia,ra,hl,c48,s1,s2,s3,V.pure,Zgp,ta,wH,wB];refine W.done ?_;simp only[wA,↓Qc,simprocAttr,zLn,Qpl,Qk,t1,t2,t3,t4,Qj,Qy,Q3,Qh,Q4,Qi,ia,ra,hl,c48,s1,s2,s3,V.pure,Zgp,ta,wH,wB];have hN:=hL.n;have hW:=hWl;have hfz:∀g:Get,g 0 102=some (.cells (Qp WW))->frzL (frz g 10) [.int .u8 (L.ob obj).kind,.int .i64 (L.ob obj).links,.mS 0 102 0 N (some N) 1]=some [.int .u8 (L.ob obj).kind,.int .i64 (L.ob obj).links,.iS (Qp WW) N true]:=fun g hg=>by have:=Qx6 (m:=8) hg hW;simp only[frzL,this];rfl
     refine W.done (Zg.ret rfl (Qa9 (ys:=splice oc1 (obj.toNat*3) [.int .u8 (L.ob obj).kind,.int .i64 (L.ob obj).links,.iS (Qp WW) N true]) hN rfl (by simp only[splice,Zfv,Zf9,Zga,hl,Zgz,Zg2];omega) (K9 (b' :=[.int .u8 (L.ob obj).kind,.int .i64 (L.ob obj).links,.iS (Qp WW) N true]) (fo _ 8) (hfz _ rfl) rfl _)) ⟨_,_,_,_,rfl,hN,Ql.mk ?_,?_,hL.p,hL.r⟩)
     . simp only[splice,Zfv,Zf9,Zga,hl,Zgz,Zg2];omega
     . have hby:Qx (.iS (Qp WW) N true) WW:=by
        have:=Qx.mk WW true;rw[hW] at this;exact this
       have:=Xy.put (o:={L.ob obj with data:=WW}) hby obj.toNat ci hL.c;simp only[Z6,Qe.setOb];rw[hD];rw[show Qbg D ((CC:Int)).toNat data=WW from hwW];exact this
end
section
set_option maxRecDepth 100000
open Go.AM Go.Mod
def Z9(L:Qe)(c:Zc):Qe×Zi:=
 if(Q6 L c).2≠0 then(L,Zl (Q6 L c).2) else if c.kind=14\/c.kind=17\/c.kind=18 then(L,Bs L c (Q6 L c).1)
 else if L.snap then(L,Zl 202) else(Z6 L c (Q6 L c).1,Zl 0)
theorem Qk4(L L' :Qe)(e:Int):L.turn e L' =if e≠0 then(L,Zl e) else if L.snap then(L,Zl 202) else(L',Zl 0):=by
 unfold Qe.turn Y1;by_cases h:e=0
 . simp only[h,if_true,ne_eq,not_true_eq_false,if_false];cases L.snap<;>simp
 . simp[h]
theorem Q4u(L:Qe)(s:Qq)(o:Bw):L.add s o=if(if Kj L.names s=0/\L.free=16 then(9:Int) else Kj L.names s)≠0 then(L,Zl (if Kj L.names s=0/\L.free=16 then 9 else Kj L.names s)) else if L.snap then(L,Zl 202) else
 ({L with objs:=L.objs.set L.free o,names:=L.names++[(s,(L.free:Int))]},Zl 0):=by
 unfold Qe.add Qp2;by_cases h:Kj L.names s=0
 . by_cases h2:L.free=16
   . simp[h,h2]
   . cases hs:L.snap<;>simp[h,h2,hs]
 . simp[h]
theorem Q55(L:Qe):1<=L.free/\L.free<=16:=Qp6 L 15 1 (by omega)
theorem Q5o{L:Qe}(ok:Q5 L)(c:Zc)(hk:9<=c.kind/\c.kind<=18):Kx c.kind L c=Z9 L c:=by
 have hz:∀s m,Zb L.names s=some m->m≠0:=fun s m h=>by have:=ok.num h;omega
 obtain⟨kind,a,b,cc,name,as_,text,data⟩:=c;simp only at hk;have hk' :kind=9\/kind=10\/kind=11\/kind=12\/kind=13\/kind=14\/kind=15\/kind=16\/kind=17\/kind=18:=by omega
 rcases hk' with rfl|rfl|rfl|rfl|rfl|rfl|rfl|rfl|rfl|rfl
 . show L.make _=_;unfold Qe.make;rw[Q4u];simp[Z9,Q6,Z6,Qe.setOb]
 . show L.point _=_;unfold Qe.point Kh;cases hn:X8 as_ with
   |false=>simp[Z9,Q6,hn]
   |true=>
    simp only[if_true,ne_eq,not_true_eq_false,if_false];rw[Q4u];simp[Z9,Q6,Z6,Qe.setOb,hn]
 . show L.link _=_;unfold Qe.link Qfm Kh;simp only;rw[Qk4];cases hn:X8 as_ with
   |false=>simp[Z9,Q6,hn]
   |true=>
    cases hs:Zb L.names name with
    |none=>simp[Z9,Q6,hn,hs]
    |some m=>
     have hm:=hz _ _ hs;by_cases h1:(L.ob m).kind=1
     . cases ht:(Zb L.names as_).isSome with
       |true=>
        have hr:Kj L.names as_=241:=by unfold Kj;rw[ht];rfl
        simp[Z9,Q6,hn,hs,hm,h1,ht,hr]
       |false=>simp[Z9,Q6,Z6,hn,hs,hm,h1,ht]
     . simp[Z9,Q6,hn,hs,hm,h1]
 . show L.unlink _=_;unfold Qe.unlink;simp only;rw[Qk4];cases hs:Zb L.names name with
   |none=>simp[Z9,Q6,hs]
   |some m=>
    have hm:=hz _ _ hs;simp[Z9,Q6,Z6,hs,hm]
 . show L.rename _=_;unfold Qe.rename Qaf Kh;rw[Qk4];cases hn:X8 as_ with
   |false=>simp[Z9,Q6,hn]
   |true=>
    cases hs:Zb L.names name with
    |none=>simp[Z9,Q6,hn,hs]
    |some m=>
     have hm:=hz _ _ hs;cases ht:(Zb L.names as_).isSome<;>simp[Z9,Q6,Z6,hn,hs,hm,ht]
 . show L.read _=_;unfold Qe.read;cases hb:inR b with
   |false=>simp[Z9,Q6,hb]
   |true=>
    cases hcc:inR cc with
    |false=>simp[Z9,Q6,hb,hcc]
    |true=>
     by_cases hf:(L.follow 9 name).2=0
     . simp[Z9,Q6,Bs,hb,hcc,hf]
     . simp[Z9,Q6,hb,hcc,hf]
 . show L.write _=_;unfold Qe.write;cases hcc:inR cc with
   |false=>simp[Z9,Q6,hcc]
   |true=>
    cases hd:decide ((data.length:Int)>3840-cc) with
    |true=>simp only[hcc,Zhf,Bool.false_or,if_true];simp[Z9,Q6,hcc,hd]
    |false=>
     simp only[hcc,Zhf,Zhq,Ze7,if_false];rw[Qk4];simp[Z9,Q6,Z6,hcc,hd]
 . show L.cut _=_;unfold Qe.cut;cases hb:inR b with
   |false=>simp[Z9,Q6,hb]
   |true=>
    simp only[Zhf,Ze7,if_false];rw[Qk4];simp[Z9,Q6,Z6,hb]
 . show L.stat _=_;unfold Qe.stat
   cases hs:Zb L.names name with
   |none=>simp[Z9,Q6,hs]
   |some m=>
    have hm:=hz _ _ hs;simp[Z9,Q6,Bs,hs,hm]
 . show L.list=_;simp[Z9,Q6,Bs,Qe.list]
theorem Qms{L:Qe}(ok:Q5 L)(c:Zc)(hk:9<=c.kind/\c.kind<=18)(h0:(Q6 L c).2=0):0<=(Q6 L c).1/\(Q6 L c).1<16:=by
 have hz:∀s,0<=(Zb L.names s).getD 0/\(Zb L.names s).getD 0<16:=fun s=>by
  cases h:Zb L.names s with
  |none=>simp
  |some m=>have:=ok.num h;simp;omega
 have hf:=Q55 L;have hw:=Qb1 ok 9 c.name;have hn:=hz c.name;unfold Q6 at h0⊢;simp only at h0⊢;by_cases k1:c.kind=9\/c.kind=10
 . rw[if_pos k1] at h0⊢;by_cases k2:c.kind=10/\X8 c.as_=false
   . rw[if_pos k2];simp
   . rw[if_neg k2] at h0⊢;simp only at h0⊢;by_cases k3:L.free=16
     . exfalso;by_cases k4:Kj L.names c.name=0<;>simp[k3,k4] at h0
     . omega
 . rw[if_neg k1] at h0⊢;by_cases k2:c.kind=11\/c.kind=13
   . rw[if_pos k2]
     repeat' split
     all_goals first|(simp only;omega)|exact hn
   . rw[if_neg k2] at h0⊢;by_cases k3:c.kind=12\/c.kind=17
     . rw[if_pos k3];split
       . simp
       . exact hn
     . rw[if_neg k3] at h0⊢;by_cases k4:c.kind=18
       . rw[if_pos k4];simp
       . rw[if_neg k4];generalize(if c.kind=14 then _ else _:Bool)=q;cases q
         . exact hw
         . simp
theorem Qpq(id:Int)(ky:Int)(nv ov:V)(oc:List V)(ns:List (Qq×Int))(L:Qe)(h:LnR nv ov oc ns L)(ok:Q5 L)(c:Zc)(dv:V)(hc:Ye c dv)(hk:9<=c.kind/\c.kind<=18)(hl:¬(c.kind=14\/c.kind=17\/c.kind=18))(h0:(Q6 L c).2=0):
 Fz Tryz.prog Qv 26 [.agg (Qk id L.snap L.owner L.prev ky nv ov),.agg (Qf c dv),.int .i64 (Q6 L c).1] fun r=>∃nv' ov' oc' ns',r= .agg (Qk id L.snap L.owner L.prev ky nv' ov')/\LnR nv' ov' oc' ns' (Z6 L c (Q6 L c).1):=by
 have hr:=Qms ok c hk h0;have hk' :c.kind=9\/c.kind=10\/c.kind=11\/c.kind=12\/c.kind=13\/c.kind=15\/c.kind=16:=by omega
 rcases hk' with k|k|k|k|k|k|k
 . exact Q0p id ky nv ov oc ns L h ok c dv hc k _ hr.1 hr.2
 . exact Qyg id ky nv ov oc ns L h ok c dv hc k _ hr.1 hr.2
 . exact Qxd id ky nv ov oc ns L h ok c dv hc k _ hr.1 hr.2
 . exact Qxy id ky nv ov oc ns L h ok c dv hc k _ hr.1 hr.2
 . exact Qxs id ky nv ov oc ns L h ok c dv hc k _ hr.1 hr.2
 . have hb:inR c.c=true/\(c.data.length:Int)<=3840-c.c:=by
    unfold Q6 at h0;simp[k] at h0;cases hcc:inR c.c with
    |false=>simp[hcc] at h0
    |true=>
     refine⟨rfl,?_⟩;by_cases q:(c.data.length:Int)>3840-c.c
     . rw[hcc] at h0;have q2:3840-c.c<(c.data.length:Int):=q;simp[q2] at h0
     . omega
   exact Qw6 id ky nv ov oc ns L h ok c dv hc k _ hr.1 hr.2 hb.1 hb.2
 . have hb:inR c.b=true:=by
    unfold Q6 at h0;simp[k] at h0;cases hcc:inR c.b with
    |false=>simp[hcc] at h0
    |true=>rfl
   exact Qyi id ky nv ov oc ns L h ok c dv hc k _ hr.1 hr.2 hb
theorem Qr5(id:Int)(ky:Int)(nv ov:V)(oc:List V)(ns:List (Qq×Int))(L:Qe)(h:LnR nv ov oc ns L)(ok:Q5 L)(c:Zc)(dv:V)(hc:Ye c dv)(hk:9<=c.kind/\c.kind<=18)(hl:c.kind=14\/c.kind=17\/c.kind=18)(h0:(Q6 L c).2=0):
 Fz Tryz.prog Qv 24 [.agg (Qk id L.snap L.owner L.prev ky nv ov),.agg (Qf c dv),.int .i64 (Q6 L c).1] fun r=>Y4 r (Bs L c (Q6 L c).1):=by
 have hr:=Qms ok c hk h0;rcases hl with k|k|k
 . have hb:inR c.b=true/\inR c.c=true:=by
    unfold Q6 at h0;simp[k] at h0;cases h1:inR c.b<;>cases h2:inR c.c<;>simp[h1,h2] at h0⊢
   exact Quh id ky nv ov oc ns L h ok c dv hc k hb.1 hb.2 _ hr.1 hr.2
 . exact Quo id ky nv ov oc ns L h ok c dv hc k _ hr.1 hr.2
 . exact Qwj id ky nv ov oc ns L h ok c dv hc k _
attribute [local irreducible] U W
theorem Ql.frz' {esz n:Nat}{v:V}{cells:List V}(h:Ql esz v cells n)(g:Get)(m:Nat):AM.frz g (m+1) v=some v:=h.frz m
theorem Kn{made:Int}{pv lv hv:V}{a b c:Nat}{ca cb cc:List V}{x y z:Nat}(h1:Ql a pv ca x)(h2:Ql b lv cb y)(h3:Ql c hv cc z)(g:Get)(m:Nat):frz g (m+2) (.agg (Qo made pv lv hv))=some (.agg (Qo made pv lv hv)):=by have f1:=Ql.frz' h1 g m;have f2:=Ql.frz' h2 g m;have f3:=Ql.frz' h3 g m;show(frzL (frz g (m+1)) _).map V.agg=_;simp only[Qo,frzL,f1,f2,f3];rfl
theorem Q58(pv lv hv:V)(cs:List V)(S:MSt)(h:HsR pv lv hv cs S)(k:Nat)(ok:J1 S k)(hk:S.keys.length<=1000)(hl:S.lines.length<=1000):
 Fz Tryz.prog Qv 25 [.agg (Qo S.last pv lv hv)] fun r=>Ke r S:=by
 refine Fz.of_cw ((Q2r pv lv hv cs S h k ok hk hl).mono ?_);rintro r H' (⟨h1,h2,rfl,rfl⟩|⟨h1,cs',h2,rfl,rfl⟩)
 . refine⟨_,rfl,_,rfl,.nS,.nS,.nS,[],rfl,⟨?_,?_,?_,?_⟩⟩
   . simp only[Jd,h1];exact Ql.nil
   . simp only[Zu,h1];exact Ql.nil
   . rw[h2];exact Ql.nil
   . rw[h2];rfl
 . have hkl:S.keys.length≠0:=fun e=>h1 (Zf7 e);have hl2:=h2.len;by_cases hi0:S.lines.length=0
   . have hl0:S.lines=[]:=Zf7 hi0;refine⟨_,rfl,.agg (Qo S.last (.iS (Jd S) S.keys.length false) (.iS (Zu S) S.keys.length false) .nS),?_,_,_,_,[],rfl,⟨Ql.mk (by rw[Qh6];omega),Ql.mk (by rw[Jz];omega),by rw[hl0];exact Ql.nil,by rw[hl0];rfl⟩⟩;generalize hg:Qd [Bt 0 S (twV 0 S S.lines.length) cs' S.lines.length]=g;have g18:g 0 18=some (.mgrow (Zu S) S.keys.length):=by rw[<-hg];rfl
     have f1:frz g 11 (.gS 0 12 (Jd S) S.keys.length 1)=some (.iS (Jd S) S.keys.length false):=by show(frzL (frz g 10) (Jd S)).map _=_;rw[show frzL (frz g 10) (Jd S)=some (Jd S) from(Bd S.keys).2 g 9];rfl
     have f2:frz g 11 (.mg 0 18 S.keys.length 1)=some (.iS (Zu S) S.keys.length false):=by
      show(match g 0 18 with
       |some (.mgrow xs k)=>if k=S.keys.length/\xs.length=S.keys.length*1 then(frzL (frz _ 10) xs).map fun cs=>V.iS cs S.keys.length false else none
       |_=>none)=_
      rw[g18];have:(Zu S).length=S.keys.length*1:=by rw[Jz];omega
      simp only[this,and_self,if_true];rw[show frzL (frz g 10) (Zu S)=some (Zu S) from(Y9 S.keys).2 g 9];rfl
     show(frzL (frz g 11) _).map V.agg=_;simp only[twV,Qo,hi0,if_true,frzL,f1,f2];rfl
   . refine⟨_,rfl,.agg (Qo S.last (.iS (Jd S) S.keys.length false) (.iS (Zu S) S.keys.length false) (.iS cs' S.lines.length false)),?_,_,_,_,cs',rfl,⟨Ql.mk (by rw[Qh6];omega),Ql.mk (by rw[Jz];omega),Ql.mk hl2,h2⟩⟩;generalize hg:Qd [Bt 0 S (twV 0 S S.lines.length) cs' S.lines.length]=g;have g18:g 0 18=some (.mgrow (Zu S) S.keys.length):=by rw[<-hg];rfl
     have g36:g 0 36=some (.mgrow cs' S.lines.length):=by rw[<-hg];simp[Qd,Bt,Qa4,hi0]
     have f1:frz g 11 (.gS 0 12 (Jd S) S.keys.length 1)=some (.iS (Jd S) S.keys.length false):=by show(frzL (frz g 10) (Jd S)).map _=_;rw[show frzL (frz g 10) (Jd S)=some (Jd S) from(Bd S.keys).2 g 9];rfl
     have f2:frz g 11 (.mg 0 18 S.keys.length 1)=some (.iS (Zu S) S.keys.length false):=by
      show(match g 0 18 with
       |some (.mgrow xs k)=>if k=S.keys.length/\xs.length=S.keys.length*1 then(frzL (frz _ 10) xs).map fun cs=>V.iS cs S.keys.length false else none
       |_=>none)=_
      rw[g18];have:(Zu S).length=S.keys.length*1:=by rw[Jz];omega
      simp only[this,and_self,if_true];rw[show frzL (frz g 10) (Zu S)=some (Zu S) from(Y9 S.keys).2 g 9];rfl
     have f3:frz g 11 (.mg 0 36 S.lines.length 7)=some (.iS cs' S.lines.length false):=by
      show(match g 0 36 with
       |some (.mgrow xs k)=>if k=S.lines.length/\xs.length=S.lines.length*7 then(frzL (frz _ 10) xs).map fun cs=>V.iS cs S.lines.length false else none
       |_=>none)=_
      rw[g36];simp only[hl2,and_self,if_true];rw[h2.scal.2.2.2 g 8];rfl
     show(frzL (frz g 11) _).map V.agg=_;simp only[twV,Qo,hi0,if_false,frzL,f1,f2,f3];rfl
def Qnb(l:List (Int×Qe))(k:Nat)(a b:Int)(i:Nat):List (Int×Qe):=(Xs (l.take i) a b).eraseIdx k
def Qnh(p:Int×Qe)(a b:Int):Int×Qe:=if p.2.prev=a then(p.1,{p.2 with prev:=b}) else p
theorem Qie(l:List (Int×Qe))(a b:Int):Xs l a b=l.map fun p=>Qnh p a b:=rfl
theorem Q0c{l:List (Int×Qe)}{k i:Nat}{a b:Int}(h:i<l.length):Qnb l k a b (i+1)=if i=k then Qnb l k a b i else Qnb l k a b i++[Qnh l[i] a b]:=by
 unfold Qnb;rw[Zg6,Ze3 h,Zhu,Qie,Qie,Zgw];have hl:((l.take i).map fun p=>Qnh p a b).length=i:=by simp;omega
 generalize(l.take i).map (fun p=>Qnh p a b)=A at*;simp only[Zfn,Zfo];by_cases e:i=k
 . rw[if_pos e,List.eraseIdx_append_of_length_le (by omega),show k-A.length=0 by omega,List.eraseIdx_of_length_le (by omega:A.length<=k)];simp
 . rw[if_neg e];by_cases e2:i<k
   . rw[List.eraseIdx_of_length_le (by simp;omega),List.eraseIdx_of_length_le (by omega:A.length<=k)]
   . rw[List.eraseIdx_append_of_lt_length (by omega)]
theorem Q1l{l:List (Int×Qe)}{i:Nat}{a:Int}(h:i<l.length):Qdy (l.take (i+1)) a=Qdy (l.take i) a+(if l[i].2.snap&&decide (l[i].2.owner=a) then 1 else 0):=by unfold Qdy;rw[Zg6,Ze3 h,Zhu,Zh2,Zfv];cases hq:l[i].2.snap&&decide (l[i].2.owner=a)<;>simp[Zhy,hq]
theorem Qxh{l:List (Int×Qe)}{i:Nat}{a:Int}(h:i<l.length):Qal (l.take (i+1)) a=Qal (l.take i) a+(if l[i].2.prev=a then 1 else 0):=by unfold Qal;rw[Zg6,Ze3 h,Zhu,Zh2,Zfv];by_cases hq:l[i].2.prev=a<;>simp[Zhy,hq]
theorem Q7y(l:List (Int×Qe))(a:Int):Qdy l a<=l.length:=Zhz _ _
theorem Q49(l:List (Int×Qe))(a:Int):Qal l a<=l.length:=Zhz _ _
def Qqa(S:MSt)(a:Int)(L:Qe):Bool:=(L.snap&&decide (1<Qal S.lines a))||(!L.snap&&decide (0<Qdy S.lines a))
def dsF(made:Int)(pv lv:V)(ln:List V)(ex:Option (List V))(ds:List V)(m:Nat):AM.Frame:=(4,.cells zH)::(5,.cells Ze)::(6,.cells ln)::(7,.cells [.int .i64 made,pv,lv,Ji 61 ds m 7])::(match ex with
 |none=>Kb 61 m
 |some xs=>(11,.cells xs)::Kb 61 m)
set_option maxHeartbeats 8000000 in
theorem Qsj(pv lv hv:V)(cs:List V)(S:MSt)(h:HsR pv lv hv cs S)(k:Nat)(ok:J1 S k)(hkn:S.keys.length<=1000)(hl:S.lines.length<=1000)(j:Nat)(hj:j<S.lines.length):
 Fz Tryz.prog Qv 51 [.agg (Qo S.last pv lv hv),.int .i64 j] fun r=>∃hv',Ke hv' (if Qqa S S.lines[j].1 S.lines[j].2 then S else{S with lines:=Qnb S.lines j S.lines[j].1 S.lines[j].2.prev S.lines.length})/\r= .tuple [hv',Q7 (if Qqa S S.lines[j].1 S.lines[j].2 then 230 else 0)]:=by
 refine Jx Tryz.func51 rfl ?_;have s1:=Qz h.p;have s2:=Qz h.l;have s3:=Qz h.h;have p1:=Ql.pure h.p;have p2:=Ql.pure h.l;have p3:=Ql.pure h.h;have lh:=h.h.len Tryz.underlying48;have u:=Tryz.underlying48;have m60:Qv.mt 51 60=false:=rfl;have ra:=fun(i:Nat) (hi:i<S.lines.length)=>show Zf Tryz.prog 81 cs ((i:Int).toNat*7)=some (.agg ((cs.drop (i*7)).take 7)) by rw[Qj7,if_pos (by rw[h.c.len];have:(i:Int).toNat=i:=rfl;omega)];rfl
 have at1:=fun(i:Nat) (hi:i<S.lines.length)=>h.h.at (k:= .i64) u Qa2 (by decide) (i:=(i:Int)) (by omega) (by omega);obtain⟨nv,ov,oc,ns,he,hL⟩:=h.c.at_ j hj;have raj:=ra j hj;rw[he] at raj;have atj:=at1 j hj;have t1:=Qz hL.n;have t2:=Qz hL.o;simp only[wA,↓Qc,simprocAttr,Tryz.ntmps51,Qo,Qk,s1,s2,s3,t1,t2,p1,p2,p3,V.pure,Zgp,atj,↓raj,ta,wH,wB];refine W.pcall (Q58 pv lv hv cs S h k ok hkn hl) rfl rfl (Qt (Kn h.p h.l h.h _ 10) rfl) ?_;rintro _ ⟨pv',lv',hv',cs',rfl,h'⟩;have r1:=Qz h'.p;have r2:=Qz h'.l;have r3:=Qz h'.h;have n1:=Ql.noRefs h'.p;have n2:=Ql.noRefs h'.l;generalize hid:S.lines[j].1=id at*;generalize hLL:S.lines[j].2=L at*;simp only[wA,↓Qc,simprocAttr,Qo,Qk,r1,r2,r3,t1,t2,ta,wH,wB];refine W.ul ?_;refine W.loop (fun(i:Nat) t H1=>∃ds ex,Bq [1,2,4,5,6,7,8,9,10] t 0=Qr7 (.int .i64 j) (.iptr [.int .i64 S.last,pv,lv,hv] 0) (.ptr 0 4 0) (.ptr 0 5 0) (.ptr 0 6 0) (.ptr 0 7 0) (.int .i64 (Qdy (S.lines.take i) id:Nat)) (.int .i64 (Qal (S.lines.take i) id:Nat)) (.int .i64 i)/\i<=S.lines.length/\
  Zy ds (Qnb S.lines j id L.prev i)/\H1=[dsF S.last pv' lv' (Qk id L.snap L.owner L.prev (L.key:Int) nv ov) ex ds (Qnb S.lines j id L.prev i).length]) (fun i=>S.lines.length-i) ?_ 0 ⟨[],none,rfl,by omega,rfl,rfl⟩ rfl
 rintro i t H1 ⟨ds,ex,ht,hi,hds,rfl⟩;obtain⟨m,hm⟩:∃m,m=(Qnb S.lines j id L.prev i).length:=⟨_,rfl⟩;have hdl:=hds.len;rw[<-hm] at hdl⊢;have hml:m<=1000:=by rw[hm];unfold Qnb;have:=List.length_eraseIdx_le (Xs (S.lines.take i) id L.prev) j;rw[Qie,Zgu,Zf9] at this;rw[Qie];omega
 have n3:∀p,p 0 61=false->(Ji 61 ds m 7).refs p=false:=fun p hp=>by
  unfold Ji;split
  . rfl
  . simp only[V.refs,hp,hds.scal.2.2.1 p,Zhq]
 have n4:∀p,Jt p (Kb 61 m)=true:=fun p=>by unfold Kb;split<;>rfl
 have sc61:(Ji 61 ds m 7).scalar=true:=by unfold Ji;split<;>rfl
 have cl61:(Ji 61 ds m 7).cells=some [Ji 61 ds m 7]:=by unfold Ji;split<;>rfl
 have hdel:[dsF S.last pv' lv' (Qk id L.snap L.owner L.prev (L.key:Int) nv ov) ex ds m].modify 0 (Xq fun s=>[11].contains s)=[dsF S.last pv' lv' (Qk id L.snap L.owner L.prev (L.key:Int) nv ov) none ds m]:=by cases ex<;>(unfold dsF Kb;by_cases q:m=0<;>simp[q,Xq])
 have hclr:Jj (fun f s=>f==0&&[11].contains s) [dsF S.last pv' lv' (Qk id L.snap L.owner L.prev (L.key:Int) nv ov) none ds m]=true:=by simp[Jj,dsF,Jt,O.refs,Zv,V.refs,zH,Ze,Qk,n1,n2,n3,n4,Ql.noRefs hL.n,Ql.noRefs hL.o]
 refine⟨_,[dsF S.last pv' lv' (Qk id L.snap L.owner L.prev (L.key:Int) nv ov) none ds m],(Qau (kt:=[1,2,4,5,6,7,8,9,10]) (ds:=[11]) rfl (by rw[ht];simp[Qr7,Zv,V.refs]) (by rw[hdel];exact hclr)).trans (by rw[ht,hdel]),?_⟩;have key:i<S.lines.length\/¬i<S.lines.length:=Classical.em _;have ho1:=Q7y (S.lines.take i) id;have hn1:=Q49 (S.lines.take i) id;rw[Zf9,Zgb hi] at ho1 hn1;rcases key with q|q
 . have c1:decide ((i:Int)<S.lines.length)=true:=Zig (by omega);have wi:(IntKind.i64).wrap ((i:Int)+1)=((i+1:Nat):Int):=by rw[wrap_i64]<;>omega
   have wo:(IntKind.i64).wrap ((Qdy (S.lines.take i) id:Int)+1)=((Qdy (S.lines.take i) id+1:Nat):Int):=by rw[wrap_i64]<;>omega
   have wn:(IntKind.i64).wrap ((Qal (S.lines.take i) id:Int)+1)=((Qal (S.lines.take i) id+1:Nat):Int):=by rw[wrap_i64]<;>omega
   have ati:=at1 i q;have rai:=ra i q;have hos:=Q1l (a:=id) q;have hns:=Qxh (a:=id) q;have has:=Q0c (k:=j) (a:=id) (b:=L.prev) q;have hxl:=h.c.at_ i q;have okX:Q5 S.lines[i].2:=ok.ok _ (Zg5 q);obtain⟨nx,ox,ocx,nsx,hex,hX⟩:=hxl;rw[hex] at rai;generalize hx1:S.lines[i].1=xid at*;generalize hx2:S.lines[i].2=X at*;have hxp:S.lines[i]=(xid,X):=by rw[<-hx1,<-hx2]
   have pure:∀(nv' ov' :V) (oc' :List V),LnR nv' ov' oc' nsx X->∀b' :Int,LnC (Qk xid X.snap X.owner b' (X.key:Int) nv' ov') (xid,{X with prev:=b' }):=fun nv' ov' oc' hq b' =>⟨nv',ov',oc',nsx,rfl,⟨hq.n,hq.o,hq.c,hq.p,hq.r⟩⟩;simp only[wA,↓Qc,simprocAttr,Qr7,dsF,c1,lh,ati,↓rai,Qk,s1,s2,s3,ta,wH,wB];refine W.pcall (Qem _ _ nx ox ocx nsx _ hX okX) rfl rfl (Qt (Qbb hX.n hX.o) rfl) ?_;rintro _ ⟨nx',ox',ocx',rfl,hX'⟩;have x1:=Qz hX'.n;have x2:=Qz hX'.o;have x3:=Ql.pure hX'.n;have x4:=Ql.pure hX'.o;have g5:Qa4 (Kb 61 m) 11=none:=by unfold Kb;split<;>rfl
   have lc:=pure nx' ox' ocx' hX';by_cases hm0:m=0
   . have og:Ji 61 ds m 7= .nS:=by unfold Ji;rw[if_pos hm0]
     have oh:Kb 61 m=[]:=by unfold Kb;rw[if_pos hm0]
     have hds0:ds=[]:=Zf7 (by omega);rw[og] at sc61 cl61;rw[og,oh];by_cases hpv:X.prev=id
     . have e2:(X.prev==id)=true:=by simp[hpv]
       rw[if_pos hpv] at hns;have hre:Qnh S.lines[i] id L.prev=(xid,{X with prev:=L.prev}):=by rw[hxp];simp only[Qnh];rw[if_pos hpv]
       have lcc:=lc (L.prev);have ap:=Qmd (f:=51) (d:=61) (g:=Qd [[(4,.cells zH),(5,.cells Ze),(6,.cells [.int .i64 id,.bool L.snap,.int .i64 L.owner,.int .i64 L.prev,.int .i64 (L.key:Int),nv,ov]),(7,.cells [.int .i64 S.last,pv',lv',.nS]),(11,.cells [.int .i64 xid,.bool X.snap,.int .i64 X.owner,.int .i64 L.prev,.int .i64 (X.key:Int),nx',ox'])]]) (cs:=[.int .i64 xid,.bool X.snap,.int .i64 X.owner,.int .i64 L.prev,.int .i64 (X.key:Int),nx',ox']) u Qa2 Qbi Qkv rfl (by decide) rfl rfl rfl rfl rfl;simp only[zH,Ze] at ap;cases hsn:X.snap with
       |true=>
        rw[hsn] at hos ap;rw[show Qk xid X.snap X.owner L.prev (X.key:Int) nx' ox' =Qk xid true X.owner L.prev (X.key:Int) nx' ox' by rw[hsn]] at lcc;by_cases how:X.owner=id
        . have e1:(X.owner==id)=true:=by simp[how]
          rw[if_pos (by simp[how])] at hos;by_cases hij:i=j
          . have e3:((i:Int) !=(j:Int))=false:=by simp[hij]
            rw[if_pos hij] at has;simp only[wA,↓Qc,simprocAttr,hsn,e1,e2,e3,wo,wn,g5,zH,Ze,Qk,x1,x2,x3,x4,t1,t2,r1,r2,s1,s2,s3,sc61,cl61,u,m60,V.pure,Zgp,Qu,ta,wH,wB,wi];refine W.done ⟨i+1,⟨ds,some [.int .i64 xid,.bool true,.int .i64 X.owner,.int .i64 L.prev,.int .i64 (X.key:Int),nx',ox'],by rw[hos,hns];rfl,by omega,by rw[has];exact hds,?_⟩,by omega⟩;rw[has,<-hm];simp only[dsF,og,oh];try rfl
          . have e3:((i:Int) !=(j:Int))=true:=by simp;omega
            rw[if_neg hij] at has;simp only[wA,↓Qc,simprocAttr,hsn,e1,e2,e3,wo,wn,g5,zH,Ze,↓ap,Qk,x1,x2,x3,x4,t1,t2,r1,r2,s1,s2,s3,sc61,cl61,u,m60,V.pure,Zgp,Qu,ta,wH,wB,wi];refine W.done ⟨i+1,⟨ds++(Qk xid true X.owner L.prev (X.key:Int) nx' ox'),some [.int .i64 xid,.bool true,.int .i64 X.owner,.int .i64 L.prev,.int .i64 (X.key:Int),nx',ox'],by rw[hos,hns];rfl,by omega,?_,?_⟩,by omega⟩
            . rw[has,hre];exact Zy.add lcc hds
            . rw[has,Zfv,<-hm,hds0,hm0];rfl
        . have e1:(X.owner==id)=false:=by simp[how]
          rw[if_neg (by simp[how])] at hos;by_cases hij:i=j
          . have e3:((i:Int) !=(j:Int))=false:=by simp[hij]
            rw[if_pos hij] at has;simp only[wA,↓Qc,simprocAttr,hsn,e1,e2,e3,wo,wn,g5,zH,Ze,Qk,x1,x2,x3,x4,t1,t2,r1,r2,s1,s2,s3,sc61,cl61,u,m60,V.pure,Zgp,Qu,ta,wH,wB,wi];refine W.done ⟨i+1,⟨ds,some [.int .i64 xid,.bool true,.int .i64 X.owner,.int .i64 L.prev,.int .i64 (X.key:Int),nx',ox'],by rw[hos,hns];rfl,by omega,by rw[has];exact hds,?_⟩,by omega⟩;rw[has,<-hm];simp only[dsF,og,oh];try rfl
          . have e3:((i:Int) !=(j:Int))=true:=by simp;omega
            rw[if_neg hij] at has;simp only[wA,↓Qc,simprocAttr,hsn,e1,e2,e3,wo,wn,g5,zH,Ze,↓ap,Qk,x1,x2,x3,x4,t1,t2,r1,r2,s1,s2,s3,sc61,cl61,u,m60,V.pure,Zgp,Qu,ta,wH,wB,wi];refine W.done ⟨i+1,⟨ds++(Qk xid true X.owner L.prev (X.key:Int) nx' ox'),some [.int .i64 xid,.bool true,.int .i64 X.owner,.int .i64 L.prev,.int .i64 (X.key:Int),nx',ox'],by rw[hos,hns];rfl,by omega,?_,?_⟩,by omega⟩
            . rw[has,hre];exact Zy.add lcc hds
            . rw[has,Zfv,<-hm,hds0,hm0];rfl
       |false=>
        rw[hsn] at hos ap;rw[show Qk xid X.snap X.owner L.prev (X.key:Int) nx' ox' =Qk xid false X.owner L.prev (X.key:Int) nx' ox' by rw[hsn]] at lcc;rw[if_neg (by simp)] at hos;have e1:True:=trivial;by_cases hij:i=j
        . have e3:((i:Int) !=(j:Int))=false:=by simp[hij]
          rw[if_pos hij] at has;simp only[wA,↓Qc,simprocAttr,hsn,e1,e2,e3,wo,wn,g5,zH,Ze,Qk,x1,x2,x3,x4,t1,t2,r1,r2,s1,s2,s3,sc61,cl61,u,m60,V.pure,Zgp,Qu,ta,wH,wB,wi];refine W.done ⟨i+1,⟨ds,some [.int .i64 xid,.bool false,.int .i64 X.owner,.int .i64 L.prev,.int .i64 (X.key:Int),nx',ox'],by rw[hos,hns];rfl,by omega,by rw[has];exact hds,?_⟩,by omega⟩;rw[has,<-hm];simp only[dsF,og,oh];try rfl
        . have e3:((i:Int) !=(j:Int))=true:=by simp;omega
          rw[if_neg hij] at has;simp only[wA,↓Qc,simprocAttr,hsn,e1,e2,e3,wo,wn,g5,zH,Ze,↓ap,Qk,x1,x2,x3,x4,t1,t2,r1,r2,s1,s2,s3,sc61,cl61,u,m60,V.pure,Zgp,Qu,ta,wH,wB,wi];refine W.done ⟨i+1,⟨ds++(Qk xid false X.owner L.prev (X.key:Int) nx' ox'),some [.int .i64 xid,.bool false,.int .i64 X.owner,.int .i64 L.prev,.int .i64 (X.key:Int),nx',ox'],by rw[hos,hns];rfl,by omega,?_,?_⟩,by omega⟩
          . rw[has,hre];exact Zy.add lcc hds
          . rw[has,Zfv,<-hm,hds0,hm0];rfl
     . have e2:(X.prev==id)=false:=by simp[hpv]
       rw[if_neg hpv] at hns;have hre:Qnh S.lines[i] id L.prev=(xid,{X with prev:=X.prev}):=by rw[hxp];simp only[Qnh];rw[if_neg hpv]
       have lcc:=lc (X.prev);have ap:=Qmd (f:=51) (d:=61) (g:=Qd [[(4,.cells zH),(5,.cells Ze),(6,.cells [.int .i64 id,.bool L.snap,.int .i64 L.owner,.int .i64 L.prev,.int .i64 (L.key:Int),nv,ov]),(7,.cells [.int .i64 S.last,pv',lv',.nS]),(11,.cells [.int .i64 xid,.bool X.snap,.int .i64 X.owner,.int .i64 X.prev,.int .i64 (X.key:Int),nx',ox'])]]) (cs:=[.int .i64 xid,.bool X.snap,.int .i64 X.owner,.int .i64 X.prev,.int .i64 (X.key:Int),nx',ox']) u Qa2 Qbi Qkv rfl (by decide) rfl rfl rfl rfl rfl;simp only[zH,Ze] at ap;cases hsn:X.snap with
       |true=>
        rw[hsn] at hos ap;rw[show Qk xid X.snap X.owner X.prev (X.key:Int) nx' ox' =Qk xid true X.owner X.prev (X.key:Int) nx' ox' by rw[hsn]] at lcc;by_cases how:X.owner=id
        . have e1:(X.owner==id)=true:=by simp[how]
          rw[if_pos (by simp[how])] at hos;by_cases hij:i=j
          . have e3:((i:Int) !=(j:Int))=false:=by simp[hij]
            rw[if_pos hij] at has;simp only[wA,↓Qc,simprocAttr,hsn,e1,e2,e3,wo,wn,g5,zH,Ze,Qk,x1,x2,x3,x4,t1,t2,r1,r2,s1,s2,s3,sc61,cl61,u,m60,V.pure,Zgp,Qu,ta,wH,wB,wi];refine W.done ⟨i+1,⟨ds,some [.int .i64 xid,.bool true,.int .i64 X.owner,.int .i64 X.prev,.int .i64 (X.key:Int),nx',ox'],by rw[hos,hns];rfl,by omega,by rw[has];exact hds,?_⟩,by omega⟩;rw[has,<-hm];simp only[dsF,og,oh];try rfl
          . have e3:((i:Int) !=(j:Int))=true:=by simp;omega
            rw[if_neg hij] at has;simp only[wA,↓Qc,simprocAttr,hsn,e1,e2,e3,wo,wn,g5,zH,Ze,↓ap,Qk,x1,x2,x3,x4,t1,t2,r1,r2,s1,s2,s3,sc61,cl61,u,m60,V.pure,Zgp,Qu,ta,wH,wB,wi];refine W.done ⟨i+1,⟨ds++(Qk xid true X.owner X.prev (X.key:Int) nx' ox'),some [.int .i64 xid,.bool true,.int .i64 X.owner,.int .i64 X.prev,.int .i64 (X.key:Int),nx',ox'],by rw[hos,hns];rfl,by omega,?_,?_⟩,by omega⟩
            . rw[has,hre];exact Zy.add lcc hds
            . rw[has,Zfv,<-hm,hds0,hm0];rfl
        . have e1:(X.owner==id)=false:=by simp[how]
          rw[if_neg (by simp[how])] at hos;by_cases hij:i=j
          . have e3:((i:Int) !=(j:Int))=false:=by simp[hij]
            rw[if_pos hij] at has;simp only[wA,↓Qc,simprocAttr,hsn,e1,e2,e3,wo,wn,g5,zH,Ze,Qk,x1,x2,x3,x4,t1,t2,r1,r2,s1,s2,s3,sc61,cl61,u,m60,V.pure,Zgp,Qu,ta,wH,wB,wi];refine W.done ⟨i+1,⟨ds,some [.int .i64 xid,.bool true,.int .i64 X.owner,.int .i64 X.prev,.int .i64 (X.key:Int),nx',ox'],by rw[hos,hns];rfl,by omega,by rw[has];exact hds,?_⟩,by omega⟩;rw[has,<-hm];simp only[dsF,og,oh];try rfl
          . have e3:((i:Int) !=(j:Int))=true:=by simp;omega
            rw[if_neg hij] at has;simp only[wA,↓Qc,simprocAttr,hsn,e1,e2,e3,wo,wn,g5,zH,Ze,↓ap,Qk,x1,x2,x3,x4,t1,t2,r1,r2,s1,s2,s3,sc61,cl61,u,m60,V.pure,Zgp,Qu,ta,wH,wB,wi];refine W.done ⟨i+1,⟨ds++(Qk xid true X.owner X.prev (X.key:Int) nx' ox'),some [.int .i64 xid,.bool true,.int .i64 X.owner,.int .i64 X.prev,.int .i64 (X.key:Int),nx',ox'],by rw[hos,hns];rfl,by omega,?_,?_⟩,by omega⟩
            . rw[has,hre];exact Zy.add lcc hds
            . rw[has,Zfv,<-hm,hds0,hm0];rfl
       |false=>
        rw[hsn] at hos ap;rw[show Qk xid X.snap X.owner X.prev (X.key:Int) nx' ox' =Qk xid false X.owner X.prev (X.key:Int) nx' ox' by rw[hsn]] at lcc;rw[if_neg (by simp)] at hos;have e1:True:=trivial;by_cases hij:i=j
        . have e3:((i:Int) !=(j:Int))=false:=by simp[hij]
          rw[if_pos hij] at has;simp only[wA,↓Qc,simprocAttr,hsn,e1,e2,e3,wo,wn,g5,zH,Ze,Qk,x1,x2,x3,x4,t1,t2,r1,r2,s1,s2,s3,sc61,cl61,u,m60,V.pure,Zgp,Qu,ta,wH,wB,wi];refine W.done ⟨i+1,⟨ds,some [.int .i64 xid,.bool false,.int .i64 X.owner,.int .i64 X.prev,.int .i64 (X.key:Int),nx',ox'],by rw[hos,hns];rfl,by omega,by rw[has];exact hds,?_⟩,by omega⟩;rw[has,<-hm];simp only[dsF,og,oh];try rfl
        . have e3:((i:Int) !=(j:Int))=true:=by simp;omega
          rw[if_neg hij] at has;simp only[wA,↓Qc,simprocAttr,hsn,e1,e2,e3,wo,wn,g5,zH,Ze,↓ap,Qk,x1,x2,x3,x4,t1,t2,r1,r2,s1,s2,s3,sc61,cl61,u,m60,V.pure,Zgp,Qu,ta,wH,wB,wi];refine W.done ⟨i+1,⟨ds++(Qk xid false X.owner X.prev (X.key:Int) nx' ox'),some [.int .i64 xid,.bool false,.int .i64 X.owner,.int .i64 X.prev,.int .i64 (X.key:Int),nx',ox'],by rw[hos,hns];rfl,by omega,?_,?_⟩,by omega⟩
          . rw[has,hre];exact Zy.add lcc hds
          . rw[has,Zfv,<-hm,hds0,hm0];rfl
   . have og:Ji 61 ds m 7= .gS 0 61 ds m 7:=by unfold Ji;rw[if_neg hm0]
     have oh:Kb 61 m=[(61,.grow m)]:=by unfold Kb;rw[if_neg hm0]
     rw[og] at sc61 cl61;rw[og,oh];by_cases hpv:X.prev=id
     . have e2:(X.prev==id)=true:=by simp[hpv]
       rw[if_pos hpv] at hns;have hre:Qnh S.lines[i] id L.prev=(xid,{X with prev:=L.prev}):=by rw[hxp];simp only[Qnh];rw[if_pos hpv]
       have lcc:=lc (L.prev);have ap:=Qrg (f:=51) (d:=61) (k:=61) (m:=m) (c0:=ds) (g:=Qd [[(4,.cells zH),(5,.cells Ze),(6,.cells [.int .i64 id,.bool L.snap,.int .i64 L.owner,.int .i64 L.prev,.int .i64 (L.key:Int),nv,ov]),(7,.cells [.int .i64 S.last,pv',lv',.gS 0 61 ds m 7]),(11,.cells [.int .i64 xid,.bool X.snap,.int .i64 X.owner,.int .i64 L.prev,.int .i64 (X.key:Int),nx',ox']),(61,.grow m)]]) (cs:=[.int .i64 xid,.bool X.snap,.int .i64 X.owner,.int .i64 L.prev,.int .i64 (X.key:Int),nx',ox']) u Qa2 Qbi Qkv rfl (by decide) rfl lcc.scal.1 (by omega) rfl;simp only[zH,Ze] at ap;cases hsn:X.snap with
       |true=>
        rw[hsn] at hos ap;rw[show Qk xid X.snap X.owner L.prev (X.key:Int) nx' ox' =Qk xid true X.owner L.prev (X.key:Int) nx' ox' by rw[hsn]] at lcc;by_cases how:X.owner=id
        . have e1:(X.owner==id)=true:=by simp[how]
          rw[if_pos (by simp[how])] at hos;by_cases hij:i=j
          . have e3:((i:Int) !=(j:Int))=false:=by simp[hij]
            rw[if_pos hij] at has;simp only[wA,↓Qc,simprocAttr,hsn,e1,e2,e3,wo,wn,g5,zH,Ze,Qk,x1,x2,x3,x4,t1,t2,r1,r2,s1,s2,s3,sc61,cl61,u,m60,V.pure,Zgp,Qu,ta,wH,wB,wi];refine W.done ⟨i+1,⟨ds,some [.int .i64 xid,.bool true,.int .i64 X.owner,.int .i64 L.prev,.int .i64 (X.key:Int),nx',ox'],by rw[hos,hns];rfl,by omega,by rw[has];exact hds,?_⟩,by omega⟩;rw[has,<-hm];simp only[dsF,og,oh];try rfl
          . have e3:((i:Int) !=(j:Int))=true:=by simp;omega
            rw[if_neg hij] at has;simp only[wA,↓Qc,simprocAttr,hsn,e1,e2,e3,wo,wn,g5,zH,Ze,↓ap,Qk,x1,x2,x3,x4,t1,t2,r1,r2,s1,s2,s3,sc61,cl61,u,m60,V.pure,Zgp,Qu,ta,wH,wB,wi];refine W.done ⟨i+1,⟨ds++(Qk xid true X.owner L.prev (X.key:Int) nx' ox'),some [.int .i64 xid,.bool true,.int .i64 X.owner,.int .i64 L.prev,.int .i64 (X.key:Int),nx',ox'],by rw[hos,hns];rfl,by omega,?_,?_⟩,by omega⟩
            . rw[has,hre];exact Zy.add lcc hds
            . rw[has,Zfv,<-hm];have og2:Ji 61 (ds++(Qk xid true X.owner L.prev (X.key:Int) nx' ox')) (m+1) 7= .gS 0 61 (ds++(Qk xid true X.owner L.prev (X.key:Int) nx' ox')) (m+1) 7:=if_neg (by omega);have oh2:Kb 61 (m+1)=[(61,.grow (m+1))]:=if_neg (by omega);simp only[dsF,Zgz,Zg2,Zff,og2,oh2];try rfl
        . have e1:(X.owner==id)=false:=by simp[how]
          rw[if_neg (by simp[how])] at hos;by_cases hij:i=j
          . have e3:((i:Int) !=(j:Int))=false:=by simp[hij]
            rw[if_pos hij] at has;simp only[wA,↓Qc,simprocAttr,hsn,e1,e2,e3,wo,wn,g5,zH,Ze,Qk,x1,x2,x3,x4,t1,t2,r1,r2,s1,s2,s3,sc61,cl61,u,m60,V.pure,Zgp,Qu,ta,wH,wB,wi];refine W.done ⟨i+1,⟨ds,some [.int .i64 xid,.bool true,.int .i64 X.owner,.int .i64 L.prev,.int .i64 (X.key:Int),nx',ox'],by rw[hos,hns];rfl,by omega,by rw[has];exact hds,?_⟩,by omega⟩;rw[has,<-hm];simp only[dsF,og,oh];try rfl
          . have e3:((i:Int) !=(j:Int))=true:=by simp;omega
            rw[if_neg hij] at has;simp only[wA,↓Qc,simprocAttr,hsn,e1,e2,e3,wo,wn,g5,zH,Ze,↓ap,Qk,x1,x2,x3,x4,t1,t2,r1,r2,s1,s2,s3,sc61,cl61,u,m60,V.pure,Zgp,Qu,ta,wH,wB,wi];refine W.done ⟨i+1,⟨ds++(Qk xid true X.owner L.prev (X.key:Int) nx' ox'),some [.int .i64 xid,.bool true,.int .i64 X.owner,.int .i64 L.prev,.int .i64 (X.key:Int),nx',ox'],by rw[hos,hns];rfl,by omega,?_,?_⟩,by omega⟩
            . rw[has,hre];exact Zy.add lcc hds
            . rw[has,Zfv,<-hm];have og2:Ji 61 (ds++(Qk xid true X.owner L.prev (X.key:Int) nx' ox')) (m+1) 7= .gS 0 61 (ds++(Qk xid true X.owner L.prev (X.key:Int) nx' ox')) (m+1) 7:=if_neg (by omega);have oh2:Kb 61 (m+1)=[(61,.grow (m+1))]:=if_neg (by omega);simp only[dsF,Zgz,Zg2,Zff,og2,oh2];try rfl
       |false=>
        rw[hsn] at hos ap;rw[show Qk xid X.snap X.owner L.prev (X.key:Int) nx' ox' =Qk xid false X.owner L.prev (X.key:Int) nx' ox' by rw[hsn]] at lcc;rw[if_neg (by simp)] at hos;have e1:True:=trivial;by_cases hij:i=j
        . have e3:((i:Int) !=(j:Int))=false:=by simp[hij]
          rw[if_pos hij] at has;simp only[wA,↓Qc,simprocAttr,hsn,e1,e2,e3,wo,wn,g5,zH,Ze,Qk,x1,x2,x3,x4,t1,t2,r1,r2,s1,s2,s3,sc61,cl61,u,m60,V.pure,Zgp,Qu,ta,wH,wB,wi];refine W.done ⟨i+1,⟨ds,some [.int .i64 xid,.bool false,.int .i64 X.owner,.int .i64 L.prev,.int .i64 (X.key:Int),nx',ox'],by rw[hos,hns];rfl,by omega,by rw[has];exact hds,?_⟩,by omega⟩;rw[has,<-hm];simp only[dsF,og,oh];try rfl
        . have e3:((i:Int) !=(j:Int))=true:=by simp;omega
          rw[if_neg hij] at has;simp only[wA,↓Qc,simprocAttr,hsn,e1,e2,e3,wo,wn,g5,zH,Ze,↓ap,Qk,x1,x2,x3,x4,t1,t2,r1,r2,s1,s2,s3,sc61,cl61,u,m60,V.pure,Zgp,Qu,ta,wH,wB,wi];refine W.done ⟨i+1,⟨ds++(Qk xid false X.owner L.prev (X.key:Int) nx' ox'),some [.int .i64 xid,.bool false,.int .i64 X.owner,.int .i64 L.prev,.int .i64 (X.key:Int),nx',ox'],by rw[hos,hns];rfl,by omega,?_,?_⟩,by omega⟩
          . rw[has,hre];exact Zy.add lcc hds
          . rw[has,Zfv,<-hm];have og2:Ji 61 (ds++(Qk xid false X.owner L.prev (X.key:Int) nx' ox')) (m+1) 7= .gS 0 61 (ds++(Qk xid false X.owner L.prev (X.key:Int) nx' ox')) (m+1) 7:=if_neg (by omega);have oh2:Kb 61 (m+1)=[(61,.grow (m+1))]:=if_neg (by omega);simp only[dsF,Zgz,Zg2,Zff,og2,oh2];try rfl
     . have e2:(X.prev==id)=false:=by simp[hpv]
       rw[if_neg hpv] at hns;have hre:Qnh S.lines[i] id L.prev=(xid,{X with prev:=X.prev}):=by rw[hxp];simp only[Qnh];rw[if_neg hpv]
       have lcc:=lc (X.prev);have ap:=Qrg (f:=51) (d:=61) (k:=61) (m:=m) (c0:=ds) (g:=Qd [[(4,.cells zH),(5,.cells Ze),(6,.cells [.int .i64 id,.bool L.snap,.int .i64 L.owner,.int .i64 L.prev,.int .i64 (L.key:Int),nv,ov]),(7,.cells [.int .i64 S.last,pv',lv',.gS 0 61 ds m 7]),(11,.cells [.int .i64 xid,.bool X.snap,.int .i64 X.owner,.int .i64 X.prev,.int .i64 (X.key:Int),nx',ox']),(61,.grow m)]]) (cs:=[.int .i64 xid,.bool X.snap,.int .i64 X.owner,.int .i64 X.prev,.int .i64 (X.key:Int),nx',ox']) u Qa2 Qbi Qkv rfl (by decide) rfl lcc.scal.1 (by omega) rfl;simp only[zH,Ze] at ap;cases hsn:X.snap with
       |true=>
        rw[hsn] at hos ap;rw[show Qk xid X.snap X.owner X.prev (X.key:Int) nx' ox' =Qk xid true X.owner X.prev (X.key:Int) nx' ox' by rw[hsn]] at lcc;by_cases how:X.owner=id
        . have e1:(X.owner==id)=true:=by simp[how]
          rw[if_pos (by simp[how])] at hos;by_cases hij:i=j
          . have e3:((i:Int) !=(j:Int))=false:=by simp[hij]
            rw[if_pos hij] at has;simp only[wA,↓Qc,simprocAttr,hsn,e1,e2,e3,wo,wn,g5,zH,Ze,Qk,x1,x2,x3,x4,t1,t2,r1,r2,s1,s2,s3,sc61,cl61,u,m60,V.pure,Zgp,Qu,ta,wH,wB,wi];refine W.done ⟨i+1,⟨ds,some [.int .i64 xid,.bool true,.int .i64 X.owner,.int .i64 X.prev,.int .i64 (X.key:Int),nx',ox'],by rw[hos,hns];rfl,by omega,by rw[has];exact hds,?_⟩,by omega⟩;rw[has,<-hm];simp only[dsF,og,oh];try rfl
          . have e3:((i:Int) !=(j:Int))=true:=by simp;omega
            rw[if_neg hij] at has;simp only[wA,↓Qc,simprocAttr,hsn,e1,e2,e3,wo,wn,g5,zH,Ze,↓ap,Qk,x1,x2,x3,x4,t1,t2,r1,r2,s1,s2,s3,sc61,cl61,u,m60,V.pure,Zgp,Qu,ta,wH,wB,wi];refine W.done ⟨i+1,⟨ds++(Qk xid true X.owner X.prev (X.key:Int) nx' ox'),some [.int .i64 xid,.bool true,.int .i64 X.owner,.int .i64 X.prev,.int .i64 (X.key:Int),nx',ox'],by rw[hos,hns];rfl,by omega,?_,?_⟩,by omega⟩
            . rw[has,hre];exact Zy.add lcc hds
            . rw[has,Zfv,<-hm];have og2:Ji 61 (ds++(Qk xid true X.owner X.prev (X.key:Int) nx' ox')) (m+1) 7= .gS 0 61 (ds++(Qk xid true X.owner X.prev (X.key:Int) nx' ox')) (m+1) 7:=if_neg (by omega);have oh2:Kb 61 (m+1)=[(61,.grow (m+1))]:=if_neg (by omega);simp only[dsF,Zgz,Zg2,Zff,og2,oh2];try rfl
        . have e1:(X.owner==id)=false:=by simp[how]
          rw[if_neg (by simp[how])] at hos;by_cases hij:i=j
          . have e3:((i:Int) !=(j:Int))=false:=by simp[hij]
            rw[if_pos hij] at has;simp only[wA,↓Qc,simprocAttr,hsn,e1,e2,e3,wo,wn,g5,zH,Ze,Qk,x1,x2,x3,x4,t1,t2,r1,r2,s1,s2,s3,sc61,cl61,u,m60,V.pure,Zgp,Qu,ta,wH,wB,wi];refine W.done ⟨i+1,⟨ds,some [.int .i64 xid,.bool true,.int .i64 X.owner,.int .i64 X.prev,.int .i64 (X.key:Int),nx',ox'],by rw[hos,hns];rfl,by omega,by rw[has];exact hds,?_⟩,by omega⟩;rw[has,<-hm];simp only[dsF,og,oh];try rfl
          . have e3:((i:Int) !=(j:Int))=true:=by simp;omega
            rw[if_neg hij] at has;simp only[wA,↓Qc,simprocAttr,hsn,e1,e2,e3,wo,wn,g5,zH,Ze,↓ap,Qk,x1,x2,x3,x4,t1,t2,r1,r2,s1,s2,s3,sc61,cl61,u,m60,V.pure,Zgp,Qu,ta,wH,wB,wi];refine W.done ⟨i+1,⟨ds++(Qk xid true X.owner X.prev (X.key:Int) nx' ox'),some [.int .i64 xid,.bool true,.int .i64 X.owner,.int .i64 X.prev,.int .i64 (X.key:Int),nx',ox'],by rw[hos,hns];rfl,by omega,?_,?_⟩,by omega⟩
            . rw[has,hre];exact Zy.add lcc hds
            . rw[has,Zfv,<-hm];have og2:Ji 61 (ds++(Qk xid true X.owner X.prev (X.key:Int) nx' ox')) (m+1) 7= .gS 0 61 (ds++(Qk xid true X.owner X.prev (X.key:Int) nx' ox')) (m+1) 7:=if_neg (by omega);have oh2:Kb 61 (m+1)=[(61,.grow (m+1))]:=if_neg (by omega);simp only[dsF,Zgz,Zg2,Zff,og2,oh2];try rfl
       |false=>
        rw[hsn] at hos ap;rw[show Qk xid X.snap X.owner X.prev (X.key:Int) nx' ox' =Qk xid false X.owner X.prev (X.key:Int) nx' ox' by rw[hsn]] at lcc;rw[if_neg (by simp)] at hos;have e1:True:=trivial;by_cases hij:i=j
        . have e3:((i:Int) !=(j:Int))=false:=by simp[hij]
          rw[if_pos hij] at has;simp only[wA,↓Qc,simprocAttr,hsn,e1,e2,e3,wo,wn,g5,zH,Ze,Qk,x1,x2,x3,x4,t1,t2,r1,r2,s1,s2,s3,sc61,cl61,u,m60,V.pure,Zgp,Qu,ta,wH,wB,wi];refine W.done ⟨i+1,⟨ds,some [.int .i64 xid,.bool false,.int .i64 X.owner,.int .i64 X.prev,.int .i64 (X.key:Int),nx',ox'],by rw[hos,hns];rfl,by omega,by rw[has];exact hds,?_⟩,by omega⟩;rw[has,<-hm];simp only[dsF,og,oh];try rfl
        . have e3:((i:Int) !=(j:Int))=true:=by simp;omega
          rw[if_neg hij] at has;simp only[wA,↓Qc,simprocAttr,hsn,e1,e2,e3,wo,wn,g5,zH,Ze,↓ap,Qk,x1,x2,x3,x4,t1,t2,r1,r2,s1,s2,s3,sc61,cl61,u,m60,V.pure,Zgp,Qu,ta,wH,wB,wi];refine W.done ⟨i+1,⟨ds++(Qk xid false X.owner X.prev (X.key:Int) nx' ox'),some [.int .i64 xid,.bool false,.int .i64 X.owner,.int .i64 X.prev,.int .i64 (X.key:Int),nx',ox'],by rw[hos,hns];rfl,by omega,?_,?_⟩,by omega⟩
          . rw[has,hre];exact Zy.add lcc hds
          . rw[has,Zfv,<-hm];have og2:Ji 61 (ds++(Qk xid false X.owner X.prev (X.key:Int) nx' ox')) (m+1) 7= .gS 0 61 (ds++(Qk xid false X.owner X.prev (X.key:Int) nx' ox')) (m+1) 7:=if_neg (by omega);have oh2:Kb 61 (m+1)=[(61,.grow (m+1))]:=if_neg (by omega);simp only[dsF,Zgz,Zg2,Zff,og2,oh2];try rfl
 . have e:i=S.lines.length:=by omega
   have c1:decide ((i:Int)<S.lines.length)=false:=Zih (by omega);subst e;have hfull:S.lines.take S.lines.length=S.lines:=Zg7;rw[hfull] at ho1 hn1;obtain⟨O,hO⟩:∃O,O=Qdy S.lines id:=⟨_,rfl⟩;obtain⟨NX,hNX⟩:∃NX,NX=Qal S.lines id:=⟨_,rfl⟩;have hdb:Qqa S id L=((L.snap&&decide (1<NX))||(!L.snap&&decide (0<O))):=by rw[hO,hNX];rfl
   rw[hfull,<-hO,<-hNX];have e1:decide ((NX:Int)>1)=decide (1<NX):=by
    by_cases w:1<NX
    . rw[Zig w];exact Zig (by omega)
    . rw[Zih w];exact Zih (by omega)
   have e2:decide ((O:Int)>0)=decide (0<O):=by
    by_cases w:0<O
    . rw[Zig w];exact Zig (by omega)
    . rw[Zih w];exact Zih (by omega)
   have fz61:∃r,(∀(g:Get) (q:Nat),frz g (q+3) (Ji 61 ds m 7)=some r)/\Ql 7 r ds m:=by
    unfold Ji;by_cases w:m=0
    . rw[if_pos w];exact⟨.nS,fun _ _=>rfl,by rw[Zf7 (show ds.length=0 by omega),w];exact Ql.nil⟩
    . rw[if_neg w];refine⟨.iS ds m false,fun g q=>?_,Ql.mk (by omega)⟩;show(frzL (frz g (q+2)) ds).map _=_;rw[hds.scal.2.2.2 g q];rfl
   obtain⟨r61,f61,hr61⟩:=fz61;simp only[wA,↓Qc,simprocAttr,Qr7,dsF,c1,lh,Qk,s1,s2,s3,ta,wH,wB];refine W.done ?_;have busy:Qqa S id L=true->∀(g:Get),frz g depth (.tuple [.agg (Qo S.last pv lv hv),Q7 230])=some (.tuple [.agg (Qo S.last pv lv hv),Q7 230]):=fun _ g=>by have f1:=Kn (made:=S.last) h.p h.l h.h g 9;show(frzL (frz g 11) _).map V.tuple=_;simp only[frzL,f1];rfl
   have free:∀(g:Get),frz g depth (.tuple [.agg [.int .i64 S.last,pv',lv',Ji 61 ds m 7],Q7 0])=some (.tuple [.agg (Qo S.last pv' lv' r61),Q7 0]):=fun g=>by
    have f1:=Ql.frz' h'.p g 9;have f2:=Ql.frz' h'.l g 9;have f3:frz g 11 (.agg [.int .i64 S.last,pv',lv',Ji 61 ds m 7])=some (.agg (Qo S.last pv' lv' r61)):=by show(frzL (frz g 10) _).map V.agg=_;simp only[frzL,f1,f2,f61 g 7];rfl
    show(frzL (frz g 11) _).map V.tuple=_;simp only[frzL,f3];rfl
   have hsR:HsR pv' lv' r61 ds {S with lines:=Qnb S.lines j id L.prev S.lines.length}:=⟨h'.p,h'.l,by rw[<-hm];exact hr61,hds⟩;generalize Ji 61 ds m 7=ov61 at*;generalize Kb 61 m=oh61 at*;cases hsn:L.snap with
   |true=>
    rw[hsn] at hdb;cases hb:decide (1<NX) with
    |true=>
     rw[hb] at hdb;simp only[Zgp,Bool.true_or] at hdb;simp only[wA,↓Qc,simprocAttr,hsn,e1,e2,hb,Qk,s1,s2,s3,t1,t2,ta,wH,wB];refine W.pcallT (Yf 230) rfl rfl rfl ?_;rintro _ rfl;simp only[wA,↓Qc,simprocAttr,Q7,zH,Ze,Qo,s1,s2,s3,ta,wH,wB];refine W.opsT (by kernel_rfl) ?_;simp only[wA,↓Qc,simprocAttr];refine W.done (Zg.ret rfl (busy hdb _) ⟨_,?_,by rw[hdb];rfl⟩);rw[hdb];exact⟨pv,lv,hv,cs,rfl,h⟩
    |false=>
     rw[hb] at hdb;simp only[Bool.and_false,Zhf,Zg4,Zhq] at hdb;simp only[wA,↓Qc,simprocAttr,hsn,e1,e2,hb,sc61,Q7,zH,Ze,Qo,Qk,s1,s2,s3,r1,r2,t1,t2,ta,wH,wB];refine W.done (Zg.ret rfl (free _) ⟨_,?_,by rw[hdb];rfl⟩);rw[hdb];exact⟨pv',lv',r61,ds,rfl,hsR⟩
   |false=>
    rw[hsn] at hdb;cases hb:decide (0<O) with
    |true=>
     rw[hb] at hdb;simp only[Zg4,Zgo,Zgp,Bool.false_or] at hdb;simp only[wA,↓Qc,simprocAttr,hsn,e1,e2,hb,Qk,s1,s2,s3,t1,t2,ta,wH,wB];refine W.pcallT (Yf 230) rfl rfl rfl ?_;rintro _ rfl;simp only[wA,↓Qc,simprocAttr,Q7,zH,Ze,Qo,s1,s2,s3,ta,wH,wB];refine W.opsT (by kernel_rfl) ?_;simp only[wA,↓Qc,simprocAttr];refine W.done (Zg.ret rfl (busy hdb _) ⟨_,?_,by rw[hdb];rfl⟩);rw[hdb];exact⟨pv,lv,hv,cs,rfl,h⟩
    |false=>
     rw[hb] at hdb;simp only[Zg4,Zgo,Bool.and_false,Zhq] at hdb;simp only[wA,↓Qc,simprocAttr,hsn,e1,e2,hb,sc61,Q7,zH,Ze,Qo,Qk,s1,s2,s3,r1,r2,t1,t2,ta,wH,wB];refine W.done (Zg.ret rfl (free _) ⟨_,?_,by rw[hdb];rfl⟩);rw[hdb];exact⟨pv',lv',r61,ds,rfl,hsR⟩
theorem Q2y(H:Qg)(hw:WF H)(made:Int)(pv lv hv:V)(is:List Int)(s1:pv.scalar=true)(s2:lv.scalar=true)(s3:hv.scalar=true)(hb:is.length<=1000000)(ln:∀g,Qaw Tryz.prog g 48 hv=some (.int .i64 is.length))
 (ix:∀(F:AM.Frame) (k:Nat) (h:k<is.length),∃p p',Zs Tryz.prog 48 hv (.int .i64 k)=some p/\faV 0 p=some p' /\ldV Tryz.prog 3 (Qd (H++[F])) p' =some (.int .i64 is[k]))(x:Int):
 CW Tryz.prog Qv 21 [.agg (Qo made pv lv hv),.int .i64 x] H fun r H' =>r= .ret (.int .i64 (Kz x is 0))/\H' =H:=by
 refine Qol Tryz.func21 rfl ?_;simp only[wA,↓Qc,simprocAttr,Tryz.ntmps21,Qo,s1,s2,s3,ta,wG,wB];refine W.ul ?_;refine W.loopS (kt:=[1,2,5]) rfl (fun k:Nat=>Qsy (.int .i64 x) (.ptr H.length 2 0) (.int .i64 k)) (fun _=>H++[[(2,.cells [.int .i64 made,pv,lv,hv])]]) (fun k=>k<=is.length/\∀y∈is.take k,y≠x) (fun k=>is.length-k) ?_ 0 ⟨by omega,by simp⟩ rfl rfl;rintro k ⟨hk,hn⟩;simp only[Qsy];have hs:=Qf1 x is 0 k hn hk;rw[Zff] at hs;have key:k<is.length\/¬k<is.length:=Classical.em _;rcases key with h0|h0
 . have c1:decide ((k:Int)<is.length)=true:=Zig (by omega);have wi:(IntKind.i64).wrap ((k:Int)+1)=((k+1:Nat):Int):=by rw[wrap_i64]<;>omega
   obtain⟨p,p',a1,a2,a3⟩:=ix [(2,.cells [.int .i64 made,pv,lv,hv])] k h0;simp only[wA,↓Qc,simprocAttr,c1,ln,s3,a1,a2,↓a3,ta,wG,wB];refine W.ite (fun h1=>?_) (fun h1=>?_)
   . have e:is[k]=x:=by simpa using h1
     simp only[wA,↓Qc,simprocAttr];refine W.done ?_;simp only[wA,↓Qc,simprocAttr];refine W.done (End.ret (v:= .int .i64 k) rfl ⟨?_,Qrf rfl hw⟩);rw[hs,Zho h0];simp only[Kz,e,if_true]
   . have e:is[k]≠x:=by simpa using h1
     simp only[wA,↓Qc,simprocAttr,wi];refine W.done ⟨k+1,rfl,rfl,⟨by omega,fun y hy=>?_⟩,by omega⟩;rw[Zg6,Ze3 h0] at hy;rcases Zfw.1 hy with h|h
     . exact hn y h
     . simp at h;rw[h];exact e
 . have c1:decide ((k:Int)<is.length)=false:=Zih (by omega);have e:k=is.length:=by omega
   subst e;simp only[wA,↓Qc,simprocAttr,c1,ln,s3,ta,wG,wB];refine W.done ?_;simp only[wA,↓Qc,simprocAttr];refine W.done (End.ret (v:= .int .i64 (-1)) rfl ⟨?_,Qrf rfl hw⟩);rw[hs];simp only[List.drop_length,Kz]
theorem Zy.ids:∀{l:List (Int×Qe)} {cs:List V},Zy cs l->IdsC cs (Mod.ids l)
 |[],cs,h=>h
 |p::l,cs,h=>by
  obtain⟨c,d,rfl,h1,h2⟩:=h;obtain⟨nv,ov,oc,ns,rfl,_⟩:=h1;exact⟨[.bool p.2.snap,.int .i64 p.2.owner,.int .i64 p.2.prev,.int .i64 (p.2.key:Int),nv,ov],d,rfl,rfl,h2.ids⟩
theorem Qaz(l:List (Int×Qe)):(ids l).length=l.length:=by simp[ids]
theorem Q2x(H:Qg)(hw:WF H)(made:Int){pv lv hv:V}(cs:List V)(l:List (Int×Qe))(s1:pv.scalar=true)(s2:lv.scalar=true)(hh:Ql 7 hv cs l.length)(hc:Zy cs l)(hb:l.length<=1000)(x:Int):
 CW Tryz.prog Qv 21 [.agg (Qo made pv lv hv),.int .i64 x] H fun r H' =>r= .ret (.int .i64 (Kz x (ids l) 0))/\H' =H:=by
 refine Q2y H hw made pv lv hv (ids l) s1 s2 (Qz hh) (by rw[Qaz];omega) (fun g=>by rw[Qaz];exact(hh.len Tryz.underlying48) g) (fun F k h=>?_) x;rw[Qaz] at h;have g1:=hc.ids.at_ k (by rw[Qaz];exact h);refine⟨_,_,hh.at (k:= .i64) Tryz.underlying48 Qa2 (by decide) (i:=(k:Int)) (by omega) (by omega),Qzx,?_⟩;rw[Qzk,rd3];exact g1
theorem at_mg(H:Qg)(hw:WF H)(made:Int){pv lv:V}{f s:Nat}(cs:List V)(l:List (Int×Qe))(s1:pv.scalar=true)(s2:lv.scalar=true)(hg:Qd H f s=some (.mgrow cs l.length))(hc:Zy cs l)(hb:l.length<=1000)(x:Int):
 CW Tryz.prog Qv 21 [.agg (Qo made pv lv (.mg f s l.length 7)),.int .i64 x] H fun r H' =>r= .ret (.int .i64 (Kz x (ids l) 0))/\H' =H:=by
 refine Q2y H hw made pv lv (.mg f s l.length 7) (ids l) s1 s2 rfl (by rw[Qaz];omega) (fun g=>by rw[Qaz];simp only[Qaw,Tryz.underlying48]) (fun F k h=>?_) x;rw[Qaz] at h;have g1:=hc.ids.at_ k (by rw[Qaz];exact h);refine⟨.mp f s (k*7) l.length,.mp f s (k*7+0) l.length,?_,Zm,?_⟩
 . simp only[Zs,Tryz.underlying48,Qa2];rw[if_pos ⟨by omega,by omega,by first|rfl|trivial⟩];rfl
 . rw[Q3,Qnx H _ (Q9 hg),hg,Qh,rd3];exact g1
theorem Y7:∀{l:List (Int×Qe)} {a:Int} {L:Qe} (j0:Nat),Zw l a=some L->∃j,∃hj:j<l.length,l[j]=(a,L)/\Kz a (ids l) j0=((j0+j:Nat):Int)
 |p::l,a,L,j0,h=>by
  simp only[Zw] at h;by_cases e:a=p.1
  . rw[if_pos e] at h;injection h with h;subst e;subst h;exact⟨0,by simp,rfl,by simp[ids,Kz]⟩
  . rw[if_neg e] at h;obtain⟨j,hj,h1,h2⟩:=Y7 (j0+1) h;refine⟨j+1,by simp;exact hj,by simpa using h1,?_⟩;simp only[ids,Zfn,Kz];rw[if_neg (fun q=>e q.symm)];rw[show j0+(j+1)=j0+1+j by omega];exact h2
theorem Qju:∀{l:List (Int×Qe)} {a:Int} (j0:Nat),Zw l a=none->Kz a (ids l) j0= -1
 |[],a,j0,h=>rfl
 |p::l,a,j0,h=>by
  simp only[Zw] at h;by_cases e:a=p.1
  . rw[if_pos e] at h;cases h
  . rw[if_neg e] at h;simp only[ids,Zfn,Kz];rw[if_neg (fun q=>e q.symm)];exact Qju (j0+1) h
theorem Qea{l:List (Int×Qe)}{a:Int}{L' :Qe}{j:Nat}(hu:(ids l).Nodup)(hj:j<l.length)(h:l[j].1=a):putL l a L' =l.set j (a,L'):=by
 induction l generalizing j with
 |nil=>simp at hj
 |cons p l ih=>
  simp only[ids,Zfn,Zgq] at hu;cases j with
  |zero=>
   simp only[List.getElem_cons_zero] at h;simp only[putL,h,if_true,List.set_cons_zero]
  |succ j=>
   simp only[List.getElem_cons_succ] at h;have hne:¬a=p.1:=by rintro rfl;exact hu.1 (Zfm.2 ⟨l[j]'(by simpa using hj),Zg5 _,h⟩)
   simp only[putL,if_neg hne,Zha];rw[ih hu.2 (by simpa using hj) h]
theorem Qt8{l:List (Int×Qe)}{a:Int}{j:Nat}(hu:(ids l).Nodup)(hj:j<l.length)(h:l[j].1=a):Qa0 l a=l.eraseIdx j:=by
 induction l generalizing j with
 |nil=>simp at hj
 |cons p l ih=>
  simp only[ids,Zfn,Zgq] at hu;cases j with
  |zero=>
   simp only[List.getElem_cons_zero] at h;simp only[Qa0,h,if_true,List.eraseIdx_cons_zero]
  |succ j=>
   simp only[List.getElem_cons_succ] at h;have hne:¬a=p.1:=by rintro rfl;exact hu.1 (Zfm.2 ⟨l[j]'(by simpa using hj),Zg5 _,h⟩)
   simp only[Qa0,if_neg hne,List.eraseIdx_cons_succ];rw[ih hu.2 (by simpa using hj) h]
theorem Qsd{cs c:List V}{j o:Nat}{v:V}(hj:j*7+7<=cs.length)(hc:(cs.drop (j*7)).take 7=c)(ho:o<7):splice cs (j*7+o) [v]=splice cs (j*7) (c.set o v):=by
 have hl:c.length=7:=by rw[<-hc,Zf9,Zga];omega
 obtain⟨A,D,hA,e⟩:∃A D,A.length=j*7/\cs=A++(c++D):=by refine⟨cs.take (j*7),(cs.drop (j*7)).drop 7,by rw[Zf9];omega,?_⟩;rw[<-hc,Zft,Zft]
 subst e;clear hc hj;have h1:List.take (A.length+o) (A++(c++D))=A++c.take o:=by rw[List.take_length_add_append,Zh0 (by omega)]
 have h2:List.drop (A.length+(o+1)) (A++(c++D))=c.drop (o+1)++D:=by rw[List.drop_length_add_append,List.drop_append_of_le_length (by omega)]
 have h3:List.drop (A.length+7) (A++(c++D))=D:=by rw[List.drop_length_add_append,<-hl,Zh1]
 have h4:List.take A.length (A++(c++D))=A:=List.take_left;unfold splice;rw[<-hA,Zg0,hl,h1,h3,h4];show A++c.take o++[v]++List.drop (A.length+(o+1)) (A++(c++D))=_;rw[h2,List.set_eq_take_append_cons_drop,if_pos (by omega)];simp
theorem Zy.field{cs:List V}{l:List (Int×Qe)}{j o:Nat}{v:V}{p:Int×Qe}(h:Zy cs l)(hj:j<l.length)(ho:o<7)(hp:LnC (((cs.drop (j*7)).take 7).set o v) p):Zy (splice cs (j*7+o) [v]) (l.set j p):=by rw[Qsd (by rw[h.len];omega) rfl ho];exact Zy.put hp j hj h
theorem Qbv{g:Get}{made:Int}{pc lc cs cs2:List V}{a b n:Nat}{rv rv' :V}(hp:frzL (frz g 9) pc=some pc)(hl:frzL (frz g 9) lc=some lc)(hc:frzL (frz g 9) cs=some cs2)(l1:lc.length=b*1)(l2:cs.length=n*7)
 (g18:g 1 18=some (.mgrow lc b))(g36:g 1 36=some (.mgrow cs n))(hr:frz g 11 rv=some rv'):
 frz g depth (.tuple [.agg [.int .i64 made,.gS 1 12 pc a 1,.mg 1 18 b 1,.mg 1 36 n 7],rv])=some (.tuple [.agg (Qo made (.iS pc a false) (.iS lc b false) (.iS cs2 n false)),rv']):=by
 have f1:frz g 10 (.gS 1 12 pc a 1)=some (.iS pc a false):=by show(frzL (frz g 9) pc).map _=_;rw[hp];rfl
 have f2:frz g 10 (.mg 1 18 b 1)=some (.iS lc b false):=by
  show(match g 1 18 with
   |some (.mgrow xs k)=>if k=b/\xs.length=b*1 then(frzL (frz _ 9) xs).map fun cs=>V.iS cs b false else none
   |_=>none)=_
  rw[g18];simp only[l1,and_self,if_true,hl,Ze4]
 have f3:frz g 10 (.mg 1 36 n 7)=some (.iS cs2 n false):=by
  show(match g 1 36 with
   |some (.mgrow xs k)=>if k=n/\xs.length=n*7 then(frzL (frz _ 9) xs).map fun cs=>V.iS cs n false else none
   |_=>none)=_
  rw[g36];simp only[l2,and_self,if_true,hc,Ze4]
 have f4:frz g 11 (.agg [.int .i64 made,.gS 1 12 pc a 1,.mg 1 18 b 1,.mg 1 36 n 7])=some (.agg (Qo made (.iS pc a false) (.iS lc b false) (.iS cs2 n false))):=by show(frzL (frz g 10) _).map V.agg=_;simp only[frzL,f1,f2,f3];rfl
 show(frzL (frz g 11) _).map V.tuple=_;simp only[frzL,f4,hr];rfl
end
end Go.Proofs.YtmapmgfiamfocaaGreat
