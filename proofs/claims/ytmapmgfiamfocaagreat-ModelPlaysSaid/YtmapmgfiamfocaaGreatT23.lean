/- This file holds in one the texts R7, R8, R9, R10; each says at its head what it proves. -/
import Derived.Test.YtmapmgfiamfocaaGreatT22
set_option linter.unusedSimpArgs false
set_option linter.unusedVariables false
section
set_option maxRecDepth 100000
namespace Go.Proofs.YtmapmgfiamfocaaGreat
open Go.AM Go.Mod
attribute [local irreducible] U W
theorem Qjf(v:V)(l:List (Qq×Int))(hv:Qdh v l)(hl:l.length<=1000)(s:Qq):
 Fz Tryz.prog Qv 57 [v,.str s] fun r=>Qdh r (Qjp s l):=by
 refine Jx Tryz.func57 rfl ?_;have s1:=Qz hv;have ln:=hv.len Tryz.underlying78;have u78:=Tryz.underlying78;have m25:Qv.mt 57 25=false:=rfl;simp only[wA,↓Qc,simprocAttr,Tryz.ntmps57,s1,ta,wH,wB];refine W.ul ?_;refine W.loopS (kt:=[0,1,5,6]) rfl (fun a:Nat×List (Qq×Int)=>Q3t v (.str s) (Ji 26 (Xp a.2) a.2.length 2) (.int .i64 a.1)) (fun a=>[Kb 26 a.2.length])
  (fun a=>a.1<=l.length/\a.2=Qjp s (l.take a.1)) (fun a=>l.length-a.1) ?_ (0,[]) ⟨by simp,rfl⟩ rfl rfl
 rintro⟨i,out⟩ ⟨hi,hb⟩;simp only at hi hb⊢;simp only[Q3t];have ho:out.length<=1000:=by rw[hb];exact Ze9 (Zhz _ _) (by rw[Zf9];omega)
 have key:i<l.length\/¬i<l.length:=Classical.em _;rcases key with h0|h0
 . have c1:decide ((i:Int)<l.length)=true:=Zig (by omega);have wi:(IntKind.i64).wrap ((i:Int)+1)=((i+1:Nat):Int):=by rw[wrap_i64]<;>omega
   have at1:=hv.at (k:= .i64) Tryz.underlying78 Qqx (by decide) (i:=(i:Int)) (by omega) (by omega);obtain⟨g1,g2⟩:=Qh1 l i h0;have g1' :(Xp l)[(i:Int).toNat*2+0]?=some (.str l[i].1):=g1;have g1'' :(Xp l)[(i:Int).toNat*2]?=some (.str l[i].1):=g1;have ra:=Q38 h0;have ht:l.take (i+1)=l.take i++[l[i]]:=by rw[Zg6,Ze3 h0];rfl
   by_cases hn:out.length=0
   . have hnil:=Zf7 hn;have og:Ji 26 (Xp out) out.length 2= .nS:=by rw[hn];rfl
     have oh:Kb 26 out.length=[]:=by rw[hn];rfl
     rw[og,oh];have a26:=Qzv (f:=57) (d:=26) (g:=Qd [[]]) (e:=l[i]) rfl rfl rfl rfl;simp only[wA,↓Qc,simprocAttr,c1,at1,g1',g1'',ra,ln,s1,Qu,u78,m25,V.pure,Zgp,ta,wH,wB];refine W.ite (fun h1=>?_) (fun h1=>?_)
     . simp only[wA,↓Qc,simprocAttr,c1,at1,ra,ln,s1,Qu,u78,m25,V.pure,Zgp,ta,wH,wB,↓a26,wi];refine W.done ⟨(i+1,[l[i]]),rfl,rfl,⟨by simp only;omega,?_⟩,by simp only;omega⟩;simp only[ht,Qjp,Zh2];rw[show(l.take i).filter _=[] from(hb.symm.trans hnil),List.filter_cons_of_pos (p:=fun p:Qq×Int=>p.1 !=s) h1];rfl
     . simp only[wA,↓Qc,simprocAttr,wi];refine W.done ⟨(i+1,out),by simp only[og];rfl,by simp only[oh],⟨by simp only;omega,?_⟩,by simp only;omega⟩;simp only[ht,Qjp,Zh2];rw[List.filter_cons_of_neg (by have h2:(l[i].1 !=s)=false:=h1;rw[h2];simp),List.filter_nil,Zf2];exact hb
   . have og:Ji 26 (Xp out) out.length 2= .gS 0 26 (Xp out) out.length 2:=if_neg hn;have oh:Kb 26 out.length=[(26,.grow out.length)]:=if_neg hn;rw[og,oh];have a26:=Qra (f:=57) (d:=26) (k:=26) (n:=out.length) (g:=Qd [[(26,.grow out.length)]]) (out:=out) (e:=l[i]) (by omega) (by simp[Qd,Qa4]);simp only[wA,↓Qc,simprocAttr,c1,at1,g1',g1'',ra,ln,s1,Qu,u78,m25,V.pure,Zgp,ta,wH,wB];refine W.ite (fun h1=>?_) (fun h1=>?_)
     . simp only[wA,↓Qc,simprocAttr,c1,at1,ra,ln,s1,Qu,u78,m25,V.pure,Zgp,ta,wH,wB,↓a26,wi];refine W.done ⟨(i+1,out++[l[i]]),by simp only[Qg5];rfl,by simp only[Qk6],⟨by simp only;omega,?_⟩,by simp only;omega⟩;simp only[ht,Qjp,Zh2];rw[List.filter_cons_of_pos (p:=fun p:Qq×Int=>p.1 !=s) h1,List.filter_nil,hb];rfl
     . simp only[wA,↓Qc,simprocAttr,wi];refine W.done ⟨(i+1,out),by simp only[og];rfl,by simp only[oh],⟨by simp only;omega,?_⟩,by simp only;omega⟩;simp only[ht,Qjp,Zh2];rw[List.filter_cons_of_neg (by have h2:(l[i].1 !=s)=false:=h1;rw[h2];simp),List.filter_nil,Zf2];exact hb
 . have c1:decide ((i:Int)<l.length)=false:=Zih (by omega);have e:i=l.length:=by omega
   subst e;rw[Zg7] at hb;obtain⟨r,f1,f2⟩:=frzE (k:=26) (out:=out) rfl (Qd [Kb 26 out.length]) 10;simp only[wA,↓Qc,simprocAttr,c1,ln,s1,ta,wB];refine W.done ?_;simp only[wA,↓Qc,simprocAttr];exact W.done (Zg.ret rfl f1 (hb▸f2))
structure LnR(nv ov:V)(oc:List V)(ns:List (Qq×Int))(L:Qe):Prop where
 n:Qdh nv ns
 o:Ql 3 ov oc 16
 c:Xy oc L.objs
 p:ns.Perm L.names
 r:Qi8 ns
section
variable {nv ov : V} {oc : List V} {ns : List (Qq × Int)} {L : Qe}
theorem LnR.num(h:LnR nv ov oc ns L)(ok:Q5 L)(s:Qq):Zb ns s=Zb L.names s:=Qxz h.p ok.uniq s
theorem LnR.obj(h:LnR nv ov oc ns L)(ok:Q5 L)(s:Qq):Qj9 ns s=(Zb L.names s).getD 0:=by unfold Qj9;rw[h.num ok]
theorem LnR.len(h:LnR nv ov oc ns L)(ok:Q5 L):ns.length=L.names.length/\ns.length<=16:=by have:=h.p.length_eq;have:=ok.few;omega
theorem LnR.nz(h:LnR nv ov oc ns L)(ok:Q5 L):∀p∈ns,p.2≠0:=fun p hp=>by have:=ok.nums p (h.p.mem_iff.1 hp);omega
theorem LnR.at_(h:LnR nv ov oc ns L)(ok:Q5 L){i:Int}(h0:0<=i)(h1:i<16):∃dv,oc[i.toNat*3]?=some (.int .u8 (L.ob i).kind)/\oc[i.toNat*3+0]?=some (.int .u8 (L.ob i).kind)/\oc[i.toNat*3+1]?=some (.int .i64 (L.ob i).links)/\oc[i.toNat*3+2]?=some dv/\Qx dv (L.ob i).data:=by
 have hk:i.toNat<L.objs.length:=by rw[ok.n16];omega
 obtain⟨dv,g1,g2,g3,g4⟩:=h.c.at_ i.toNat hk;have e:L.ob i=L.objs[i.toNat]:=by have:=ok.at_ h0 h1;rw[Ze3 hk] at this;exact(Option.some.inj this).symm
 rw[e];exact⟨dv,g1,g1,g2,g3,g4⟩
end
theorem Qv7(id:Int)(sn:Bool)(ow pr ky:Int)(nv ov:V)(oc:List V)(ns:List (Qq×Int))(L:Qe)(h:LnR nv ov oc ns L)(ok:Q5 L)(s0:Qq):
 Fz Tryz.prog Qv 55 [.agg (Qk id sn ow pr ky nv ov),.str s0] fun r=>r= .tuple [.int .i64 (L.follow 9 s0).1,.int .i64 (L.follow 9 s0).2]:=by
 refine Jx Tryz.func55 rfl ?_;have s1:=Qz h.n;have s2:=Qz h.o;have p1:=Ql.pure h.n;have p2:=Ql.pure h.o;have hlen:=h.len ok;simp only[wA,↓Qc,simprocAttr,Tryz.ntmps55,Qk,s1,s2,p1,p2,V.pure,Zgp,ta,wH,wB];refine W.ul ?_;refine W.loopS (kt:=[1,2,6]) rfl (fun a:Nat×Qq=>Q39 (.str a.2) (.iptr [.int .i64 id,.bool sn,.int .i64 ow,.int .i64 pr,.int .i64 ky,nv,ov] 0) (.int .i64 a.1)) (fun _=>[[]]) (fun a=>a.1<=9/\L.follow (9-a.1) a.2=L.follow 9 s0) (fun a=>9-a.1) ?_ (0,s0) ⟨by simp,rfl⟩ rfl rfl;rintro⟨i,s⟩ ⟨hi,hb⟩;simp only at hi hb⊢;simp only[Q39];have key:i<9\/¬i<9:=Classical.em _;rcases key with h0|h0
 . have c1:decide ((i:Int)<=8)=true:=Zig (by omega);have wi:(IntKind.i64).wrap ((i:Int)+1)=((i+1:Nat):Int):=by rw[wrap_i64]<;>omega
   obtain⟨j,hj⟩:∃j,9-i=j+1:=⟨8-i,by omega⟩;rw[hj,Qe.follow] at hb;simp only[wA,↓Qc,simprocAttr,c1,s1,s2,ta,wB];refine W.pcall (Qs6 id sn ow pr ky nv ov ns h.n s2 p2 (by omega) s) rfl rfl (Qle id sn ow pr ky h.n h.o s) ?_;rintro _ rfl;rw[h.obj ok];simp only[wA,↓Qc,simprocAttr];cases hs:Zb L.names s with
   |none=>
    rw[hs] at hb;simp only[wA,↓Qc,simprocAttr,Zf8,beq_self_eq_true];refine W.done ?_;simp only[wA,↓Qc,simprocAttr];exact W.done (Zg.ret rfl rfl (by rw[<-hb];rfl))
   |some m=>
    rw[hs] at hb;have hm:=ok.num hs;obtain⟨dv,g1,g1',g2,g3,g4⟩:=h.at_ ok (i:=m) (by omega) (by omega);have at1:=h.o.at (k:= .i64) Tryz.underlying79 Qhk (by decide) (i:=m) (by omega) (by omega);have cm:((m==0):Bool)=false:=by simp;omega
    have tx:=fun g=>Qh9 (g:=g) g4;simp only[wA,↓Qc,simprocAttr,Zgi,cm,at1,g1,g1',s1,s2,ta,wB];refine W.ite (fun h2=>?_) (fun h2=>?_)
    . have h3:¬(L.ob m).kind=3:=by simpa using h2
      simp only[h3,if_false] at hb;simp only[wA,↓Qc,simprocAttr];refine W.done ?_;simp only[wA,↓Qc,simprocAttr];exact W.done (Zg.ret rfl rfl (by rw[<-hb];rfl))
    . have h3:(L.ob m).kind=3:=by simpa using h2
      simp only[h3,if_true] at hb;simp only[wA,↓Qc,simprocAttr,at1,g3,Qdm,tx,s1,s2,ta,wB,wi];refine W.done ⟨(i+1,(L.ob m).data),rfl,rfl,⟨by simp only;omega,?_⟩,by simp only;omega⟩;simp only;rw[show 9-(i+1)=j by omega];exact hb
 . have c1:decide ((i:Int)<=8)=false:=Zih (by omega);have e:i=9:=by omega
   subst e;simp only[wA,↓Qc,simprocAttr,c1];refine W.done ?_;simp only[wA,↓Qc,simprocAttr];exact W.done (Zg.ret rfl rfl (by rw[<-hb];rfl))
end Go.Proofs.YtmapmgfiamfocaaGreat
namespace Go.Proofs.YtmapmgfiamfocaaGreat
open Go.AM Go.Mod
attribute [local irreducible] U W
def Q6(L:Qe)(c:Zc):Int×Int:=
 let obj:=(Zb L.names c.name).getD 0
 if c.kind=9\/c.kind=10 then
  (if c.kind=10/\X8 c.as_=false then(0,240) else((L.free:Int),if Kj L.names c.name=0/\L.free=16 then 9 else Kj L.names c.name))
 else if c.kind=11\/c.kind=13 then
  (if X8 c.as_=false then(0,240) else if obj=0 then(0,6) else if c.kind=11/\(L.ob obj).kind≠1 then(0,250) else if(Zb L.names c.as_).isSome then(0,241)
   else if c.kind=11 then(obj,Kj L.names c.as_) else(obj,0))
 else if c.kind=12\/c.kind=17 then(if obj=0 then(0,6) else(obj,0))
 else if c.kind=18 then(0,0)
 else if(if c.kind=14 then !inR c.b||!inR c.c else if c.kind=15 then !inR c.c||decide ((c.data.length:Int)>3840-c.c) else !inR c.b) then(0,2)
 else L.follow 9 c.name
section
variable {nv ov : V} {oc : List V} {ns : List (Qq × Int)} {L : Qe}
theorem LnR.room(h:LnR nv ov oc ns L)(ok:Q5 L)(s:Qq):Kj ns s=Kj L.names s:=by unfold Kj;rw[h.num ok,(h.len ok).1]
theorem LnR.isSome(h:LnR nv ov oc ns L)(ok:Q5 L)(s:Qq):(Zb L.names s).isSome= !((Zb L.names s).getD 0==0):=by
 cases hs:Zb L.names s with
 |none=>rfl
 |some m=>
  have:=ok.num hs;have e:(m==0)=false:=by simp;omega
  simp only[Zhe,Zgi,e,Zgo]
end
theorem Qbb{id:Int}{sn:Bool}{ow pr ky:Int}{nv ov:V}{nc oc:List V}{n m:Nat}(hn:Ql 2 nv nc n)(ho:Ql 3 ov oc m):frz (fun _ _=>none) depth (.agg (Qk id sn ow pr ky nv ov))=some (.agg (Qk id sn ow pr ky nv ov)):=by obtain⟨_,⟨rfl,_⟩|⟨f,rfl⟩⟩:=hn<;>obtain⟨_,⟨rfl,_⟩|⟨f',rfl⟩⟩:=ho<;>rfl
theorem Qt7{c:Zc}{dv:V}(h:Qx dv c.data):frz (fun _ _=>none) depth (.agg (Qf c dv))=some (.agg (Qf c dv)):=by obtain⟨_,⟨rfl,_⟩|⟨f,rfl⟩⟩:=h<;>rfl
set_option maxHeartbeats 4000000 in
theorem Q2w(id:Int)(ky:Int)(nv ov:V)(oc:List V)(ns:List (Qq×Int))(L:Qe)(h:LnR nv ov oc ns L)(ok:Q5 L)(c:Zc)(dv:V)(hc:Ye c dv)(hk:9<=c.kind/\c.kind<=18):
 Fz Tryz.prog Qv 23 [.agg (Qk id L.snap L.owner L.prev ky nv ov),.agg (Qf c dv)] fun r=>r= .tuple [.int .i64 (Q6 L c).1,.int .i64 (Q6 L c).2]:=by
 refine Jx Tryz.func23 rfl ?_;have s1:=Qz h.n;have s2:=Qz h.o;have s3:=Qz hc.data;have p1:=Ql.pure h.n;have p2:=Ql.pure h.o;have p3:=Ql.pure hc.data;have hlen:=h.len ok;have nm:=fun s=>Qs6 id L.snap L.owner L.prev ky nv ov ns h.n s2 p2 (by omega) s;have lf:=fun s=>Qle id L.snap L.owner L.prev ky h.n h.o s;have mo:=fun s=>Q56 id L.snap L.owner L.prev ky nv ov ns oc 16 h.n h.o (by omega) (h.nz ok) s;have fr:=Q7m id L.snap L.owner L.prev ky nv ov (Xp ns) oc ns.length L.objs h.n h.o h.c ok.n16;have fo:=fun s=>Qv7 id L.snap L.owner L.prev ky nv ov oc ns L h ok s;have ld:=hc.data.len Tryz.underlying24;have hn1:=hc.name;have hn2:=hc.as_;have hobj:=h.obj ok c.name;have hobj2:=h.obj ok c.as_;have hro:=h.room ok c.name;have hro2:=h.room ok c.as_;have his:=h.isSome ok c.as_;simp only[wA,↓Qc,simprocAttr,Tryz.ntmps23,Qk,Qf,s1,s2,s3,p1,p2,p3,V.pure,Zgp,ta,wH,wB];refine W.pcall (nm c.name) rfl rfl (lf c.name) ?_;rintro _ rfl;rw[hobj];obtain⟨kind,a,b,cc,name,as_,text,data⟩:=c;simp only at*;have hk' :kind=9\/kind=10\/kind=11\/kind=12\/kind=13\/kind=14\/kind=15\/kind=16\/kind=17\/kind=18:=by omega
 have hfree:((Yy L.objs 15 1:Nat):Int)=(L.free:Int):=rfl;have lfr:=Qt (l:=[]) (m:=[]) (Qbb (id:=id) (sn:=L.snap) (ow:=L.owner) (pr:=L.prev) (ky:=ky) h.n h.o) rfl;have nam:=fun(x:Qq) hx=>Qt1 x hx;rcases hk' with rfl|rfl|rfl|rfl|rfl|rfl|rfl|rfl|rfl|rfl
 . simp only[wA,↓Qc,simprocAttr,s1,s2,s3,V.pure,Zgp,ta,wH,wB];refine W.pcall (mo name) rfl rfl (lf name) ?_;rintro _ rfl;rw[hro];by_cases hE:Kj L.names name=0
   . have e1:(Kj L.names name==0)=true:=by simp[hE]
     simp only[wA,↓Qc,simprocAttr,e1,s1,s2,s3,V.pure,Zgp,ta,wH,wB];refine W.pcall fr rfl rfl lfr ?_;rintro _ rfl;rw[hfree];by_cases hF:L.free=16
     . have e2:((L.free:Int)==16)=true:=by simp[hF]
       simp only[wA,↓Qc,simprocAttr,e2,s1,s2,s3,V.pure,Zgp,ta,wH,wB];refine W.pcall fr rfl rfl lfr ?_;rintro _ rfl;simp only[wA,↓Qc,simprocAttr];exact W.done (Zg.ret rfl rfl (by simp[Q6,hE,hF,hfree]))
     . have e2:((L.free:Int)==16)=false:=by simp;omega
       simp only[wA,↓Qc,simprocAttr,e2,s1,s2,s3,V.pure,Zgp,ta,wH,wB];refine W.pcall fr rfl rfl lfr ?_;rintro _ rfl;simp only[wA,↓Qc,simprocAttr];exact W.done (Zg.ret rfl rfl (by simp[Q6,hE,hF,hfree]))
   . have e1:(Kj L.names name==0)=false:=by simp[hE]
     simp only[wA,↓Qc,simprocAttr,e1,s1,s2,s3,V.pure,Zgp,ta,wH,wB];refine W.pcall fr rfl rfl lfr ?_;rintro _ rfl;simp only[wA,↓Qc,simprocAttr];exact W.done (Zg.ret rfl rfl (by simp[Q6,hE,hfree]))
 . simp only[wA,↓Qc,simprocAttr,s1,s2,s3,V.pure,Zgp,ta,wH,wB];refine W.pcall (nam as_ (by omega)) rfl rfl rfl ?_;rintro _ rfl;cases hN:X8 as_ with
   |false=>
    simp only[wA,↓Qc,simprocAttr];exact W.done (Zg.ret rfl rfl (by simp[Q6,hN]))
   |true=>
    simp only[wA,↓Qc,simprocAttr,s1,s2,s3,V.pure,Zgp,ta,wH,wB];refine W.pcall (mo name) rfl rfl (lf name) ?_;rintro _ rfl;rw[hro];by_cases hE:Kj L.names name=0
    . have e1:(Kj L.names name==0)=true:=by simp[hE]
      simp only[wA,↓Qc,simprocAttr,e1,s1,s2,s3,V.pure,Zgp,ta,wH,wB];refine W.pcall fr rfl rfl lfr ?_;rintro _ rfl;rw[hfree];by_cases hF:L.free=16
      . have e2:((L.free:Int)==16)=true:=by simp[hF]
        simp only[wA,↓Qc,simprocAttr,e2,s1,s2,s3,V.pure,Zgp,ta,wH,wB];refine W.pcall fr rfl rfl lfr ?_;rintro _ rfl;simp only[wA,↓Qc,simprocAttr];exact W.done (Zg.ret rfl rfl (by simp[Q6,hE,hF,hN,hfree]))
      . have e2:((L.free:Int)==16)=false:=by simp;omega
        simp only[wA,↓Qc,simprocAttr,e2,s1,s2,s3,V.pure,Zgp,ta,wH,wB];refine W.pcall fr rfl rfl lfr ?_;rintro _ rfl;simp only[wA,↓Qc,simprocAttr];exact W.done (Zg.ret rfl rfl (by simp[Q6,hE,hF,hN,hfree]))
    . have e1:(Kj L.names name==0)=false:=by simp[hE]
      simp only[wA,↓Qc,simprocAttr,e1,s1,s2,s3,V.pure,Zgp,ta,wH,wB];refine W.pcall fr rfl rfl lfr ?_;rintro _ rfl;simp only[wA,↓Qc,simprocAttr];exact W.done (Zg.ret rfl rfl (by simp[Q6,hE,hN,hfree]))
 . simp only[wA,↓Qc,simprocAttr,s1,s2,s3,V.pure,Zgp,ta,wH,wB];refine W.pcall (nam as_ (by omega)) rfl rfl rfl ?_;rintro _ rfl;cases hN:X8 as_ with
   |false=>
    simp only[wA,↓Qc,simprocAttr];exact W.done (Zg.ret rfl rfl (by simp[Q6,hN]))
   |true=>
    simp only[wA,↓Qc,simprocAttr];cases hs:Zb L.names name with
    |none=>
     simp only[wA,↓Qc,simprocAttr,Zf8,beq_self_eq_true];exact W.done (Zg.ret rfl rfl (by simp[Q6,hN,hs]))
    |some m=>
     have hm:=ok.num hs;obtain⟨dv',g1,g1',g2,g3,g4⟩:=h.at_ ok (i:=m) (by omega) (by omega);have at1:=h.o.at (k:= .i64) Tryz.underlying79 Qhk (by decide) (i:=m) (by omega) (by omega);have cm:((m==0):Bool)=false:=by simp;omega
     have cm' :¬m=0:=by omega
     by_cases hk1:(L.ob m).kind=1
     . have e1:((L.ob m).kind !=1)=false:=by simp[hk1]
       simp only[wA,↓Qc,simprocAttr,Zgi,cm,at1,g1,g1',e1,s1,s2,s3,V.pure,Zgp,ta,wH,wB];refine W.pcall (nm as_) rfl rfl (lf as_) ?_;rintro _ rfl;rw[hobj2];have his2:=his;cases hb:((Zb L.names as_).getD 0==0) with
       |false=>
        rw[hb] at his2;have hb3:((Zb L.names as_).getD 0 !=0)=true:=by rw[bne,hb];rfl
        simp only[wA,↓Qc,simprocAttr,hb3,s1,s2,s3,V.pure,Zgp,ta,wH,wB];exact W.done (Zg.ret rfl rfl (by simp[Q6,hN,hs,cm',his2,hk1]))
       |true=>
        rw[hb] at his2;have hb3:((Zb L.names as_).getD 0 !=0)=false:=by rw[bne,hb];rfl
        simp only[wA,↓Qc,simprocAttr,hb3,s1,s2,s3,V.pure,Zgp,ta,wH,wB];refine W.pcall (mo as_) rfl rfl (lf as_) ?_;rintro _ rfl;rw[hro2];simp only[wA,↓Qc,simprocAttr];exact W.done (Zg.ret rfl rfl (by simp[Q6,hN,hs,cm',his2,hk1]))
     . have e1:((L.ob m).kind !=1)=true:=by simp[hk1]
       simp only[wA,↓Qc,simprocAttr,Zgi,cm,at1,g1,g1',e1,s1,s2,s3,V.pure,Zgp,ta,wH,wB];exact W.done (Zg.ret rfl rfl (by simp[Q6,hN,hs,cm',hk1]))
 . simp only[wA,↓Qc,simprocAttr,s1,s2,s3,V.pure,Zgp,ta,wH,wB];cases hs:Zb L.names name with
   |none=>
    simp only[wA,↓Qc,simprocAttr,Zf8,beq_self_eq_true];exact W.done (Zg.ret rfl rfl (by simp[Q6,hs]))
   |some m=>
    have hm:=ok.num hs;have cm:((m==0):Bool)=false:=by simp;omega
    have cm' :¬m=0:=by omega
    simp only[wA,↓Qc,simprocAttr,Zgi,cm];exact W.done (Zg.ret rfl rfl (by simp[Q6,hs,cm']))
 . simp only[wA,↓Qc,simprocAttr,s1,s2,s3,V.pure,Zgp,ta,wH,wB];refine W.pcall (nam as_ (by omega)) rfl rfl rfl ?_;rintro _ rfl;cases hN:X8 as_ with
   |false=>
    simp only[wA,↓Qc,simprocAttr];exact W.done (Zg.ret rfl rfl (by simp[Q6,hN]))
   |true=>
    simp only[wA,↓Qc,simprocAttr];cases hs:Zb L.names name with
    |none=>
     simp only[wA,↓Qc,simprocAttr,Zf8,beq_self_eq_true];exact W.done (Zg.ret rfl rfl (by simp[Q6,hN,hs]))
    |some m=>
     have hm:=ok.num hs;obtain⟨dv',g1,g1',g2,g3,g4⟩:=h.at_ ok (i:=m) (by omega) (by omega);have at1:=h.o.at (k:= .i64) Tryz.underlying79 Qhk (by decide) (i:=m) (by omega) (by omega);have cm:((m==0):Bool)=false:=by simp;omega
     have cm' :¬m=0:=by omega
     simp only[wA,↓Qc,simprocAttr,Zgi,cm,s1,s2,s3,V.pure,Zgp,ta,wH,wB];refine W.pcall (nm as_) rfl rfl (lf as_) ?_;rintro _ rfl;rw[hobj2];have his2:=his;cases hb:((Zb L.names as_).getD 0==0) with
     |false=>
      rw[hb] at his2;have hb3:((Zb L.names as_).getD 0 !=0)=true:=by rw[bne,hb];rfl
      simp only[wA,↓Qc,simprocAttr,hb3,s1,s2,s3,V.pure,Zgp,ta,wH,wB];exact W.done (Zg.ret rfl rfl (by simp[Q6,hN,hs,cm',his2]))
     |true=>
      rw[hb] at his2;have hb3:((Zb L.names as_).getD 0 !=0)=false:=by rw[bne,hb];rfl
      simp only[wA,↓Qc,simprocAttr,hb3,s1,s2,s3,V.pure,Zgp,ta,wH,wB];exact W.done (Zg.ret rfl rfl (by simp[Q6,hN,hs,cm',his2]))
 . by_cases hb:inR b=true
   . have hb2:0<=b/\b<=3840:=by simpa [inR] using hb
     have e1:decide (b<0)=false:=by simp;omega
     have e2:decide (b>3840)=false:=by simp;omega
     by_cases hcc:inR cc=true
     . have hc2:0<=cc/\cc<=3840:=by simpa [inR] using hcc
       have e3:decide (cc<0)=false:=by simp;omega
       have e4:decide (cc>3840)=false:=by simp;omega
       simp only[wA,↓Qc,simprocAttr,e1,e2,e3,e4,s1,s2,s3,V.pure,Zgp,ta,wH,wB];refine W.pcall (fo name) rfl rfl (lf name) ?_;rintro _ rfl;simp only[wA,↓Qc,simprocAttr];exact W.done (Zg.ret rfl rfl (by simp[Q6,hb,hcc]))
     . have hcc' :inR cc=false:=by simpa using hcc
       by_cases h3:cc<0
       . have e3:decide (cc<0)=true:=by simp[h3]
         simp only[wA,↓Qc,simprocAttr,e1,e2,e3,s1,s2,s3,V.pure,Zgp,ta,wH,wB];exact W.done (Zg.ret rfl rfl (by simp[Q6,hb,hcc']))
       . have e3:decide (cc<0)=false:=by simp;omega
         have e4:decide (cc>3840)=true:=by simp[inR] at hcc';simp;omega
         simp only[wA,↓Qc,simprocAttr,e1,e2,e3,e4,s1,s2,s3,V.pure,Zgp,ta,wH,wB];exact W.done (Zg.ret rfl rfl (by simp[Q6,hb,hcc']))
   . have hb' :inR b=false:=by simpa using hb
     by_cases h1:b<0
     . have e1:decide (b<0)=true:=by simp[h1]
       simp only[wA,↓Qc,simprocAttr,e1,s1,s2,s3,V.pure,Zgp,ta,wH,wB];exact W.done (Zg.ret rfl rfl (by simp[Q6,hb']))
     . have e1:decide (b<0)=false:=by simp;omega
       have e2:decide (b>3840)=true:=by simp[inR] at hb';simp;omega
       simp only[wA,↓Qc,simprocAttr,e1,e2,s1,s2,s3,V.pure,Zgp,ta,wH,wB];exact W.done (Zg.ret rfl rfl (by simp[Q6,hb']))
 . by_cases hcc:inR cc=true
   . have hc2:0<=cc/\cc<=3840:=by simpa [inR] using hcc
     have e3:decide (cc<0)=false:=by simp;omega
     have e4:decide (cc>3840)=false:=by simp;omega
     have w1:(IntKind.i64).wrap (3840-cc)=3840-cc:=by rw[wrap_i64]<;>omega
     by_cases h5:(data.length:Int)>3840-cc
     . have e5:decide ((data.length:Int)>3840-cc)=true:=by simp only[h5,decide_true]
       simp only[wA,↓Qc,simprocAttr,e3,e4,ld,w1,e5,s1,s2,s3,V.pure,Zgp,ta,wH,wB];exact W.done (Zg.ret rfl rfl (by simp[Q6,hcc,e5]))
     . have e5:decide ((data.length:Int)>3840-cc)=false:=by simp only[h5,decide_false]
       simp only[wA,↓Qc,simprocAttr,e3,e4,ld,w1,e5,s1,s2,s3,V.pure,Zgp,ta,wH,wB];refine W.pcall (fo name) rfl rfl (lf name) ?_;rintro _ rfl;simp only[wA,↓Qc,simprocAttr];exact W.done (Zg.ret rfl rfl (by simp[Q6,hcc,e5]))
   . have hcc' :inR cc=false:=by simpa using hcc
     by_cases h3:cc<0
     . have e3:decide (cc<0)=true:=by simp[h3]
       simp only[wA,↓Qc,simprocAttr,e3,s1,s2,s3,V.pure,Zgp,ta,wH,wB];exact W.done (Zg.ret rfl rfl (by simp[Q6,hcc']))
     . have e3:decide (cc<0)=false:=by simp;omega
       have e4:decide (cc>3840)=true:=by simp[inR] at hcc';simp;omega
       simp only[wA,↓Qc,simprocAttr,e3,e4,s1,s2,s3,V.pure,Zgp,ta,wH,wB];exact W.done (Zg.ret rfl rfl (by simp[Q6,hcc']))
 . by_cases hb:inR b=true
   . have hb2:0<=b/\b<=3840:=by simpa [inR] using hb
     have e1:decide (b<0)=false:=by simp;omega
     have e2:decide (b>3840)=false:=by simp;omega
     simp only[wA,↓Qc,simprocAttr,e1,e2,s1,s2,s3,V.pure,Zgp,ta,wH,wB];refine W.pcall (fo name) rfl rfl (lf name) ?_;rintro _ rfl;simp only[wA,↓Qc,simprocAttr];exact W.done (Zg.ret rfl rfl (by simp[Q6,hb]))
   . have hb' :inR b=false:=by simpa using hb
     by_cases h1:b<0
     . have e1:decide (b<0)=true:=by simp[h1]
       simp only[wA,↓Qc,simprocAttr,e1,s1,s2,s3,V.pure,Zgp,ta,wH,wB];exact W.done (Zg.ret rfl rfl (by simp[Q6,hb']))
     . have e1:decide (b<0)=false:=by simp;omega
       have e2:decide (b>3840)=true:=by simp[inR] at hb';simp;omega
       simp only[wA,↓Qc,simprocAttr,e1,e2,s1,s2,s3,V.pure,Zgp,ta,wH,wB];exact W.done (Zg.ret rfl rfl (by simp[Q6,hb']))
 . simp only[wA,↓Qc,simprocAttr,s1,s2,s3,V.pure,Zgp,ta,wH,wB];cases hs:Zb L.names name with
   |none=>
    simp only[wA,↓Qc,simprocAttr,Zf8,beq_self_eq_true];exact W.done (Zg.ret rfl rfl (by simp[Q6,hs]))
   |some m=>
    have hm:=ok.num hs;have cm:((m==0):Bool)=false:=by simp;omega
    have cm' :¬m=0:=by omega
    simp only[wA,↓Qc,simprocAttr,Zgi,cm];exact W.done (Zg.ret rfl rfl (by simp[Q6,hs,cm']))
 . simp only[wA,↓Qc,simprocAttr,s1,s2,s3,V.pure,Zgp,ta,wH,wB];exact W.done (Zg.ret rfl rfl (by simp[Q6]))
end Go.Proofs.YtmapmgfiamfocaaGreat
namespace Go.Proofs.YtmapmgfiamfocaaGreat
open Go.AM Go.Mod
attribute [local irreducible] U W
section
variable {T E : TypeId} {n by_ : Nat} {z : List V} {f d : Nat} {g : Get} {cs : List V}
theorem Qmd(hu:Tryz.prog.underlying T=some (.slice E))(hs:sz Tryz.prog E=some n)(hb:byt Tryz.prog E=some by_)(hz:zeroCells Tryz.prog E=some z)(hzl:z.length=n)(hby:by_<=1000)(hcs:cs.length=1*n)
 (h1:Qv.mt f d=false)(h2:Qv.mt f (Qi9 d)=false)(h3:Qv.mt f (Qlv d)=false)(hg:g 0 d=none):
 Yi Tryz.prog (Qv.mt f) 0 g (some d) T T .nS (.iS cs 1 true)=some (.val (.gS 0 d cs 1 n) (some (0,d,.grow 1))):=by
 rw[Qaj (m:=1) (cs:=cs) hu hs hb hz hzl hu (by simp only[Z3,hcs,if_true]) (by decide) (Jb (by omega) (by decide))];exact Qcq h1 hg h2 h3
theorem Qrg{k m:Nat}{c0:List V}(hu:Tryz.prog.underlying T=some (.slice E))(hs:sz Tryz.prog E=some n)(hb:byt Tryz.prog E=some by_)(hz:zeroCells Tryz.prog E=some z)(hzl:z.length=n)(hby:by_<=1000)(hcs:cs.length=1*n)
 (hsc:cs.all V.scalar=true)(hn:m<=1000000)(hg:g 0 k=some (.grow m)):
 Yi Tryz.prog (Qv.mt f) 0 g (some d) T T (.gS 0 k c0 m n) (.iS cs 1 true)=some (.val (.gS 0 k (c0++cs) (m+1) n) (some (0,k,.grow (m+1)))):=
 Qid (m:=1) (cs:=cs) hu hs hb hz hzl hu (by simp only[Z3,hcs,if_true]) (by decide) (Jb (Ze9 (Nat.mul_le_mul (show m+1<=1000001 by omega) hby) (by decide)) (by omega)) hsc hg
end
theorem Qhs:byt Tryz.prog 9=some 16:=by kernel_rfl
def Qdp(ns:List (Qq×Int)):List V:=(ns.map (·.1)).map .str
theorem Qrx(g:Get)(m:Nat):∀l:List Qq,frzL (frz g (m+1)) (l.map .str)=some (l.map .str)
 |[]=>rfl
 |s::l=>by
  have:=Qrx g m l;simp only[Zfn,frzL,this];rfl
theorem Q03{k:Nat}(l:List Qq){n:Nat}(hn:n=l.length):∃r,(∀(g:Get) (m:Nat),frz g (m+2) (Ji k (l.map .str) n 1)=some r)/\Ql 1 r (l.map .str) l.length:=by
 subst hn;cases l with
 |nil=>exact⟨.nS,fun _ _=>rfl,Ql.nil⟩
 |cons e l=>
  refine⟨.iS ((e::l).map .str) (e::l).length false,fun g m=>?_,Ql.mk (by simp)⟩;show(frzL (frz g (m+1)) ((e::l).map .str)).map _=_;rw[Qrx];rfl
theorem Qeq(g:Get)(m:Nat):∀l:Qq,frzL (frz g (m+1)) (Qp l)=some (Qp l)
 |[]=>rfl
 |s::l=>by
  have:=Qeq g m l;simp only[Qp,Zfn,frzL] at this⊢;simp only[this];rfl
theorem Qw4{k:Nat}(l:Qq){n:Nat}(hn:n=l.length):∃r,(∀(g:Get) (m:Nat),frz g (m+2) (Ji k (Qp l) n 1)=some r)/\Qx r l:=by
 subst hn;cases l with
 |nil=>exact⟨.nS,fun _ _=>rfl,Qx.nil⟩
 |cons e l=>
  refine⟨.iS (Qp (e::l)) (e::l).length false,fun g m=>?_,Qx.mk _ _⟩;show(frzL (frz g (m+1)) (Qp (e::l))).map _=_;rw[Qeq];rfl
def Bs(L:Qe)(c:Zc)(obj:Int):Zi:=
 if c.kind=18 then{Zl 0 with names:=sortB (L.names.map (·.1))}
 else if c.kind=17 then{Zl 0 with info:=⟨obj,(L.ob obj).kind,(L.ob obj).links,(L.ob obj).data.length,if(L.ob obj).kind=3 then(L.ob obj).data else[]⟩}
 else{Zl 0 with data:=Qzo (L.ob obj).data c.c c.b}
def Ze:List V:=[.int .i64 0,.int .i64 0,.nS,.nS,.int .i64 0,.int .u8 0,.int .i64 0,.int .i64 0,.str [],.nS]
set_option maxHeartbeats 4000000 in
theorem Qwj(id:Int)(ky:Int)(nv ov:V)(oc:List V)(ns:List (Qq×Int))(L:Qe)(h:LnR nv ov oc ns L)(ok:Q5 L)(c:Zc)(dv:V)(hc:Ye c dv)(hk:c.kind=18)(obj:Int):
 Fz Tryz.prog Qv 24 [.agg (Qk id L.snap L.owner L.prev ky nv ov),.agg (Qf c dv),.int .i64 obj] fun r=>Y4 r (Bs L c obj):=by
 refine Jx Tryz.func24 rfl ?_;have s1:=Qz h.n;have s2:=Qz h.o;have s3:=Qz hc.data;have p1:=Ql.pure h.n;have p2:=Ql.pure h.o;have p3:=Ql.pure hc.data;have hlen:=h.len ok;have ln:=h.n.len Tryz.underlying78;have u:=Tryz.underlying25;have m30:Qv.mt 24 30=false:=rfl;obtain⟨kind,a,b,cc,name,as_,text,data⟩:=c;simp only at hk;subst hk;simp only[wA,↓Qc,simprocAttr,Tryz.ntmps24,Qk,Qf,s1,s2,s3,p1,p2,p3,V.pure,Zgp,ta,wH,wB];refine W.ul ?_;refine W.loopS (kt:=[3,6,7,8]) rfl (fun i:Nat=>Q52 (.iptr [.int .i64 id,.bool L.snap,.int .i64 L.owner,.int .i64 L.prev,.int .i64 ky,nv,ov] 0) (.ptr 0 6 0) (Ji 31 (Qdp (ns.take i)) i 1) (.int .i64 i)) (fun i=>[(6,.cells Ze)::Kb 31 i])
  (fun i=>i<=ns.length) (fun i=>ns.length-i) ?_ 0 (by simp) rfl rfl
 intro i hi;simp only[Q52];have key:i<ns.length\/¬i<ns.length:=Classical.em _;rcases key with h0|h0
 . have c1:decide ((i:Int)<ns.length)=true:=Zig (by omega);have wi:(IntKind.i64).wrap ((i:Int)+1)=((i+1:Nat):Int):=by rw[wrap_i64]<;>omega
   have at1:=h.n.at (k:= .i64) Tryz.underlying78 Qqx (by decide) (i:=(i:Int)) (by omega) (by omega);obtain⟨g1,g2⟩:=Qh1 ns i h0;have g1' :(Xp ns)[(i:Int).toNat*2+0]?=some (.str ns[i].1):=g1;have g1'' :(Xp ns)[(i:Int).toNat*2]?=some (.str ns[i].1):=g1;have ht:Qdp (ns.take (i+1))=Qdp (ns.take i)++[.str ns[i].1]:=by unfold Qdp;rw[Zg6,Ze3 h0,Zhu,Zgw,Zgw];rfl
   by_cases hn:i=0
   . have ap:=Qmd (f:=24) (d:=31) (g:=Qd [[(6,.cells Ze)]]) (cs:=[.str ns[i].1]) u sz9 Qhs zc9 rfl (by decide) rfl rfl rfl rfl rfl;have og:Ji 31 (Qdp (ns.take i)) i 1= .nS:=by rw[hn];rfl
     have oh:Kb 31 i=[]:=by rw[hn];rfl
     have e0:Qdp (ns.take (i+1))=[.str ns[i].1]:=by rw[ht,show Qdp (ns.take i)=[] by rw[hn];rfl];rfl
     have e1:Ji 31 (Qdp (ns.take (i+1))) (i+1) 1= .gS 0 31 [.str ns[i].1] 1 1:=by rw[e0];unfold Ji;simp[hn]
     have e2:Kb 31 (i+1)=[(31,.grow 1)]:=by unfold Kb;simp[hn]
     rw[og,oh];simp only[wA,↓Qc,simprocAttr,c1,at1,g1',g1'',ln,s1,s2,Qu,u,m30,V.pure,Zgp,ta,wH,wB,↓ap,wi];exact W.done ⟨i+1,by simp only[e1];rfl,by simp only[e2],by omega,by omega⟩
   . have ap:=Qrg (f:=24) (d:=31) (k:=31) (m:=i) (c0:=Qdp (ns.take i)) (g:=Qd [[(6,.cells Ze),(31,.grow i)]]) (cs:=[.str ns[i].1]) u sz9 Qhs zc9 rfl (by decide) rfl rfl (by omega) rfl;have og:Ji 31 (Qdp (ns.take i)) i 1= .gS 0 31 (Qdp (ns.take i)) i 1:=if_neg hn;have oh:Kb 31 i=[(31,.grow i)]:=if_neg hn;rw[og,oh];simp only[wA,↓Qc,simprocAttr,c1,at1,g1',g1'',ln,s1,s2,Qu,u,m30,V.pure,Zgp,ta,wH,wB,↓ap,wi];exact W.done ⟨i+1,by rw[ht];rfl,rfl,by omega,by omega⟩
 . have c1:decide ((i:Int)<ns.length)=false:=Zih (by omega);have e:i=ns.length:=by omega
   subst e;rw[Zg7];have hns:=Qta h.p h.r;have sc:(Ji 31 (Qdp ns) ns.length 1).scalar=true:=by unfold Ji;split<;>rfl
   simp only[wA,↓Qc,simprocAttr,c1,ln,s1,s2,ta,wB];refine W.done ?_;have cl:(Ji 31 (Qdp ns) ns.length 1).cells=some [Ji 31 (Qdp ns) ns.length 1]:=by unfold Ji;split<;>rfl
   obtain⟨r,f1,f2⟩:=Q03 (k:=31) (ns.map (·.1)) (n:=ns.length) (by simp);have f1' :∀g m,frz g (m+2) (Ji 31 (Qdp ns) ns.length 1)=some r:=f1;generalize Ji 31 (Qdp ns) ns.length 1=ov2 at*;simp only[wA,↓Qc,simprocAttr,sc,cl,Ze,ta,wH,wB];refine W.done (Zg.ret (v:= .agg [.int .i64 0,.int .i64 0,.nS,ov2,.int .i64 0,.int .u8 0,.int .i64 0,.int .i64 0,.str [],.nS]) (v' := .agg [.int .i64 0,.int .i64 0,.nS,r,.int .i64 0,.int .u8 0,.int .i64 0,.int .i64 0,.str [],.nS]) rfl ?_ ?_)
   . show(frzL (frz _ 11) _).map V.agg=_;simp only[frzL,f1' _ 9];rfl
   . refine⟨.nS,r,.nS,rfl,Qx.nil,?_,Y0.nil⟩;simp only[Bs,if_true];rw[<-hns];exact f2
theorem LnR.ra{nv ov:V}{oc:List V}{ns:List (Qq×Int)}{L:Qe}(h:LnR nv ov oc ns L)(ok:Q5 L){i:Int}(h0:0<=i)(h1:i<16):∃dv,Zf Tryz.prog 95 oc (i.toNat*3)=some (.agg [.int .u8 (L.ob i).kind,.int .i64 (L.ob i).links,dv])/\Qx dv (L.ob i).data:=by obtain⟨dv,g1,_,g2,g3,g4⟩:=h.at_ ok h0 h1;have hl:oc.length=16*3:=h.o.1;refine⟨dv,?_,g4⟩;rw[rd95,if_pos (by omega)];rw[Ze3 (by omega)] at g1 g2 g3;rw[Zho (by omega),Zho (by omega),Zho (by omega)];simp only[Zhb,Zhg];rw[Option.some.inj g1,Option.some.inj g2,Option.some.inj g3]
set_option maxHeartbeats 4000000 in
theorem Quo(id:Int)(ky:Int)(nv ov:V)(oc:List V)(ns:List (Qq×Int))(L:Qe)(h:LnR nv ov oc ns L)(ok:Q5 L)(c:Zc)(dv:V)(hc:Ye c dv)(hk:c.kind=17)(obj:Int)(h0:0<=obj)(h1:obj<16):
 Fz Tryz.prog Qv 24 [.agg (Qk id L.snap L.owner L.prev ky nv ov),.agg (Qf c dv),.int .i64 obj] fun r=>Y4 r (Bs L c obj):=by
 refine Jx Tryz.func24 rfl ?_;have s1:=Qz h.n;have s2:=Qz h.o;have s3:=Qz hc.data;have p1:=Ql.pure h.n;have p2:=Ql.pure h.o;have p3:=Ql.pure hc.data;obtain⟨kind,a,b,cc,name,as_,text,data⟩:=c;simp only at hk;subst hk;obtain⟨ob,ra,hb⟩:=h.ra ok h0 h1;have s4:=Qz hb;have ll:=hb.len Tryz.underlying24;have tx:=fun g=>Qh9 (g:=g) hb;have at1:=h.o.at (k:= .i64) Tryz.underlying79 Qhk (by decide) (i:=obj) (by omega) (by omega);by_cases h3:(L.ob obj).kind=3
 . have e1:((L.ob obj).kind==3)=true:=by simp[h3]
   simp only[wA,↓Qc,simprocAttr,Tryz.ntmps24,Qk,Qf,s1,s2,s3,s4,p1,p2,p3,V.pure,Zgp,at1,ra,ll,e1,Qdm,tx,ta,wH,wB];refine W.done (Zg.ret (v:= .agg [.int .i64 0,.int .i64 0,.nS,.nS,.int .i64 obj,.int .u8 (L.ob obj).kind,.int .i64 (L.ob obj).links,.int .i64 (L.ob obj).data.length,.str (L.ob obj).data,.nS]) rfl rfl ?_);refine⟨.nS,.nS,.nS,?_,Qx.nil,Ql.nil,Y0.nil⟩;simp[Bs,h3,Zl]
 . have e1:((L.ob obj).kind==3)=false:=by simp[h3]
   simp only[wA,↓Qc,simprocAttr,Tryz.ntmps24,Qk,Qf,s1,s2,s3,s4,p1,p2,p3,V.pure,Zgp,at1,ra,ll,e1,ta,wH,wB];refine W.done (Zg.ret (v:= .agg [.int .i64 0,.int .i64 0,.nS,.nS,.int .i64 obj,.int .u8 (L.ob obj).kind,.int .i64 (L.ob obj).links,.int .i64 (L.ob obj).data.length,.str [],.nS]) rfl rfl ?_);refine⟨.nS,.nS,.nS,?_,Qx.nil,Ql.nil,Y0.nil⟩;simp[Bs,h3,Zl]
theorem Q1g(D:Qq)(CC k BB:Nat)(h1:k<=BB)(h2:k=BB\/D.length<=CC+k):(D.drop CC).take k=(D.drop CC).take BB:=by
 rcases h2 with rfl|h2
 . rfl
 . rw[Zhi (by rw[Zga];omega),Zhi (by rw[Zga];omega)]
set_option maxHeartbeats 4000000 in
theorem Quh(id:Int)(ky:Int)(nv ov:V)(oc:List V)(ns:List (Qq×Int))(L:Qe)(h:LnR nv ov oc ns L)(ok:Q5 L)(c:Zc)(dv:V)(hc:Ye c dv)(hk:c.kind=14)(hb0:inR c.b=true)(hc0:inR c.c=true)(obj:Int)(h0:0<=obj)(h1:obj<16):
 Fz Tryz.prog Qv 24 [.agg (Qk id L.snap L.owner L.prev ky nv ov),.agg (Qf c dv),.int .i64 obj] fun r=>Y4 r (Bs L c obj):=by
 refine Jx Tryz.func24 rfl ?_;have s1:=Qz h.n;have s2:=Qz h.o;have s3:=Qz hc.data;have p1:=Ql.pure h.n;have p2:=Ql.pure h.o;have p3:=Ql.pure hc.data;obtain⟨kind,a,b,cc,name,as_,text,data⟩:=c;simp only at hk hb0 hc0;subst hk;have hb1:0<=b/\b<=3840:=by simpa [inR] using hb0
 have hc1:0<=cc/\cc<=3840:=by simpa [inR] using hc0
 obtain⟨BB,rfl⟩:=Int.eq_ofNat_of_zero_le hb1.1;obtain⟨CC,rfl⟩:=Int.eq_ofNat_of_zero_le hc1.1;obtain⟨ob,ra,hb⟩:=h.ra ok h0 h1;have s4:=Qz hb;have ll:=hb.len Tryz.underlying24;have hdl:=ok.dat obj;have u:=Tryz.underlying24;have m84:Qv.mt 24 84=false:=rfl;have at1:=h.o.at (k:= .i64) Tryz.underlying79 Qhk (by decide) (i:=obj) (by omega) (by omega);have lk:Bs L ⟨14,a,BB,CC,name,as_,text,data⟩ obj={Zl 0 with data:=((L.ob obj).data.drop CC).take BB}:=rfl;generalize(L.ob obj).data=D at*;simp only[wA,↓Qc,simprocAttr,Tryz.ntmps24,Qk,Qf,s1,s2,s3,s4,p1,p2,p3,V.pure,Zgp,at1,ra,ll,ta,wH,wB];refine W.ul ?_;refine W.loopS (kt:=[4,6,9,11,12]) rfl (fun k:Nat=>Qy4 (.iptr [.int .u8 14,.int .i64 a,.int .i64 BB,.int .i64 CC,.str name,.str as_,.str text,dv] 0) (.ptr 0 6 0) (.ptr 0 9 0) (Ji 85 (Qp ((D.drop CC).take k)) k 1) (.int .i64 ((CC+k:Nat):Int))) (fun k=>[(6,.cells Ze)::(9,.cells [.int .u8 (L.ob obj).kind,.int .i64 (L.ob obj).links,ob])::Kb 85 k])
  (fun k=>k<=BB/\(k=0\/CC+k<=D.length)) (fun k=>BB-k) ?_ 0 ⟨by omega,.inl rfl⟩ rfl rfl
 rintro k ⟨hk1,hk2⟩;simp only[Qy4];have w1:(IntKind.i64).wrap ((CC:Int)+(BB:Int))=((CC+BB:Nat):Int):=by rw[wrap_i64]<;>omega
 have wi:(IntKind.i64).wrap (((CC+k:Nat):Int)+1)=((CC+(k+1):Nat):Int):=by rw[wrap_i64]<;>omega
 have key:(k<BB/\CC+k<D.length)\/¬(k<BB/\CC+k<D.length):=Classical.em _;rcases key with⟨q1,q2⟩|q
 . have c1:decide (((CC+k:Nat):Int)<((CC+BB:Nat):Int))=true:=Zig (by omega);have c2:decide (((CC+k:Nat):Int)<(D.length:Int))=true:=Zig (by omega);have at2:=hb.at (k:= .i64) Tryz.underlying24 sz5 (by decide) (i:=((CC+k:Nat):Int)) (by omega) (by omega);have get1:(Qp D)[((CC+k:Nat):Int).toNat]?=some (.int .u8 D[CC+k].toNat):=by
    have hx:((CC+k:Nat):Int).toNat=CC+k:=rfl;rw[hx];unfold Qp;rw[Zhx,Ze3 q2];rfl
   have get2:(Qp D)[((CC+k:Nat):Int).toNat*1]?=some (.int .u8 D[CC+k].toNat):=by rw[Zgd];exact get1
   have ht:Qp ((D.drop CC).take (k+1))=Qp ((D.drop CC).take k)++[.int .u8 D[CC+k].toNat]:=by rw[Zg6,Zhv,Ze3 q2];simp[Qp]
   by_cases hn:k=0
   . have ap:=Qmd (f:=24) (d:=85) (g:=Qd [[(6,.cells Ze),(9,.cells [.int .u8 (L.ob obj).kind,.int .i64 (L.ob obj).links,ob])]]) (cs:=[.int .u8 D[CC+k].toNat]) u sz5 Qe5 zc5 rfl (by decide) rfl rfl rfl rfl rfl;have og:Ji 85 (Qp ((D.drop CC).take k)) k 1= .nS:=by rw[hn];rfl
     have oh:Kb 85 k=[]:=by rw[hn];rfl
     have e0:Qp ((D.drop CC).take (k+1))=[.int .u8 D[CC+k].toNat]:=by rw[ht,show Qp ((D.drop CC).take k)=[] by rw[hn];rfl];rfl
     have e1:Ji 85 (Qp ((D.drop CC).take (k+1))) (k+1) 1= .gS 0 85 [.int .u8 D[CC+k].toNat] 1 1:=by rw[e0];unfold Ji;simp[hn]
     have e2:Kb 85 (k+1)=[(85,.grow 1)]:=by unfold Kb;simp[hn]
     rw[og,oh];simp only[wA,↓Qc,simprocAttr,c1,c2,w1,at2,get1,get2,ll,s1,s2,s4,Qu,u,m84,V.pure,Zgp,ta,wH,wB,↓ap,wi];exact W.done ⟨k+1,by simp only[e1];rfl,by simp only[e2],⟨by omega,.inr (by omega)⟩,by omega⟩
   . have ap:=Qrg (f:=24) (d:=85) (k:=85) (m:=k) (c0:=Qp ((D.drop CC).take k)) (g:=Qd [[(6,.cells Ze),(9,.cells [.int .u8 (L.ob obj).kind,.int .i64 (L.ob obj).links,ob]),(85,.grow k)]]) (cs:=[.int .u8 D[CC+k].toNat]) u sz5 Qe5 zc5 rfl (by decide) rfl rfl (by omega) rfl;have og:Ji 85 (Qp ((D.drop CC).take k)) k 1= .gS 0 85 (Qp ((D.drop CC).take k)) k 1:=if_neg hn;have oh:Kb 85 k=[(85,.grow k)]:=if_neg hn;rw[og,oh];simp only[wA,↓Qc,simprocAttr,c1,c2,w1,at2,get1,get2,ll,s1,s2,s4,Qu,u,m84,V.pure,Zgp,ta,wH,wB,↓ap,wi];exact W.done ⟨k+1,by rw[ht];rfl,rfl,⟨by omega,.inr (by omega)⟩,by omega⟩
 . have hp:=Q1g D CC k BB hk1 (by omega);have hln:k=((D.drop CC).take k).length:=by
    rw[Zf9,Zga];omega
   have sc:(Ji 85 (Qp ((D.drop CC).take k)) k 1).scalar=true:=by unfold Ji;split<;>rfl
   have cl:(Ji 85 (Qp ((D.drop CC).take k)) k 1).cells=some [Ji 85 (Qp ((D.drop CC).take k)) k 1]:=by unfold Ji;split<;>rfl
   obtain⟨r,f1,f2⟩:=Qw4 (k:=85) ((D.drop CC).take k) (n:=k) hln;rw[hp] at f2;have fin:∀ov2,(∀g m,frz g (m+2) ov2=some r)->Y4 (.agg [.int .i64 0,.int .i64 0,r,.nS,.int .i64 0,.int .u8 0,.int .i64 0,.int .i64 0,.str [],.nS]) (Bs L ⟨14,a,BB,CC,name,as_,text,data⟩ obj):=fun _ _=>by rw[lk];exact⟨r,.nS,.nS,rfl,f2,Ql.nil,Y0.nil⟩
   generalize Ji 85 (Qp ((D.drop CC).take k)) k 1=ov2 at*;by_cases q1:k<BB
   . have c1:decide (((CC+k:Nat):Int)<((CC+BB:Nat):Int))=true:=Zig (by omega);have c2:decide (((CC+k:Nat):Int)<(D.length:Int))=false:=Zih (by omega);simp only[wA,↓Qc,simprocAttr,c1,c2,w1,ll,s4,ta,wH,wB];refine W.done ?_;simp only[wA,↓Qc,simprocAttr,sc,cl,Ze,ta,wH,wB];refine W.done (Zg.ret (v:= .agg [.int .i64 0,.int .i64 0,ov2,.nS,.int .i64 0,.int .u8 0,.int .i64 0,.int .i64 0,.str [],.nS]) (v' := .agg [.int .i64 0,.int .i64 0,r,.nS,.int .i64 0,.int .u8 0,.int .i64 0,.int .i64 0,.str [],.nS]) rfl ?_ (fin ov2 f1));show(frzL (frz _ 11) _).map V.agg=_;simp only[frzL,f1 _ 9];rfl
   . have c1:decide (((CC+k:Nat):Int)<((CC+BB:Nat):Int))=false:=Zih (by omega);simp only[wA,↓Qc,simprocAttr,c1,w1,ll,s4,ta,wH,wB];refine W.done ?_;simp only[wA,↓Qc,simprocAttr,sc,cl,Ze,ta,wH,wB];refine W.done (Zg.ret (v:= .agg [.int .i64 0,.int .i64 0,ov2,.nS,.int .i64 0,.int .u8 0,.int .i64 0,.int .i64 0,.str [],.nS]) (v' := .agg [.int .i64 0,.int .i64 0,r,.nS,.int .i64 0,.int .u8 0,.int .i64 0,.int .i64 0,.str [],.nS]) rfl ?_ (fin ov2 f1));show(frzL (frz _ 11) _).map V.agg=_;simp only[frzL,f1 _ 9];rfl
end Go.Proofs.YtmapmgfiamfocaaGreat
namespace Go.Proofs.YtmapmgfiamfocaaGreat
open Go.AM Go.Mod
attribute [local irreducible] U W
theorem Qh5{T E:TypeId}{n by_ fr d:Nat}{z:List V}{f:Nat}{v:V}{cells:List V}{m:Nat}(hu:Tryz.prog.underlying T=some (.slice E))(hs:sz Tryz.prog E=some n)(hb:byt Tryz.prog E=some by_)(hz:zeroCells Tryz.prog E=some z)(hzl:z.length=n)(hby:by_<=1000)
 (hv:Ql n v cells m)(hp:Zt cells=true)(hm:m<=1000000)(h1:Qv.mt f d=false)(h2:Qv.mt f (Qi9 d)=false)(h3:Qv.mt f (Qlv d)=true):
 ∃v',Ql n v' cells m/\∀g,Yi Tryz.prog (Qv.mt f) fr g (some d) T T .nS v=some (.val v' none):=by
 by_cases h0:m=0
 . subst h0;have hc:cells=[]:=Zf7 (by have:=hv.1;omega);refine⟨.nS,by rw[hc];exact Ql.nil,fun g=>?_⟩;exact Qd4 hu hs hb hz hzl hu rfl (Ql.sc hv)
 . refine⟨.iS cells m false,Ql.mk hv.1,fun g=>?_⟩;rw[Qaj hu hs hb hz hzl hu (Ql.sc hv) (by omega) (Jb (Ze9 (Nat.mul_le_mul hm hby) (by decide)) (by omega))];exact Q45 h1 h2 h3 hp
theorem Qey:byt Tryz.prog 95=some 40:=by kernel_rfl
theorem Xy.frzL:∀{os:List Bw} {cs:List V},Xy cs os->∀(g:Get) (m:Nat),AM.frzL (frz g (m+1)) cs=some cs
 |[],cs,h,g,m=>by
  have:cs=[]:=h;subst this;rfl
 |o::os,cs,h,g,m=>by
  obtain⟨dv,d,rfl,h1,h2⟩:=h;have h3:=h2.frzL g m;have h4:=h1.frz (g:=g) m;simp only[AM.frzL,h3,h4];rfl
theorem Xy.len:∀{os:List Bw} {cs:List V},Xy cs os->cs.length=os.length*3
 |[],cs,h=>by
  have:cs=[]:=h;subst this;rfl
 |o::os,cs,h=>by
  obtain⟨dv,d,rfl,h1,h2⟩:=h;have:=h2.len;simp only[Zgz];omega
theorem Xy.add{o:Bw}{dv:V}(hd:Qx dv o.data):∀{os:List Bw} {cs:List V},Xy cs os->Xy (cs++[.int .u8 o.kind,.int .i64 o.links,dv]) (os++[o])
 |[],cs,h=>by
  have:cs=[]:=h;subst this;exact⟨dv,[],rfl,hd,rfl⟩
 |x::os,cs,h=>by
  obtain⟨dv',d,rfl,h1,h2⟩:=h;exact⟨dv',d++[.int .u8 o.kind,.int .i64 o.links,dv],rfl,h1,Xy.add hd h2⟩
theorem Xy.noRefs{p:Nat->Nat->Bool}:∀{os:List Bw} {cs:List V},Xy cs os->Zv p cs=false
 |[],cs,h=>by
  have:cs=[]:=h;subst this;rfl
 |o::os,cs,h=>by
  obtain⟨dv,d,rfl,h1,h2⟩:=h;have:=h2.noRefs (p:=p);simp only[Zv,V.refs,Ql.noRefs h1 p,this,Zhq]
theorem Qj{f s n e:Nat}:(V.mg f s n e).cells=some [.mg f s n e]:=rfl
def zLn:List V:=[.int .i64 0,.bool false,.int .i64 0,.int .i64 0,.int .i64 0,.nS,.nS]
def twH0(line:List V)(cs:List V)(i:Nat):Qg:=[[(2,.cells line),(3,.cells line),(37,.mgrow cs i)]]
set_option maxHeartbeats 4000000 in
theorem Q3q(id:Int)(ky:Int)(nv ov:V)(oc:List V)(ns:List (Qq×Int))(L:Qe)(h:LnR nv ov oc ns L)(ok:Q5 L):
 CW Tryz.prog Qv 50 [.agg (Qk id L.snap L.owner L.prev ky nv ov)] [] fun r H' =>∃nv' oc',r= .ret (.agg (Qk id L.snap L.owner L.prev ky nv' (.mg 0 37 16 3)))/\Qdh nv' ns/\Xy oc' L.objs/\H' =twH0 (Qk id L.snap L.owner L.prev ky nv' (.mg 0 37 16 3)) oc' 16:=by
 refine Qol Tryz.func50 rfl ?_;have s1:=Qz h.n;have s2:=Qz h.o;have p1:=Ql.pure h.n;have p2:=Ql.pure h.o;have hlen:=h.len ok;have lo:=h.o.len Tryz.underlying79;have u:=Tryz.underlying79;have m36:Qv.mt 50 36=false:=rfl;obtain⟨nv',hnv,apn⟩:=Qh5 (fr:=0) (d:=13) (f:=50) Tryz.underlying78 Qqx Qkj zc98 rfl (by decide) h.n (Qlh ns) (by omega) rfl rfl rfl;have s3:=Qz hnv;have q3:=Ql.cells hnv;show W (U _ _ _ _ _ 0 _ _ _ [[]]) _;simp only[wA,↓Qc,simprocAttr,Tryz.ntmps50,Qk,s1,s2,s3,q3,p1,p2,V.pure,Zgp,Qu,↓apn,ta,wH,wB];refine W.ul ?_;refine W.loop (fun(i:Nat) t H1=>∃cs ex,Bq [1,2,3,4] t 0=Qdk (.iptr [.int .i64 id,.bool L.snap,.int .i64 L.owner,.int .i64 L.prev,.int .i64 ky,nv,ov] 0) (.ptr 0 2 0) (.ptr 0 3 0) (.int .i64 i)/\i<=16/\Xy cs (L.objs.take i)/\
  H1=(if i=0 then[[(2,.cells zLn),(3,.cells [.int .i64 id,.bool L.snap,.int .i64 L.owner,.int .i64 L.prev,.int .i64 ky,nv',.nS])]] else[[(2,.cells zLn),(3,.cells [.int .i64 id,.bool L.snap,.int .i64 L.owner,.int .i64 L.prev,.int .i64 ky,nv',.mg 0 37 i 3]),(5,.cells ex),(37,.mgrow cs i)]])) (fun i=>16-i) ?_ 0 ⟨[],[],rfl,by omega,rfl,rfl⟩ rfl
 rintro i t H1 ⟨cs,ex,ht,hi,hcs,rfl⟩;have hnr:=Ql.noRefs hnv;have key:i<16\/¬i<16:=Classical.em _;have lO:L.objs.length=16:=ok.n16;have hcl:=hcs.len;rw[Zf9,lO,Zgb hi] at hcl;have wi:(IntKind.i64).wrap ((i:Int)+1)=((i+1:Nat):Int):=by rw[wrap_i64]<;>omega
 by_cases hi0:i=0
 . rw[if_pos hi0];have c1:decide ((i:Int)<16)=true:=Zig (by omega);have i1:i+1=1:=by omega
   refine⟨_,[[(2,.cells zLn),(3,.cells [.int .i64 id,.bool L.snap,.int .i64 L.owner,.int .i64 L.prev,.int .i64 ky,nv',.nS])]],(Qau (kt:=[1,2,3,4]) (ds:=[5]) rfl (by rw[ht];simp[Qdk,Zv,V.refs]) (by simp[Jj,Xq,Jt,O.refs,Zv,V.refs,hnr,zLn])).trans (by rw[ht];rfl),?_⟩;obtain⟨dv,ra,hd⟩:=h.ra ok (i:=(i:Int)) (by omega) (by omega);have sd:=Qz hd;have at1:=h.o.at (k:= .i64) u Qhk (by decide) (i:=(i:Int)) (by omega) (by omega);obtain⟨dv',hd',apd⟩:=Qh5 (fr:=0) (d:=31) (f:=50) Tryz.underlying24 sz5 Qe5 zc5 rfl (by decide) hd (X6 _) (by have:=ok.dat i;omega) rfl rfl rfl;have sd' :=Qz hd';have qd' :=Ql.cells hd';have pd' :=Ql.pure hd';have ap:=Qaj (P:=Tryz.prog) (mt:=Qv.mt 50) (fr:=0) (dst:=some 37) (m:=1) (cs:=[.int .u8 (L.ob i).kind,.int .i64 (L.ob i).links,dv']) (x:= .iS [.int .u8 (L.ob i).kind,.int .i64 (L.ob i).links,dv'] 1 true) (g:=Qd [[(2,.cells zLn),(3,.cells [.int .i64 id,.bool L.snap,.int .i64 L.owner,.int .i64 L.prev,.int .i64 ky,nv',.nS]),(5,.cells [.int .u8 (L.ob i).kind,.int .i64 (L.ob i).links,dv'])]]) u Qhk Qey zc95 rfl u rfl (by decide) (Jb (by decide) (by decide));rw[Qde (mt:=Qv.mt 50) (fr:=0) (d:=37) rfl rfl (by simp only[Zht,List.all_nil,sd'];rfl) rfl rfl] at ap;have eo:L.objs.take (i+1)=L.objs.take i++[L.ob i]:=by have:=ok.at_ (i:=(i:Int)) (by omega) (by omega);rw[Zg6,show L.objs[i]?=some (L.ob i) from this];rfl
   simp only[zLn] at ap;simp only[wA,↓Qc,simprocAttr,Qdk,zLn,c1,at1,ra,lo,s1,s2,s3,sd,sd',pd',qd',u,m36,V.pure,Zgp,Qu,↓apd,↓ap,Qj,Qy,ta,wH,wB,wi];refine W.done ⟨i+1,⟨[.int .u8 (L.ob i).kind,.int .i64 (L.ob i).links,dv'],[.int .u8 (L.ob i).kind,.int .i64 (L.ob i).links,dv'],rfl,by omega,?_,?_⟩,by omega⟩
   . have hc0:cs=[]:=Zf7 (by omega);have:=Xy.add (o:=L.ob i) hd' hcs;rw[hc0] at this;rw[eo];exact this
   . rw[if_neg (by omega),i1]
 . rw[if_neg hi0];have i1:i+1≠0:=by omega
   refine⟨_,[[(2,.cells zLn),(3,.cells [.int .i64 id,.bool L.snap,.int .i64 L.owner,.int .i64 L.prev,.int .i64 ky,nv',.mg 0 37 i 3]),(37,.mgrow cs i)]],(Qau (kt:=[1,2,3,4]) (ds:=[5]) rfl (by rw[ht];simp[Qdk,Zv,V.refs]) (by simp[Jj,Xq,Jt,O.refs,Zv,V.refs,hnr,zLn,Xy.noRefs hcs])).trans (by rw[ht];rfl),?_⟩;rcases key with h0|h0
   . have c1:decide ((i:Int)<16)=true:=Zig (by omega);obtain⟨dv,ra,hd⟩:=h.ra ok (i:=(i:Int)) (by omega) (by omega);have sd:=Qz hd;have at1:=h.o.at (k:= .i64) u Qhk (by decide) (i:=(i:Int)) (by omega) (by omega);obtain⟨dv',hd',apd⟩:=Qh5 (fr:=0) (d:=31) (f:=50) Tryz.underlying24 sz5 Qe5 zc5 rfl (by decide) hd (X6 _) (by have:=ok.dat i;omega) rfl rfl rfl;have sd' :=Qz hd';have qd' :=Ql.cells hd';have pd' :=Ql.pure hd';have ap:=Qjt (P:=Tryz.prog) (mt:=Qv.mt 50) (fr:=0) (dst:=some 37) (f:=0) (s:=37) (k:=i) (c0:=cs) (m:=1) (cs:=[.int .u8 (L.ob i).kind,.int .i64 (L.ob i).links,dv']) (x:= .iS [.int .u8 (L.ob i).kind,.int .i64 (L.ob i).links,dv'] 1 true) (g:=Qd [[(2,.cells zLn),(3,.cells [.int .i64 id,.bool L.snap,.int .i64 L.owner,.int .i64 L.prev,.int .i64 ky,nv',.mg 0 37 i 3]),(5,.cells [.int .u8 (L.ob i).kind,.int .i64 (L.ob i).links,dv']),(37,.mgrow cs i)]]) u Qhk Qey zc95 rfl u rfl (by decide) (Jb (by omega) (by omega)) (by simp only[Zht,List.all_nil,sd'];rfl) rfl rfl hcl;have eo:L.objs.take (i+1)=L.objs.take i++[L.ob i]:=by
      have:=ok.at_ (i:=(i:Int)) (by omega) (by omega);rw[Zg6,show L.objs[i]?=some (L.ob i) from this];rfl
     simp only[zLn] at ap;simp only[wA,↓Qc,simprocAttr,Qdk,zLn,c1,at1,ra,lo,s1,s2,s3,sd,sd',pd',qd',u,m36,V.pure,Zgp,Qu,↓apd,↓ap,Qj,Qy,ta,wH,wB,wi];refine W.done ⟨i+1,⟨cs++[.int .u8 (L.ob i).kind,.int .i64 (L.ob i).links,dv'],[.int .u8 (L.ob i).kind,.int .i64 (L.ob i).links,dv'],rfl,by omega,by rw[eo];exact Xy.add hd' hcs,by rw[if_neg i1]⟩,by omega⟩
   . have e:i=16:=by omega
     subst e;rw[Zhi (by omega)] at hcs;have c1:decide (((16:Nat):Int)<16)=false:=rfl;simp only[wA,↓Qc,simprocAttr,Qdk,zLn,c1,lo,s1,s2,s3,Qj,Qy,ta,wH,wB];refine W.done ?_;simp only[wA,↓Qc,simprocAttr,zLn,s1,s2,s3,Qj,Qy,ta,wH,wB];refine W.done (End.ret (v:= .agg (Qk id L.snap L.owner L.prev ky nv' (.mg 0 37 16 3))) rfl ?_);rw[Ym (by simp[Qk,V.refs,Zv])];exact⟨nv',cs,rfl,hnv,hcs,rfl⟩
def twH1(F0:AM.Frame)(line:List V)(cs:List V)(i:Nat):Qg:=[F0,[(2,.cells line),(3,.cells line),(37,.mgrow cs i)]]
set_option maxHeartbeats 4000000 in
theorem Q4c(F0:AM.Frame)(hF0:∀p,Jt p F0=true)(id:Int)(ky:Int)(nv ov:V)(oc:List V)(ns:List (Qq×Int))(L:Qe)(h:LnR nv ov oc ns L)(ok:Q5 L):
 CW Tryz.prog Qv 50 [.agg (Qk id L.snap L.owner L.prev ky nv ov)] [F0] fun r H' =>∃nv' oc',r= .ret (.agg (Qk id L.snap L.owner L.prev ky nv' (.mg 1 37 16 3)))/\Qdh nv' ns/\Xy oc' L.objs/\H' =twH1 F0 (Qk id L.snap L.owner L.prev ky nv' (.mg 1 37 16 3)) oc' 16:=by
 refine Qol Tryz.func50 rfl ?_;have s1:=Qz h.n;have s2:=Qz h.o;have p1:=Ql.pure h.n;have p2:=Ql.pure h.o;have hlen:=h.len ok;have lo:=h.o.len Tryz.underlying79;have u:=Tryz.underlying79;have m36:Qv.mt 50 36=false:=rfl;obtain⟨nv',hnv,apn⟩:=Qh5 (fr:=1) (d:=13) (f:=50) Tryz.underlying78 Qqx Qkj zc98 rfl (by decide) h.n (Qlh ns) (by omega) rfl rfl rfl;have s3:=Qz hnv;have q3:=Ql.cells hnv;show W (U _ _ _ _ _ 1 _ _ _ [F0,[]]) _;simp only[wA,↓Qc,simprocAttr,Tryz.ntmps50,Qk,s1,s2,s3,q3,p1,p2,V.pure,Zgp,Qu,↓apn,ta,wH,wB];refine W.ul ?_;refine W.loop (fun(i:Nat) t H1=>∃cs ex,Bq [1,2,3,4] t 0=Qdk (.iptr [.int .i64 id,.bool L.snap,.int .i64 L.owner,.int .i64 L.prev,.int .i64 ky,nv,ov] 0) (.ptr 1 2 0) (.ptr 1 3 0) (.int .i64 i)/\i<=16/\Xy cs (L.objs.take i)/\
  H1=(if i=0 then[F0,[(2,.cells zLn),(3,.cells [.int .i64 id,.bool L.snap,.int .i64 L.owner,.int .i64 L.prev,.int .i64 ky,nv',.nS])]] else[F0,[(2,.cells zLn),(3,.cells [.int .i64 id,.bool L.snap,.int .i64 L.owner,.int .i64 L.prev,.int .i64 ky,nv',.mg 1 37 i 3]),(5,.cells ex),(37,.mgrow cs i)]])) (fun i=>16-i) ?_ 0 ⟨[],[],rfl,by omega,rfl,rfl⟩ rfl
 rintro i t H1 ⟨cs,ex,ht,hi,hcs,rfl⟩;have hnr:=Ql.noRefs hnv;have key:i<16\/¬i<16:=Classical.em _;have lO:L.objs.length=16:=ok.n16;have hcl:=hcs.len;rw[Zf9,lO,Zgb hi] at hcl;have wi:(IntKind.i64).wrap ((i:Int)+1)=((i+1:Nat):Int):=by rw[wrap_i64]<;>omega
 by_cases hi0:i=0
 . rw[if_pos hi0];have c1:decide ((i:Int)<16)=true:=Zig (by omega);have i1:i+1=1:=by omega
   refine⟨_,[F0,[(2,.cells zLn),(3,.cells [.int .i64 id,.bool L.snap,.int .i64 L.owner,.int .i64 L.prev,.int .i64 ky,nv',.nS])]],(Qau (kt:=[1,2,3,4]) (ds:=[5]) rfl (by rw[ht];simp[Qdk,Zv,V.refs]) (by simp[Jj,hF0,Xq,Jt,O.refs,Zv,V.refs,hnr,zLn])).trans (by rw[ht];rfl),?_⟩;obtain⟨dv,ra,hd⟩:=h.ra ok (i:=(i:Int)) (by omega) (by omega);have sd:=Qz hd;have at1:=h.o.at (k:= .i64) u Qhk (by decide) (i:=(i:Int)) (by omega) (by omega);obtain⟨dv',hd',apd⟩:=Qh5 (fr:=1) (d:=31) (f:=50) Tryz.underlying24 sz5 Qe5 zc5 rfl (by decide) hd (X6 _) (by have:=ok.dat i;omega) rfl rfl rfl;have sd' :=Qz hd';have qd' :=Ql.cells hd';have pd' :=Ql.pure hd';have ap:=Qaj (P:=Tryz.prog) (mt:=Qv.mt 50) (fr:=1) (dst:=some 37) (m:=1) (cs:=[.int .u8 (L.ob i).kind,.int .i64 (L.ob i).links,dv']) (x:= .iS [.int .u8 (L.ob i).kind,.int .i64 (L.ob i).links,dv'] 1 true) (g:=Qd [F0,[(2,.cells zLn),(3,.cells [.int .i64 id,.bool L.snap,.int .i64 L.owner,.int .i64 L.prev,.int .i64 ky,nv',.nS]),(5,.cells [.int .u8 (L.ob i).kind,.int .i64 (L.ob i).links,dv'])]]) u Qhk Qey zc95 rfl u rfl (by decide) (Jb (by decide) (by decide));rw[Qde (mt:=Qv.mt 50) (fr:=1) (d:=37) rfl rfl (by simp only[Zht,List.all_nil,sd'];rfl) rfl rfl] at ap;have eo:L.objs.take (i+1)=L.objs.take i++[L.ob i]:=by have:=ok.at_ (i:=(i:Int)) (by omega) (by omega);rw[Zg6,show L.objs[i]?=some (L.ob i) from this];rfl
   simp only[zLn] at ap;simp only[wA,↓Qc,simprocAttr,Qdk,zLn,c1,at1,ra,lo,s1,s2,s3,sd,sd',pd',qd',u,m36,V.pure,Zgp,Qu,↓apd,↓ap,Qj,Qy,ta,wH,wB,wi];refine W.done ⟨i+1,⟨[.int .u8 (L.ob i).kind,.int .i64 (L.ob i).links,dv'],[.int .u8 (L.ob i).kind,.int .i64 (L.ob i).links,dv'],rfl,by omega,?_,?_⟩,by omega⟩
   . have hc0:cs=[]:=Zf7 (by omega);have:=Xy.add (o:=L.ob i) hd' hcs;rw[hc0] at this;rw[eo];exact this
   . rw[if_neg (by omega),i1]
 . rw[if_neg hi0];have i1:i+1≠0:=by omega
   refine⟨_,[F0,[(2,.cells zLn),(3,.cells [.int .i64 id,.bool L.snap,.int .i64 L.owner,.int .i64 L.prev,.int .i64 ky,nv',.mg 1 37 i 3]),(37,.mgrow cs i)]],(Qau (kt:=[1,2,3,4]) (ds:=[5]) rfl (by rw[ht];simp[Qdk,Zv,V.refs]) (by simp[Jj,hF0,Xq,Jt,O.refs,Zv,V.refs,hnr,zLn,Xy.noRefs hcs])).trans (by rw[ht];rfl),?_⟩;rcases key with h0|h0
   . have c1:decide ((i:Int)<16)=true:=Zig (by omega);obtain⟨dv,ra,hd⟩:=h.ra ok (i:=(i:Int)) (by omega) (by omega);have sd:=Qz hd;have at1:=h.o.at (k:= .i64) u Qhk (by decide) (i:=(i:Int)) (by omega) (by omega);obtain⟨dv',hd',apd⟩:=Qh5 (fr:=1) (d:=31) (f:=50) Tryz.underlying24 sz5 Qe5 zc5 rfl (by decide) hd (X6 _) (by have:=ok.dat i;omega) rfl rfl rfl;have sd' :=Qz hd';have qd' :=Ql.cells hd';have pd' :=Ql.pure hd';have ap:=Qjt (P:=Tryz.prog) (mt:=Qv.mt 50) (fr:=1) (dst:=some 37) (f:=1) (s:=37) (k:=i) (c0:=cs) (m:=1) (cs:=[.int .u8 (L.ob i).kind,.int .i64 (L.ob i).links,dv']) (x:= .iS [.int .u8 (L.ob i).kind,.int .i64 (L.ob i).links,dv'] 1 true) (g:=Qd [F0,[(2,.cells zLn),(3,.cells [.int .i64 id,.bool L.snap,.int .i64 L.owner,.int .i64 L.prev,.int .i64 ky,nv',.mg 1 37 i 3]),(5,.cells [.int .u8 (L.ob i).kind,.int .i64 (L.ob i).links,dv']),(37,.mgrow cs i)]]) u Qhk Qey zc95 rfl u rfl (by decide) (Jb (by omega) (by omega)) (by simp only[Zht,List.all_nil,sd'];rfl) rfl rfl hcl;have eo:L.objs.take (i+1)=L.objs.take i++[L.ob i]:=by
      have:=ok.at_ (i:=(i:Int)) (by omega) (by omega);rw[Zg6,show L.objs[i]?=some (L.ob i) from this];rfl
     simp only[zLn] at ap;simp only[wA,↓Qc,simprocAttr,Qdk,zLn,c1,at1,ra,lo,s1,s2,s3,sd,sd',pd',qd',u,m36,V.pure,Zgp,Qu,↓apd,↓ap,Qj,Qy,ta,wH,wB,wi];refine W.done ⟨i+1,⟨cs++[.int .u8 (L.ob i).kind,.int .i64 (L.ob i).links,dv'],[.int .u8 (L.ob i).kind,.int .i64 (L.ob i).links,dv'],rfl,by omega,by rw[eo];exact Xy.add hd' hcs,by rw[if_neg i1]⟩,by omega⟩
   . have e:i=16:=by omega
     subst e;rw[Zhi (by omega)] at hcs;have c1:decide (((16:Nat):Int)<16)=false:=rfl;simp only[wA,↓Qc,simprocAttr,Qdk,zLn,c1,lo,s1,s2,s3,Qj,Qy,ta,wH,wB];refine W.done ?_;simp only[wA,↓Qc,simprocAttr,zLn,s1,s2,s3,Qj,Qy,ta,wH,wB];refine W.done (End.ret (v:= .agg (Qk id L.snap L.owner L.prev ky nv' (.mg 1 37 16 3))) rfl ?_);rw[Ym (by simp[Qk,V.refs,Zv])];exact⟨nv',cs,rfl,hnv,hcs,rfl⟩
theorem Qem(id:Int)(ky:Int)(nv ov:V)(oc:List V)(ns:List (Qq×Int))(L:Qe)(h:LnR nv ov oc ns L)(ok:Q5 L):
 Fz Tryz.prog Qv 50 [.agg (Qk id L.snap L.owner L.prev ky nv ov)] fun r=>∃nv' ov' oc',r= .agg (Qk id L.snap L.owner L.prev ky nv' ov')/\LnR nv' ov' oc' ns L:=by
 refine Fz.of_cw ((Q3q id ky nv ov oc ns L h ok).mono ?_);rintro r H' ⟨nv',oc',rfl,h1,h2,rfl⟩;have hl:oc'.length=16*3:=by rw[h2.len,ok.n16]
 refine⟨_,rfl,.agg (Qk id L.snap L.owner L.prev ky nv' (.iS oc' 16 false)),?_,nv',_,oc',rfl,h1,Ql.mk hl,h2,h.p,h.r⟩;have f1:=h1.frz (g:=Qd (twH0 (Qk id L.snap L.owner L.prev ky nv' (.mg 0 37 16 3)) oc' 16)) 10;have f2:frz (Qd (twH0 (Qk id L.snap L.owner L.prev ky nv' (.mg 0 37 16 3)) oc' 16)) 11 (.mg 0 37 16 3)=some (.iS oc' 16 false):=by
  show(match Qd (twH0 (Qk id L.snap L.owner L.prev ky nv' (.mg 0 37 16 3)) oc' 16) 0 37 with
   |some (.mgrow xs k)=>if k=16/\xs.length=16*3 then(frzL (frz _ 10) xs).map fun cs=>V.iS cs 16 false else none
   |_=>none)=_
  rw[show Qd (twH0 (Qk id L.snap L.owner L.prev ky nv' (.mg 0 37 16 3)) oc' 16) 0 37=some (.mgrow oc' 16) from rfl];simp only[hl,and_self,if_true,h2.frzL,Ze4]
 show(frzL (frz _ 11) _).map V.agg=_;unfold Qk at f1 f2⊢;simp only[frzL,f1,f2];rfl
end Go.Proofs.YtmapmgfiamfocaaGreat
end
