/- This file holds in one the texts R11, R12, R13, R14; each says at its head what it proves. -/
import Derived.Test.YtmapmgfiamfocaaGreatT23
set_option linter.unusedSimpArgs false
set_option linter.unusedVariables false
namespace Go.Proofs.YtmapmgfiamfocaaGreat
section
set_option maxRecDepth 100000
open Go.AM Go.Mod
attribute [local irreducible] U W
def LnC(c:List V)(p:Int×Qe):Prop:=∃nv ov oc ns,c=Qk p.1 p.2.snap p.2.owner p.2.prev (p.2.key:Int) nv ov/\LnR nv ov oc ns p.2
def Zy:List V->List (Int×Qe)->Prop
 |cs,[]=>cs=[]
 |cs,p::l=>∃c d,cs=c++d/\LnC c p/\Zy d l
theorem LnC.len{c:List V}{p:Int×Qe}(h:LnC c p):c.length=7:=by obtain⟨nv,ov,oc,ns,rfl,_⟩:=h;rfl
theorem Zy.len:∀{l:List (Int×Qe)} {cs:List V},Zy cs l->cs.length=l.length*7
 |[],cs,h=>by
  have:cs=[]:=h;subst this;rfl
 |p::l,cs,h=>by
  obtain⟨c,d,rfl,h1,h2⟩:=h;have:=h2.len;have:=h1.len;simp only[Zfv,Zgz];omega
theorem Zy.at_:∀{l:List (Int×Qe)} {cs:List V} (i:Nat) (h:i<l.length),Zy cs l->LnC ((cs.drop (i*7)).take 7) l[i]
 |p::l,cs,0,_,h=>by
  obtain⟨c,d,rfl,h1,h2⟩:=h;have:=h1.len;rw[Nat.zero_mul,Zhm,Zh0 (by omega),Zhi (by omega)];exact h1
 |p::l,cs,i+1,hi,h=>by
  obtain⟨c,d,rfl,h1,h2⟩:=h;have:=h1.len;rw[show(i+1)*7=c.length+i*7 by omega,<-Zfs,Zh1];exact Zy.at_ i (by simpa using hi) h2
theorem Zy.add{c:List V}{p:Int×Qe}(hc:LnC c p):∀{l:List (Int×Qe)} {cs:List V},Zy cs l->Zy (cs++c) (l++[p])
 |[],cs,h=>by
  have:cs=[]:=h;subst this;exact⟨c,[],by simp,hc,rfl⟩
 |x::l,cs,h=>by
  obtain⟨c',d,rfl,h1,h2⟩:=h;exact⟨c',d++c,by simp,h1,Zy.add hc h2⟩
theorem Zy.put{c:List V}{p:Int×Qe}(hc:LnC c p):∀{l:List (Int×Qe)} {cs:List V} (i:Nat),i<l.length->Zy cs l->Zy (splice cs (i*7) c) (l.set i p)
 |x::l,cs,0,_,h=>by
  obtain⟨c',d,rfl,h1,h2⟩:=h;refine⟨c,d,?_,hc,h2⟩;have:=h1.len;have:=hc.len;simp only[splice,Nat.zero_mul,Zhg,Zhh,Zff];rw[show c.length=c'.length by omega,Zh1]
 |x::l,cs,i+1,hi,h=>by
  obtain⟨c',d,rfl,h1,h2⟩:=h;have h3:=Zy.put hc i (by simpa using hi) h2;refine⟨c',splice d (i*7) c,?_,h1,h3⟩;have:=h1.len;simp only[splice];rw[show(i+1)*7=c'.length+i*7 by omega,List.take_length_add_append,show c'.length+i*7+c.length=c'.length+(i*7+c.length) by omega,List.drop_length_add_append];simp
theorem LnC.scal{c:List V}{p:Int×Qe}(h:LnC c p):c.all V.scalar=true/\Zt c=true/\(∀q,Zv q c=false)/\(∀g m,frzL (frz g (m+2)) c=some c):=by obtain⟨nv,ov,oc,ns,rfl,h1⟩:=h;have a1:=Qz h1.n;have a2:=Qz h1.o;have a3:=Ql.pure h1.n;have a4:=Ql.pure h1.o;refine⟨by simp only[Qk,Zht,a1,a2];rfl,by simp only[Qk,Zt,V.pure,a3,a4,Zgp],fun q=>by simp only[Qk,Zv,V.refs,Ql.noRefs h1.n,Ql.noRefs h1.o,Zhq],fun g m=>?_⟩;have f1:=h1.n.frz (g:=g) (m+1);have f2:=h1.o.frz (g:=g) (m+1);simp only[Qk,frzL,f1,f2];rfl
theorem Zy.scal:∀{l:List (Int×Qe)} {cs:List V},Zy cs l->cs.all V.scalar=true/\Zt cs=true/\(∀q,Zv q cs=false)/\(∀g m,frzL (frz g (m+2)) cs=some cs)
 |[],cs,h=>by
  have:cs=[]:=h;subst this;exact⟨rfl,rfl,fun _=>rfl,fun _ _=>rfl⟩
 |p::l,cs,h=>by
  obtain⟨c,d,rfl,h1,h2⟩:=h;obtain⟨a1,a2,a3,a4⟩:=h1.scal;obtain⟨b1,b2,b3,b4⟩:=h2.scal;refine⟨by rw[List.all_append,a1,b1];rfl,pl_app a2 b2,fun q=>?_,fun g m=>?_⟩
  . have:∀(x y:List V),Zv q x=false->Zv q y=false->Zv q (x++y)=false:=by
     intro x y
     induction x with
     |nil=>intro _ h;exact h
     |cons z x ih=>intro h1 h2;simp only[Zgh,Zv,Zf5] at h1⊢;exact⟨h1.1,ih h1.2 h2⟩
    exact this c d (a3 q) (b3 q)
  . have:∀(x y:List V),frzL (frz g (m+2)) x=some x->frzL (frz g (m+2)) y=some y->frzL (frz g (m+2)) (x++y)=some (x++y):=by
     intro x y
     induction x with
     |nil=>intro _ h;exact h
     |cons z x ih=>
      intro h1 h2;simp only[frzL] at h1;split at h1
      . rename_i u v hu hv;injection h1 with h1;injection h1 with e1 e2;subst e1;subst e2;have:=ih hv h2;simp only[Zgh,frzL,hu,this]
      . cases h1
    exact this c d (a4 g m) (b4 g m)
def Jd(S:MSt):List V:=S.keys.map fun k=> .str k.pass
def Zu(S:MSt):List V:=S.keys.map fun k=> .bool k.loaded
theorem Qh6(S:MSt):(Jd S).length=S.keys.length:=by simp[Jd]
theorem Jz(S:MSt):(Zu S).length=S.keys.length:=by simp[Zu]
theorem Bd(l:List Qpf):((l.map fun k=>V.str k.pass).all V.scalar=true/\Zt (l.map fun k=>V.str k.pass)=true)/\∀g m,frzL (frz g (m+1)) (l.map fun k=>V.str k.pass)=some (l.map fun k=>V.str k.pass):=by
 induction l with
 |nil=>exact⟨⟨rfl,rfl⟩,fun _ _=>rfl⟩
 |cons k l ih=>exact⟨⟨by simp only[Zfn,Zht,ih.1.1];rfl,by simp only[Zfn,Zt,V.pure,ih.1.2,Zgp]⟩,fun g m=>by simp only[Zfn,frzL,ih.2 g m];rfl⟩
theorem Y9(l:List Qpf):((l.map fun k=>V.bool k.loaded).all V.scalar=true/\Zt (l.map fun k=>V.bool k.loaded)=true)/\∀g m,frzL (frz g (m+1)) (l.map fun k=>V.bool k.loaded)=some (l.map fun k=>V.bool k.loaded):=by
 induction l with
 |nil=>exact⟨⟨rfl,rfl⟩,fun _ _=>rfl⟩
 |cons k l ih=>exact⟨⟨by simp only[Zfn,Zht,ih.1.1];rfl,by simp only[Zfn,Zt,V.pure,ih.1.2,Zgp]⟩,fun g m=>by simp only[Zfn,frzL,ih.2 g m];rfl⟩
structure HsR(pv lv hv:V)(cs:List V)(S:MSt):Prop where
 p:Ql 1 pv (Jd S) S.keys.length
 l:Ql 1 lv (Zu S) S.keys.length
 h:Ql 7 hv cs S.lines.length
 c:Zy cs S.lines
def Ke(v:V)(S:MSt):Prop:=∃pv lv hv cs,v= .agg (Qo S.last pv lv hv)/\HsR pv lv hv cs S
theorem Qbi:byt Tryz.prog 81=some 88:=by kernel_rfl
theorem Qig:byt Tryz.prog 4=some 1:=by kernel_rfl
def zH:List V:=[.int .i64 0,.nS,.nS,.nS]
def twV(n:Nat)(S:MSt)(i:Nat):List V:=Qo S.last (.gS n 12 (Jd S) S.keys.length 1) (.mg n 18 S.keys.length 1) (if i=0 then .nS else .mg n 36 i 7)
def Bt(n:Nat)(S:MSt)(a:List V)(cs:List V)(i:Nat):AM.Frame:=(2,.cells a)::(3,.cells (twV n S i))::(12,.grow S.keys.length)::(18,.mgrow (Zu S) S.keys.length)::if i=0 then[] else[(36,.mgrow cs i)]
set_option maxHeartbeats 4000000 in
theorem Q2r(pv lv hv:V)(cs:List V)(S:MSt)(h:HsR pv lv hv cs S)(k:Nat)(ok:J1 S k)(hk:S.keys.length<=1000)(hl:S.lines.length<=1000):
 CW Tryz.prog Qv 25 [.agg (Qo S.last pv lv hv)] [] fun r H' =>(S.keys=[]/\S.lines=[]/\r= .ret (.agg (Qo S.last .nS .nS .nS))/\H' =[])\/
  S.keys≠[]/\∃cs',Zy cs' S.lines/\r= .ret (.agg (twV 0 S S.lines.length))/\H' =[Bt 0 S (twV 0 S S.lines.length) cs' S.lines.length]:=by
 refine Qol Tryz.func25 rfl ?_;have s1:=Qz h.p;have s2:=Qz h.l;have s3:=Qz h.h;have p1:=Ql.pure h.p;have p2:=Ql.pure h.l;have p3:=Ql.pure h.h;have lh:=h.h.len Tryz.underlying48;have u:=Tryz.underlying48;have m35:Qv.mt 25 35=false:=rfl;show W (U _ _ _ _ _ 0 _ _ _ [[]]) _;by_cases h0:S.keys.length=0
 . have hk0:S.keys=[]:=Zf7 h0;have hl0:S.lines=[]:=by
    cases hq:S.lines with
    |nil=>rfl
    |cons p l=>
     have:=ok.key p (by rw[hq];simp);omega
   have ap1:=fun g=>Qd4 (P:=Tryz.prog) (mt:=Qv.mt 25) (fr:=0) (dst:=some 12) (g:=g) (t:=25) (t2:=25) (s:= .nS) (x:=pv) (cs:=Jd S) Tryz.underlying25 sz9 Qhs zc9 rfl Tryz.underlying25 rfl (by have:=Ql.sc h.p (g:=g);rwa[h0] at this);have ap2:=fun g=>Qd4 (P:=Tryz.prog) (mt:=Qv.mt 25) (fr:=0) (dst:=some 18) (g:=g) (t:=47) (t2:=47) (s:= .nS) (x:=lv) (cs:=Zu S) Tryz.underlying47 sz4 Qig zc4 rfl Tryz.underlying47 rfl (by have:=Ql.sc h.l (g:=g);rwa[h0] at this);have lh0:∀g,Qaw Tryz.prog g 48 hv=some (.int .i64 0):=fun g=>by have:=lh (g:=g);rwa[hl0] at this
   simp only[wA,↓Qc,simprocAttr,Tryz.ntmps25,Qo,s1,s2,s3,p1,p2,p3,V.pure,Zgp,Qu,↓ap1,↓ap2,ta,wH,wB];refine W.ul ?_;refine W.loopS (kt:=[1,2,3,4]) rfl (fun _:Unit=>Qhi (.iptr [.int .i64 S.last,pv,lv,hv] 0) (.ptr 0 2 0) (.ptr 0 3 0) (.int .i64 0)) (fun _=>[[(2,.cells zH),(3,.cells [.int .i64 S.last,.nS,.nS,.nS])]]) (fun _=>True) (fun _=>0) ?_ () trivial rfl rfl;intro _ _;simp only[Qhi];simp only[wA,↓Qc,simprocAttr,lh0,s1,s2,s3,ta,wH,wB];refine W.done ?_;simp only[wA,↓Qc,simprocAttr,zH,s1,s2,s3,ta,wH,wB];refine W.done (End.ret (v:= .agg (Qo S.last .nS .nS .nS)) rfl (.inl ⟨hk0,hl0,rfl,?_⟩));simp[Yb,Qo,V.refs,Zv,Jj]
 . have hkn:S.keys≠[]:=fun e=>h0 (by rw[e];rfl);have ap1:=fun g hg=>Qaj (P:=Tryz.prog) (mt:=Qv.mt 25) (fr:=0) (dst:=some 12) (g:=g) (t:=25) (t2:=25) (x:=pv) (m:=S.keys.length) (cs:=Jd S) Tryz.underlying25 sz9 Qhs zc9 rfl Tryz.underlying25 (Ql.sc h.p) (by omega) (Jb (by omega) (by omega))|>.trans (Qcq (mt:=Qv.mt 25) (fr:=0) (d:=12) (g:=g) rfl hg rfl rfl);have ap2:=fun g hg=>Qaj (P:=Tryz.prog) (mt:=Qv.mt 25) (fr:=0) (dst:=some 18) (g:=g) (t:=47) (t2:=47) (x:=lv) (m:=S.keys.length) (cs:=Zu S) Tryz.underlying47 sz4 Qig zc4 rfl Tryz.underlying47 (Ql.sc h.l) (by omega) (Jb (by omega) (by omega))|>.trans (Qde (mt:=Qv.mt 25) (fr:=0) (d:=18) (g:=g) rfl rfl (Y9 S.keys).1.1 (by rw[Jz];omega) hg);have ap1' :=ap1 (Qd [[(2,.cells zH),(3,.cells [.int .i64 S.last,.nS,.nS,.nS])]]) rfl;have ap2' :=ap2 (Qd [[(2,.cells zH),(3,.cells [.int .i64 S.last,.gS 0 12 (Jd S) S.keys.length 1,.nS,.nS]),(12,.grow S.keys.length)]]) rfl;simp only[zH] at ap1' ap2';simp only[wA,↓Qc,simprocAttr,Tryz.ntmps25,Qo,s1,s2,s3,p1,p2,p3,V.pure,Zgp,Qu,↓ap1',↓ap2',Qj,Qy,ta,wH,wB];refine W.ul ?_;refine W.loopS (kt:=[1,2,3,4]) rfl (fun a:Nat×List V=>Qhi (.iptr [.int .i64 S.last,pv,lv,hv] 0) (.ptr 0 2 0) (.ptr 0 3 0) (.int .i64 a.1)) (fun a=>[Bt 0 S zH a.2 a.1]) (fun a=>a.1<=S.lines.length/\Zy a.2 (S.lines.take a.1)) (fun a=>S.lines.length-a.1) ?_ (0,[]) ⟨by simp,rfl⟩ rfl rfl;rintro⟨i,ds⟩ ⟨hi,hds⟩;simp only at hi hds⊢;simp only[Qhi];have hdl:=hds.len;rw[Zf9,Zgb hi] at hdl;have key:i<S.lines.length\/¬i<S.lines.length:=Classical.em _;rcases key with q|q
   . have c1:decide ((i:Int)<S.lines.length)=true:=Zig (by omega);have wi:(IntKind.i64).wrap ((i:Int)+1)=((i+1:Nat):Int):=by rw[wrap_i64]<;>omega
     have at1:=h.h.at (k:= .i64) u Qa2 (by decide) (i:=(i:Int)) (by omega) (by omega);have hln:=h.c.at_ i q;have ra:Zf Tryz.prog 81 cs ((i:Int).toNat*7)=some (.agg ((cs.drop (i*7)).take 7)):=by rw[Qj7,if_pos (by rw[h.c.len];have:(i:Int).toNat=i:=rfl;omega)];rfl
     have okL:Q5 S.lines[i].2:=ok.ok _ (Zg5 q);obtain⟨nv,ov,oc,ns,he,hL⟩:=hln;rw[he] at ra;have ht:S.lines.take (i+1)=S.lines.take i++[S.lines[i]]:=by rw[Zg6,Ze3 q];rfl
     by_cases hi0:i=0
     . have hf:Bt 0 S zH ds i=[(2,.cells zH),(3,.cells [.int .i64 S.last,.gS 0 12 (Jd S) S.keys.length 1,.mg 0 18 S.keys.length 1,.nS]),(12,.grow S.keys.length),(18,.mgrow (Zu S) S.keys.length)]:=by simp[Bt,twV,Qo,hi0]
       have hds0:ds=[]:=Zf7 (by omega);rw[hf];simp only[wA,↓Qc,simprocAttr,c1,lh,at1,↓ra,s1,s2,s3,ta,wH,wB];refine W.pcallT (Qem _ _ nv ov oc ns _ hL okL) rfl rfl (Qt (Qbb hL.n hL.o) rfl) ?_;rintro _ ⟨nv',ov',oc',rfl,hL'⟩;have t1:=Qz hL'.n;have t2:=Qz hL'.o;have t3:=Ql.pure hL'.n;have t4:=Ql.pure hL'.o;have hlc:LnC (Qk S.lines[i].1 S.lines[i].2.snap S.lines[i].2.owner S.lines[i].2.prev (S.lines[i].2.key:Int) nv' ov') S.lines[i]:=⟨nv',ov',oc',ns,rfl,hL'⟩;have ap:=Qaj (P:=Tryz.prog) (mt:=Qv.mt 25) (fr:=0) (dst:=some 36) (m:=1) (cs:=Qk S.lines[i].1 S.lines[i].2.snap S.lines[i].2.owner S.lines[i].2.prev (S.lines[i].2.key:Int) nv' ov') (x:= .iS (Qk S.lines[i].1 S.lines[i].2.snap S.lines[i].2.owner S.lines[i].2.prev (S.lines[i].2.key:Int) nv' ov') 1 true) (g:=Qd [[(2,.cells zH),(3,.cells [.int .i64 S.last,.gS 0 12 (Jd S) S.keys.length 1,.mg 0 18 S.keys.length 1,.nS]),(12,.grow S.keys.length),(18,.mgrow (Zu S) S.keys.length)]]) u Qa2 Qbi Qkv rfl u rfl (by decide) (Jb (by decide) (by decide));rw[Qde (mt:=Qv.mt 25) (fr:=0) (d:=36) rfl rfl hlc.scal.1 rfl rfl] at ap;simp only[zH,Qk] at ap;simp only[wA,↓Qc,simprocAttr,zH,Qk,t1,t2,t3,t4,u,m35,V.pure,Zgp,Qu,↓ap,Qj,Qy,ta,wH,wB];refine W.opsT (by kernel_rfl) ?_;simp only[wA,↓Qc,simprocAttr,wi];refine W.done ⟨(i+1,Qk S.lines[i].1 S.lines[i].2.snap S.lines[i].2.owner S.lines[i].2.prev (S.lines[i].2.key:Int) nv' ov'),rfl,?_,⟨by simp only;omega,?_⟩,by simp only;omega⟩
       . simp[Bt,twV,Qo,hi0,zH,Qk]
       . simp only;rw[ht];have:=Zy.add hlc hds;rw[hds0] at this;exact this
     . have hf:Bt 0 S zH ds i=[(2,.cells zH),(3,.cells [.int .i64 S.last,.gS 0 12 (Jd S) S.keys.length 1,.mg 0 18 S.keys.length 1,.mg 0 36 i 7]),(12,.grow S.keys.length),(18,.mgrow (Zu S) S.keys.length),(36,.mgrow ds i)]:=by simp[Bt,twV,Qo,hi0]
       rw[hf];simp only[wA,↓Qc,simprocAttr,c1,lh,at1,↓ra,s1,s2,s3,ta,wH,wB];refine W.pcallT (Qem _ _ nv ov oc ns _ hL okL) rfl rfl (Qt (Qbb hL.n hL.o) rfl) ?_;rintro _ ⟨nv',ov',oc',rfl,hL'⟩;have t1:=Qz hL'.n;have t2:=Qz hL'.o;have t3:=Ql.pure hL'.n;have t4:=Ql.pure hL'.o;have hlc:LnC (Qk S.lines[i].1 S.lines[i].2.snap S.lines[i].2.owner S.lines[i].2.prev (S.lines[i].2.key:Int) nv' ov') S.lines[i]:=⟨nv',ov',oc',ns,rfl,hL'⟩;have ap:=Qjt (P:=Tryz.prog) (mt:=Qv.mt 25) (fr:=0) (dst:=some 36) (f:=0) (s:=36) (k:=i) (c0:=ds) (m:=1) (cs:=Qk S.lines[i].1 S.lines[i].2.snap S.lines[i].2.owner S.lines[i].2.prev (S.lines[i].2.key:Int) nv' ov') (x:= .iS (Qk S.lines[i].1 S.lines[i].2.snap S.lines[i].2.owner S.lines[i].2.prev (S.lines[i].2.key:Int) nv' ov') 1 true) (g:=Qd [[(2,.cells zH),(3,.cells [.int .i64 S.last,.gS 0 12 (Jd S) S.keys.length 1,.mg 0 18 S.keys.length 1,.mg 0 36 i 7]),(12,.grow S.keys.length),(18,.mgrow (Zu S) S.keys.length),(36,.mgrow ds i)]]) u Qa2 Qbi Qkv rfl u rfl (by decide) (Jb (by omega) (by omega)) hlc.scal.1 rfl rfl hdl;simp only[zH,Qk] at ap;simp only[wA,↓Qc,simprocAttr,zH,Qk,t1,t2,t3,t4,u,m35,V.pure,Zgp,Qu,↓ap,Qj,Qy,ta,wH,wB];refine W.opsT (by kernel_rfl) ?_;simp only[wA,↓Qc,simprocAttr,wi];refine W.done ⟨(i+1,ds++Qk S.lines[i].1 S.lines[i].2.snap S.lines[i].2.owner S.lines[i].2.prev (S.lines[i].2.key:Int) nv' ov'),rfl,?_,⟨by simp only;omega,?_⟩,by simp only;omega⟩
       . simp[Bt,twV,Qo,zH,Qk]
       . simp only;rw[ht];exact Zy.add hlc hds
   . have e:i=S.lines.length:=by omega
     rw[Zhi (by omega)] at hds;have c1:decide ((i:Int)<S.lines.length)=false:=Zih (by omega);simp only[wA,↓Qc,simprocAttr,c1,lh,s1,s2,s3,ta,wB];refine W.done ?_;by_cases hi0:i=0
     . have hf:Bt 0 S zH ds i=[(2,.cells zH),(3,.cells [.int .i64 S.last,.gS 0 12 (Jd S) S.keys.length 1,.mg 0 18 S.keys.length 1,.nS]),(12,.grow S.keys.length),(18,.mgrow (Zu S) S.keys.length)]:=by simp[Bt,twV,Qo,hi0]
       rw[hf];simp only[wA,↓Qc,simprocAttr,zH,s1,s2,s3,Qj,Qy,ta,wH,wB];refine W.done (End.ret (v:= .agg (twV 0 S S.lines.length)) (by rw[<-e,hi0];rfl) (.inr ⟨hkn,ds,hds,rfl,?_⟩));rw[Ym (by simp[twV,Qo,V.refs,Zv])];rw[<-e];simp[Bt,twV,Qo,hi0]
     . have hf:Bt 0 S zH ds i=[(2,.cells zH),(3,.cells [.int .i64 S.last,.gS 0 12 (Jd S) S.keys.length 1,.mg 0 18 S.keys.length 1,.mg 0 36 i 7]),(12,.grow S.keys.length),(18,.mgrow (Zu S) S.keys.length),(36,.mgrow ds i)]:=by simp[Bt,twV,Qo,hi0]
       rw[hf];simp only[wA,↓Qc,simprocAttr,zH,s1,s2,s3,Qj,Qy,ta,wH,wB];refine W.done (End.ret (v:= .agg (twV 0 S S.lines.length)) (by rw[<-e,twV,if_neg hi0];rfl) (.inr ⟨hkn,ds,hds,rfl,?_⟩));rw[Ym (by simp[twV,Qo,V.refs,Zv])];rw[<-e];simp[Bt,twV,Qo,hi0]
set_option maxHeartbeats 4000000 in
theorem Qvf(F0:AM.Frame)(hF0:∀p,Jt p F0=true)(pv lv hv:V)(cs:List V)(S:MSt)(h:HsR pv lv hv cs S)(k:Nat)(ok:J1 S k)(hk:S.keys.length<=1000)(hl:S.lines.length<=1000):
 CW Tryz.prog Qv 25 [.agg (Qo S.last pv lv hv)] [F0] fun r H' =>(S.keys=[]/\S.lines=[]/\r= .ret (.agg (Qo S.last .nS .nS .nS))/\H' =[F0])\/
  S.keys≠[]/\∃cs',Zy cs' S.lines/\r= .ret (.agg (twV 1 S S.lines.length))/\H' =[F0,Bt 1 S (twV 1 S S.lines.length) cs' S.lines.length]:=by
 refine Qol Tryz.func25 rfl ?_;have s1:=Qz h.p;have s2:=Qz h.l;have s3:=Qz h.h;have p1:=Ql.pure h.p;have p2:=Ql.pure h.l;have p3:=Ql.pure h.h;have lh:=h.h.len Tryz.underlying48;have u:=Tryz.underlying48;have m35:Qv.mt 25 35=false:=rfl;show W (U _ _ _ _ _ 1 _ _ _ [F0,[]]) _;by_cases h0:S.keys.length=0
 . have hk0:S.keys=[]:=Zf7 h0;have hl0:S.lines=[]:=by
    cases hq:S.lines with
    |nil=>rfl
    |cons p l=>
     have:=ok.key p (by rw[hq];simp);omega
   have ap1:=fun g=>Qd4 (P:=Tryz.prog) (mt:=Qv.mt 25) (fr:=1) (dst:=some 12) (g:=g) (t:=25) (t2:=25) (s:= .nS) (x:=pv) (cs:=Jd S) Tryz.underlying25 sz9 Qhs zc9 rfl Tryz.underlying25 rfl (by have:=Ql.sc h.p (g:=g);rwa[h0] at this);have ap2:=fun g=>Qd4 (P:=Tryz.prog) (mt:=Qv.mt 25) (fr:=1) (dst:=some 18) (g:=g) (t:=47) (t2:=47) (s:= .nS) (x:=lv) (cs:=Zu S) Tryz.underlying47 sz4 Qig zc4 rfl Tryz.underlying47 rfl (by have:=Ql.sc h.l (g:=g);rwa[h0] at this);have lh0:∀g,Qaw Tryz.prog g 48 hv=some (.int .i64 0):=fun g=>by have:=lh (g:=g);rwa[hl0] at this
   simp only[wA,↓Qc,simprocAttr,Tryz.ntmps25,Qo,s1,s2,s3,p1,p2,p3,V.pure,Zgp,Qu,↓ap1,↓ap2,ta,wH,wB];refine W.ul ?_;refine W.loopS (kt:=[1,2,3,4]) rfl (fun _:Unit=>Qhi (.iptr [.int .i64 S.last,pv,lv,hv] 0) (.ptr 1 2 0) (.ptr 1 3 0) (.int .i64 0)) (fun _=>[F0,[(2,.cells zH),(3,.cells [.int .i64 S.last,.nS,.nS,.nS])]]) (fun _=>True) (fun _=>0) ?_ () trivial rfl rfl;intro _ _;simp only[Qhi];simp only[wA,↓Qc,simprocAttr,lh0,s1,s2,s3,ta,wH,wB];refine W.done ?_;simp only[wA,↓Qc,simprocAttr,zH,s1,s2,s3,ta,wH,wB];refine W.done (End.ret (v:= .agg (Qo S.last .nS .nS .nS)) rfl (.inl ⟨hk0,hl0,rfl,?_⟩));simp[Yb,Qo,V.refs,Zv,Jj,hF0]
 . have hkn:S.keys≠[]:=fun e=>h0 (by rw[e];rfl);have ap1:=fun g hg=>Qaj (P:=Tryz.prog) (mt:=Qv.mt 25) (fr:=1) (dst:=some 12) (g:=g) (t:=25) (t2:=25) (x:=pv) (m:=S.keys.length) (cs:=Jd S) Tryz.underlying25 sz9 Qhs zc9 rfl Tryz.underlying25 (Ql.sc h.p) (by omega) (Jb (by omega) (by omega))|>.trans (Qcq (mt:=Qv.mt 25) (fr:=1) (d:=12) (g:=g) rfl hg rfl rfl);have ap2:=fun g hg=>Qaj (P:=Tryz.prog) (mt:=Qv.mt 25) (fr:=1) (dst:=some 18) (g:=g) (t:=47) (t2:=47) (x:=lv) (m:=S.keys.length) (cs:=Zu S) Tryz.underlying47 sz4 Qig zc4 rfl Tryz.underlying47 (Ql.sc h.l) (by omega) (Jb (by omega) (by omega))|>.trans (Qde (mt:=Qv.mt 25) (fr:=1) (d:=18) (g:=g) rfl rfl (Y9 S.keys).1.1 (by rw[Jz];omega) hg);have ap1' :=ap1 (Qd [F0,[(2,.cells zH),(3,.cells [.int .i64 S.last,.nS,.nS,.nS])]]) rfl;have ap2' :=ap2 (Qd [F0,[(2,.cells zH),(3,.cells [.int .i64 S.last,.gS 1 12 (Jd S) S.keys.length 1,.nS,.nS]),(12,.grow S.keys.length)]]) rfl;simp only[zH] at ap1' ap2';simp only[wA,↓Qc,simprocAttr,Tryz.ntmps25,Qo,s1,s2,s3,p1,p2,p3,V.pure,Zgp,Qu,↓ap1',↓ap2',Qj,Qy,ta,wH,wB];refine W.ul ?_;refine W.loopS (kt:=[1,2,3,4]) rfl (fun a:Nat×List V=>Qhi (.iptr [.int .i64 S.last,pv,lv,hv] 0) (.ptr 1 2 0) (.ptr 1 3 0) (.int .i64 a.1)) (fun a=>[F0,Bt 1 S zH a.2 a.1]) (fun a=>a.1<=S.lines.length/\Zy a.2 (S.lines.take a.1)) (fun a=>S.lines.length-a.1) ?_ (0,[]) ⟨by simp,rfl⟩ rfl rfl;rintro⟨i,ds⟩ ⟨hi,hds⟩;simp only at hi hds⊢;simp only[Qhi];have hdl:=hds.len;rw[Zf9,Zgb hi] at hdl;have key:i<S.lines.length\/¬i<S.lines.length:=Classical.em _;rcases key with q|q
   . have c1:decide ((i:Int)<S.lines.length)=true:=Zig (by omega);have wi:(IntKind.i64).wrap ((i:Int)+1)=((i+1:Nat):Int):=by rw[wrap_i64]<;>omega
     have at1:=h.h.at (k:= .i64) u Qa2 (by decide) (i:=(i:Int)) (by omega) (by omega);have hln:=h.c.at_ i q;have ra:Zf Tryz.prog 81 cs ((i:Int).toNat*7)=some (.agg ((cs.drop (i*7)).take 7)):=by rw[Qj7,if_pos (by rw[h.c.len];have:(i:Int).toNat=i:=rfl;omega)];rfl
     have okL:Q5 S.lines[i].2:=ok.ok _ (Zg5 q);obtain⟨nv,ov,oc,ns,he,hL⟩:=hln;rw[he] at ra;have ht:S.lines.take (i+1)=S.lines.take i++[S.lines[i]]:=by rw[Zg6,Ze3 q];rfl
     by_cases hi0:i=0
     . have hf:Bt 1 S zH ds i=[(2,.cells zH),(3,.cells [.int .i64 S.last,.gS 1 12 (Jd S) S.keys.length 1,.mg 1 18 S.keys.length 1,.nS]),(12,.grow S.keys.length),(18,.mgrow (Zu S) S.keys.length)]:=by simp[Bt,twV,Qo,hi0]
       have hds0:ds=[]:=Zf7 (by omega);rw[hf];simp only[wA,↓Qc,simprocAttr,c1,lh,at1,↓ra,s1,s2,s3,ta,wH,wB];refine W.pcallT (Qem _ _ nv ov oc ns _ hL okL) rfl rfl (Qt (Qbb hL.n hL.o) rfl) ?_;rintro _ ⟨nv',ov',oc',rfl,hL'⟩;have t1:=Qz hL'.n;have t2:=Qz hL'.o;have t3:=Ql.pure hL'.n;have t4:=Ql.pure hL'.o;have hlc:LnC (Qk S.lines[i].1 S.lines[i].2.snap S.lines[i].2.owner S.lines[i].2.prev (S.lines[i].2.key:Int) nv' ov') S.lines[i]:=⟨nv',ov',oc',ns,rfl,hL'⟩;have ap:=Qaj (P:=Tryz.prog) (mt:=Qv.mt 25) (fr:=1) (dst:=some 36) (m:=1) (cs:=Qk S.lines[i].1 S.lines[i].2.snap S.lines[i].2.owner S.lines[i].2.prev (S.lines[i].2.key:Int) nv' ov') (x:= .iS (Qk S.lines[i].1 S.lines[i].2.snap S.lines[i].2.owner S.lines[i].2.prev (S.lines[i].2.key:Int) nv' ov') 1 true) (g:=Qd [F0,[(2,.cells zH),(3,.cells [.int .i64 S.last,.gS 1 12 (Jd S) S.keys.length 1,.mg 1 18 S.keys.length 1,.nS]),(12,.grow S.keys.length),(18,.mgrow (Zu S) S.keys.length)]]) u Qa2 Qbi Qkv rfl u rfl (by decide) (Jb (by decide) (by decide));rw[Qde (mt:=Qv.mt 25) (fr:=1) (d:=36) rfl rfl hlc.scal.1 rfl rfl] at ap;simp only[zH,Qk] at ap;simp only[wA,↓Qc,simprocAttr,zH,Qk,t1,t2,t3,t4,u,m35,V.pure,Zgp,Qu,↓ap,Qj,Qy,ta,wH,wB];refine W.opsT (by kernel_rfl) ?_;simp only[wA,↓Qc,simprocAttr,wi];refine W.done ⟨(i+1,Qk S.lines[i].1 S.lines[i].2.snap S.lines[i].2.owner S.lines[i].2.prev (S.lines[i].2.key:Int) nv' ov'),rfl,?_,⟨by simp only;omega,?_⟩,by simp only;omega⟩
       . simp[Bt,twV,Qo,hi0,zH,Qk]
       . simp only;rw[ht];have:=Zy.add hlc hds;rw[hds0] at this;exact this
     . have hf:Bt 1 S zH ds i=[(2,.cells zH),(3,.cells [.int .i64 S.last,.gS 1 12 (Jd S) S.keys.length 1,.mg 1 18 S.keys.length 1,.mg 1 36 i 7]),(12,.grow S.keys.length),(18,.mgrow (Zu S) S.keys.length),(36,.mgrow ds i)]:=by simp[Bt,twV,Qo,hi0]
       rw[hf];simp only[wA,↓Qc,simprocAttr,c1,lh,at1,↓ra,s1,s2,s3,ta,wH,wB];refine W.pcallT (Qem _ _ nv ov oc ns _ hL okL) rfl rfl (Qt (Qbb hL.n hL.o) rfl) ?_;rintro _ ⟨nv',ov',oc',rfl,hL'⟩;have t1:=Qz hL'.n;have t2:=Qz hL'.o;have t3:=Ql.pure hL'.n;have t4:=Ql.pure hL'.o;have hlc:LnC (Qk S.lines[i].1 S.lines[i].2.snap S.lines[i].2.owner S.lines[i].2.prev (S.lines[i].2.key:Int) nv' ov') S.lines[i]:=⟨nv',ov',oc',ns,rfl,hL'⟩;have ap:=Qjt (P:=Tryz.prog) (mt:=Qv.mt 25) (fr:=1) (dst:=some 36) (f:=1) (s:=36) (k:=i) (c0:=ds) (m:=1) (cs:=Qk S.lines[i].1 S.lines[i].2.snap S.lines[i].2.owner S.lines[i].2.prev (S.lines[i].2.key:Int) nv' ov') (x:= .iS (Qk S.lines[i].1 S.lines[i].2.snap S.lines[i].2.owner S.lines[i].2.prev (S.lines[i].2.key:Int) nv' ov') 1 true) (g:=Qd [F0,[(2,.cells zH),(3,.cells [.int .i64 S.last,.gS 1 12 (Jd S) S.keys.length 1,.mg 1 18 S.keys.length 1,.mg 1 36 i 7]),(12,.grow S.keys.length),(18,.mgrow (Zu S) S.keys.length),(36,.mgrow ds i)]]) u Qa2 Qbi Qkv rfl u rfl (by decide) (Jb (by omega) (by omega)) hlc.scal.1 rfl rfl hdl;simp only[zH,Qk] at ap;simp only[wA,↓Qc,simprocAttr,zH,Qk,t1,t2,t3,t4,u,m35,V.pure,Zgp,Qu,↓ap,Qj,Qy,ta,wH,wB];refine W.opsT (by kernel_rfl) ?_;simp only[wA,↓Qc,simprocAttr,wi];refine W.done ⟨(i+1,ds++Qk S.lines[i].1 S.lines[i].2.snap S.lines[i].2.owner S.lines[i].2.prev (S.lines[i].2.key:Int) nv' ov'),rfl,?_,⟨by simp only;omega,?_⟩,by simp only;omega⟩
       . simp[Bt,twV,Qo,zH,Qk]
       . simp only;rw[ht];exact Zy.add hlc hds
   . have e:i=S.lines.length:=by omega
     rw[Zhi (by omega)] at hds;have c1:decide ((i:Int)<S.lines.length)=false:=Zih (by omega);simp only[wA,↓Qc,simprocAttr,c1,lh,s1,s2,s3,ta,wB];refine W.done ?_;by_cases hi0:i=0
     . have hf:Bt 1 S zH ds i=[(2,.cells zH),(3,.cells [.int .i64 S.last,.gS 1 12 (Jd S) S.keys.length 1,.mg 1 18 S.keys.length 1,.nS]),(12,.grow S.keys.length),(18,.mgrow (Zu S) S.keys.length)]:=by simp[Bt,twV,Qo,hi0]
       rw[hf];simp only[wA,↓Qc,simprocAttr,zH,s1,s2,s3,Qj,Qy,ta,wH,wB];refine W.done (End.ret (v:= .agg (twV 1 S S.lines.length)) (by rw[<-e,hi0];rfl) (.inr ⟨hkn,ds,hds,rfl,?_⟩));rw[Ym (by simp[twV,Qo,V.refs,Zv])];rw[<-e];simp[Bt,twV,Qo,hi0]
     . have hf:Bt 1 S zH ds i=[(2,.cells zH),(3,.cells [.int .i64 S.last,.gS 1 12 (Jd S) S.keys.length 1,.mg 1 18 S.keys.length 1,.mg 1 36 i 7]),(12,.grow S.keys.length),(18,.mgrow (Zu S) S.keys.length),(36,.mgrow ds i)]:=by simp[Bt,twV,Qo,hi0]
       rw[hf];simp only[wA,↓Qc,simprocAttr,zH,s1,s2,s3,Qj,Qy,ta,wH,wB];refine W.done (End.ret (v:= .agg (twV 1 S S.lines.length)) (by rw[<-e,twV,if_neg hi0];rfl) (.inr ⟨hkn,ds,hds,rfl,?_⟩));rw[Ym (by simp[twV,Qo,V.refs,Zv])];rw[<-e];simp[Bt,twV,Qo,hi0]
def Z6(L:Qe)(c:Zc)(obj:Int):Qe:=
 if c.kind=9 then{L.setOb obj ⟨1,1,[]⟩ with names:=L.names++[(c.name,obj)]}
 else if c.kind=10 then{L.setOb obj ⟨3,1,c.as_⟩ with names:=L.names++[(c.name,obj)]}
 else if c.kind=11 then{L.setOb obj {L.ob obj with links:=w64 ((L.ob obj).links+1)} with names:=L.names++[(c.as_,obj)]}
 else if c.kind=12 then{L.setOb obj (if w64 ((L.ob obj).links-1)=0 then Qc2 else{L.ob obj with links:=w64 ((L.ob obj).links-1)}) with names:=J6 L.names c.name}
 else if c.kind=13 then{L with names:=J6 L.names c.name++[(c.as_,obj)]}
 else if c.kind=15 then L.setOb obj {L.ob obj with data:=Qbg (L.ob obj).data c.c.toNat c.data}
 else L.setOb obj {L.ob obj with data:=Jg (L.ob obj).data c.b.toNat}
theorem Xy.put{o:Bw}{dv:V}(hd:Qx dv o.data):∀{os:List Bw} {cs:List V} (i:Nat),i<os.length->Xy cs os->Xy (splice cs (i*3) [.int .u8 o.kind,.int .i64 o.links,dv]) (os.set i o)
 |x::os,cs,0,_,h=>by
  obtain⟨dv',d,rfl,h1,h2⟩:=h;exact⟨dv,d,rfl,hd,h2⟩
 |x::os,cs,i+1,hi,h=>by
  obtain⟨dv',d,rfl,h1,h2⟩:=h;have h3:=Xy.put hd i (by simpa using hi) h2;refine⟨dv',splice d (i*3) [.int .u8 o.kind,.int .i64 o.links,dv],?_,h1,h3⟩;simp only[splice];rw[show(i+1)*3=i*3+1+1+1 by omega];simp only[Zhb,Zgh,Zgz,Zg2];rw[show i*3+1+1+1+(0+1+1+1)=(i*3+(0+1+1+1))+1+1+1 by omega];simp only[Zhn]
theorem Qb2{f:V->Option V}{a b a' b' :List V}(h1:frzL f a=some a')(h2:frzL f b=some b'):frzL f (a++b)=some (a' ++b'):=by
 induction a generalizing a' with
 |nil=>simp only[frzL,Zic] at h1;subst h1;exact h2
 |cons x a ih=>
  simp only[frzL] at h1;split at h1
  . rename_i u v hu hv;injection h1 with h1;subst h1;simp only[Zgh,frzL,hu,ih hv]
  . cases h1
theorem Q01{f:V->Option V}{a:List V}(h:frzL f a=some a)(n:Nat):frzL f (a.take n)=some (a.take n):=by
 induction a generalizing n with
 |nil=>simpa using h
 |cons x a ih=>
  simp only[frzL] at h;split at h
  . rename_i u v hu hv;injection h with h;injection h with e1 e2;subst e1;subst e2;cases n with
    |zero=>rfl
    |succ n=>simp only[Zhb,frzL,hu,ih hv n]
  . cases h
theorem Q02{f:V->Option V}{a:List V}(h:frzL f a=some a)(n:Nat):frzL f (a.drop n)=some (a.drop n):=by
 induction a generalizing n with
 |nil=>simpa using h
 |cons x a ih=>
  have h' :=h;simp only[frzL] at h;split at h
  . rename_i u v hu hv;injection h with h;injection h with e1 e2;subst e1;subst e2;cases n with
    |zero=>exact h'
    |succ n=>simp only[Zhn];exact ih hv n
  . cases h
theorem K9{f:V->Option V}{a b b' :List V}(h:frzL f a=some a)(hb:frzL f b=some b')(hl:b'.length=b.length)(n:Nat):frzL f (splice a n b)=some (splice a n b'):=by unfold splice;rw[hl];exact Qb2 (Qb2 (Q01 h n) hb) (Q02 h _)
theorem Qpm{obj:Int}(h0:0<=obj)(h1:obj<16):Zs Tryz.prog 79 (.mg 1 37 16 3) (.int .i64 obj)=some (.mp 1 37 (obj.toNat*3) 16):=by simp only[Zs,Tryz.underlying79,Qhk];rw[if_pos ⟨h0,by omega,by first|rfl|trivial⟩]
theorem Qee(a:List V)(id:Int)(ky:Int)(nv ov:V)(oc:List V)(ns:List (Qq×Int))(L:Qe)(h:LnR nv ov oc ns L)(ok:Q5 L)(ha:∀p,Zv p a=false):
 CR Tryz.prog Qv 50 [.agg (Qk id L.snap L.owner L.prev ky nv ov)] [[(6,.cells a)]] fun v H' =>∃nv' oc',v= .agg (Qk id L.snap L.owner L.prev ky nv' (.mg 1 37 16 3))/\LnR nv' (.iS oc' 16 false) oc' ns L/\oc'.length=48/\
  H' =[[(6,.cells a)],[(2,.cells (Qk id L.snap L.owner L.prev ky nv' (.mg 1 37 16 3))),(3,.cells (Qk id L.snap L.owner L.prev ky nv' (.mg 1 37 16 3))),(37,.mgrow oc' 16)]]:=by
 refine(Q4c [(6,.cells a)] (fun p=>by simp[Jt,O.refs,ha]) id ky nv ov oc ns L h ok).mono ?_;rintro r H' ⟨nv',oc',rfl,h1,h2,rfl⟩;have hl:oc'.length=16*3:=by rw[h2.len,ok.n16]
 exact⟨_,rfl,nv',oc',rfl,⟨h1,Ql.mk hl,h2,h.p,h.r⟩,hl,rfl⟩
theorem Qa9{g:Get}{id:Int}{sn:Bool}{ow pr ky:Int}{nv:V}{xs ys:List V}{ns:List (Qq×Int)}(hn:Qdh nv ns)(hg:g 1 37=some (.mgrow xs 16))(hl:xs.length=48)(hf:frzL (frz g 10) xs=some ys):
 frz g depth (.agg (Qk id sn ow pr ky nv (.mg 1 37 16 3)))=some (.agg (Qk id sn ow pr ky nv (.iS ys 16 false))):=by
 have f1:=hn.frz (g:=g) 10;have f2:frz g 11 (.mg 1 37 16 3)=some (.iS ys 16 false):=by
  show(match g 1 37 with
   |some (.mgrow xs k)=>if k=16/\xs.length=16*3 then(frzL (frz _ 10) xs).map fun cs=>V.iS cs 16 false else none
   |_=>none)=_
  rw[hg];simp only[hl,and_self,if_true,hf,Ze4]
 show(frzL (frz _ 11) _).map V.agg=_;unfold Qk;simp only[frzL,f1,f2];rfl
set_option maxHeartbeats 4000000 in
theorem Q0p(id:Int)(ky:Int)(nv ov:V)(oc:List V)(ns:List (Qq×Int))(L:Qe)(h:LnR nv ov oc ns L)(ok:Q5 L)(c:Zc)(dv:V)(hc:Ye c dv)(hk:c.kind=9)(obj:Int)(h0:0<=obj)(h1:obj<16):
 Fz Tryz.prog Qv 26 [.agg (Qk id L.snap L.owner L.prev ky nv ov),.agg (Qf c dv),.int .i64 obj] fun r=>∃nv' ov' oc' ns',r= .agg (Qk id L.snap L.owner L.prev ky nv' ov')/\LnR nv' ov' oc' ns' (Z6 L c obj):=by
 refine Jx Tryz.func26 rfl ?_;have s1:=Qz h.n;have s2:=Qz h.o;have s3:=Qz hc.data;have p1:=Ql.pure h.n;have p2:=Ql.pure h.o;have p3:=Ql.pure hc.data;have hlen:=h.len ok;have tc:=Qee [.int .i64 0,.bool false,.int .i64 0,.int .i64 0,.int .i64 0,.nS,.nS] id ky nv ov oc ns L h ok (fun _=>rfl);obtain⟨kind,a,b,cc,name,as_,text,data⟩:=c;simp only at hk;subst hk;simp only[wA,↓Qc,simprocAttr,Tryz.ntmps26,Qk,Qf,s1,s2,s3,p1,p2,p3,V.pure,Zgp,ta,wH,wB];refine W.call tc rfl rfl rfl rfl rfl ?_;rintro _ _ ⟨nv1,oc1,rfl,hL,hl,rfl⟩;obtain⟨ob,ra,hb⟩:=hL.ra ok h0 h1;have t1:=Qz hL.n;have t2:=Ql.cells hL.n;have t3:=Qz hb;have t4:=Ql.cells hb;have ia:=Qpm h0 h1;have c48:obj.toNat*3+3<=48:=by omega
 have ci:obj.toNat<L.objs.length:=by rw[ok.n16];omega
 have fo:=fun g m=>hL.c.frzL g (m+1);have eU:=ok.uniq;simp only[wA,↓Qc,simprocAttr,Qk,t1,t2,t3,t4,Qj,Qy,Q3,Qh,Q4,Qi,ia,ra,hl,c48,s1,s2,s3,V.pure,Zgp,ta,wH,wB];refine W.pcall (Qnj nv1 ns hL.n (by omega) name obj) rfl rfl (Qt (hL.n.frz _) rfl) ?_;intro r hN;have r1:=Qz hN;have r2:=Ql.cells hN;have hob:(∀g,frzL (frz g 10) [.int .u8 1,.int .i64 1,.nS]=some [.int .u8 1,.int .i64 1,.nS])/\Qx .nS ([]:Qq):=⟨fun _=>rfl,Qx.nil⟩;simp only[wA,↓Qc,simprocAttr,r1,r2,Qk,t1,t2,t3,t4,Qj,Qy,Q3,Qh,Q4,Qi,ia,ra,hl,c48,s1,s2,s3,V.pure,Zgp,ta,wH,wB];refine W.done (Zg.ret rfl (Qa9 (ys:=splice oc1 (obj.toNat*3) [.int .u8 1,.int .i64 1,.nS]) hN rfl (by simp only[splice,Zfv,Zf9,Zga,hl,Zgz,Zg2];omega) (K9 (b' :=[.int .u8 1,.int .i64 1,.nS]) (fo _ 8) (hob.1 _) rfl _)) ⟨_,_,_,_,rfl,hN,Ql.mk ?_,?_,(Qce name obj ns).trans ((hL.p.cons (name,obj)).trans (Zh3 (name,obj) L.names).symm),Qd9 hL.r⟩)
 . simp only[splice,Zfv,Zf9,Zga,hl,Zgz,Zg2];omega
 . exact Xy.put (o:=⟨1,1,[]⟩) hob.2 obj.toNat ci hL.c
set_option maxHeartbeats 4000000 in
theorem Qyg(id:Int)(ky:Int)(nv ov:V)(oc:List V)(ns:List (Qq×Int))(L:Qe)(h:LnR nv ov oc ns L)(ok:Q5 L)(c:Zc)(dv:V)(hc:Ye c dv)(hk:c.kind=10)(obj:Int)(h0:0<=obj)(h1:obj<16):
 Fz Tryz.prog Qv 26 [.agg (Qk id L.snap L.owner L.prev ky nv ov),.agg (Qf c dv),.int .i64 obj] fun r=>∃nv' ov' oc' ns',r= .agg (Qk id L.snap L.owner L.prev ky nv' ov')/\LnR nv' ov' oc' ns' (Z6 L c obj):=by
 refine Jx Tryz.func26 rfl ?_;have s1:=Qz h.n;have s2:=Qz h.o;have s3:=Qz hc.data;have p1:=Ql.pure h.n;have p2:=Ql.pure h.o;have p3:=Ql.pure hc.data;have hlen:=h.len ok;have tc:=Qee [.int .i64 0,.bool false,.int .i64 0,.int .i64 0,.int .i64 0,.nS,.nS] id ky nv ov oc ns L h ok (fun _=>rfl);obtain⟨kind,a,b,cc,name,as_,text,data⟩:=c;simp only at hk;subst hk;simp only[wA,↓Qc,simprocAttr,Tryz.ntmps26,Qk,Qf,s1,s2,s3,p1,p2,p3,V.pure,Zgp,ta,wH,wB];refine W.call tc rfl rfl rfl rfl rfl ?_;rintro _ _ ⟨nv1,oc1,rfl,hL,hl,rfl⟩;obtain⟨ob,ra,hb⟩:=hL.ra ok h0 h1;have t1:=Qz hL.n;have t2:=Ql.cells hL.n;have t3:=Qz hb;have t4:=Ql.cells hb;have ia:=Qpm h0 h1;have c48:obj.toNat*3+3<=48:=by omega
 have ci:obj.toNat<L.objs.length:=by rw[ok.n16];omega
 have fo:=fun g m=>hL.c.frzL g (m+1);have eU:=ok.uniq;have cv:∀g,convertV Tryz.prog g 9 24 (.str as_)=some (.val (.iS (Qp as_) as_.length false) none):=fun g=>by simp only[convertV,Tryz.underlying9,Tryz.underlying24,Tryz.underlying5]
 simp only[wA,↓Qc,simprocAttr,Qzj,↓cv,Qk,t1,t2,t3,t4,Qj,Qy,Q3,Qh,Q4,Qi,ia,ra,hl,c48,s1,s2,s3,V.pure,Zgp,ta,wH,wB];refine W.pcall (Qnj nv1 ns hL.n (by omega) name obj) rfl rfl (Qt (hL.n.frz _) rfl) ?_;intro r hN;have r1:=Qz hN;have r2:=Ql.cells hN;have hob:(∀g,frzL (frz g 10) [.int .u8 3,.int .i64 1,.iS (Qp as_) as_.length false]=some [.int .u8 3,.int .i64 1,.iS (Qp as_) as_.length false])/\Qx (.iS (Qp as_) as_.length false) as_:=⟨fun _=>rfl,Qx.mk _ _⟩;simp only[wA,↓Qc,simprocAttr,r1,r2,Qk,t1,t2,t3,t4,Qj,Qy,Q3,Qh,Q4,Qi,ia,ra,hl,c48,s1,s2,s3,V.pure,Zgp,ta,wH,wB];refine W.done (Zg.ret rfl (Qa9 (ys:=splice oc1 (obj.toNat*3) [.int .u8 3,.int .i64 1,.iS (Qp as_) as_.length false]) hN rfl (by simp only[splice,Zfv,Zf9,Zga,hl,Zgz,Zg2];omega) (K9 (b' :=[.int .u8 3,.int .i64 1,.iS (Qp as_) as_.length false]) (fo _ 8) (hob.1 _) rfl _)) ⟨_,_,_,_,rfl,hN,Ql.mk ?_,?_,(Qce name obj ns).trans ((hL.p.cons (name,obj)).trans (Zh3 (name,obj) L.names).symm),Qd9 hL.r⟩)
 . simp only[splice,Zfv,Zf9,Zga,hl,Zgz,Zg2];omega
 . exact Xy.put (o:=⟨3,1,as_⟩) hob.2 obj.toNat ci hL.c
set_option maxHeartbeats 4000000 in
theorem Qxd(id:Int)(ky:Int)(nv ov:V)(oc:List V)(ns:List (Qq×Int))(L:Qe)(h:LnR nv ov oc ns L)(ok:Q5 L)(c:Zc)(dv:V)(hc:Ye c dv)(hk:c.kind=11)(obj:Int)(h0:0<=obj)(h1:obj<16):
 Fz Tryz.prog Qv 26 [.agg (Qk id L.snap L.owner L.prev ky nv ov),.agg (Qf c dv),.int .i64 obj] fun r=>∃nv' ov' oc' ns',r= .agg (Qk id L.snap L.owner L.prev ky nv' ov')/\LnR nv' ov' oc' ns' (Z6 L c obj):=by
 refine Jx Tryz.func26 rfl ?_;have s1:=Qz h.n;have s2:=Qz h.o;have s3:=Qz hc.data;have p1:=Ql.pure h.n;have p2:=Ql.pure h.o;have p3:=Ql.pure hc.data;have hlen:=h.len ok;have tc:=Qee [.int .i64 0,.bool false,.int .i64 0,.int .i64 0,.int .i64 0,.nS,.nS] id ky nv ov oc ns L h ok (fun _=>rfl);obtain⟨kind,a,b,cc,name,as_,text,data⟩:=c;simp only at hk;subst hk;simp only[wA,↓Qc,simprocAttr,Tryz.ntmps26,Qk,Qf,s1,s2,s3,p1,p2,p3,V.pure,Zgp,ta,wH,wB];refine W.call tc rfl rfl rfl rfl rfl ?_;rintro _ _ ⟨nv1,oc1,rfl,hL,hl,rfl⟩;obtain⟨ob,ra,hb⟩:=hL.ra ok h0 h1;have t1:=Qz hL.n;have t2:=Ql.cells hL.n;have t3:=Qz hb;have t4:=Ql.cells hb;have ia:=Qpm h0 h1;have c48:obj.toNat*3+3<=48:=by omega
 have ci:obj.toNat<L.objs.length:=by rw[ok.n16];omega
 have fo:=fun g m=>hL.c.frzL g (m+1);have eU:=ok.uniq;simp only[wA,↓Qc,simprocAttr,Qk,t1,t2,t3,t4,Qj,Qy,Q3,Qh,Q4,Qi,ia,ra,hl,c48,s1,s2,s3,V.pure,Zgp,ta,wH,wB];refine W.pcall (Qnj nv1 ns hL.n (by omega) as_ obj) rfl rfl (Qt (hL.n.frz _) rfl) ?_;intro r hN;have r1:=Qz hN;have r2:=Ql.cells hN;have hob:(∀g,frzL (frz g 10) [.int .u8 (L.ob obj).kind,.int .i64 (w64 ((L.ob obj).links+1)),ob]=some [.int .u8 (L.ob obj).kind,.int .i64 (w64 ((L.ob obj).links+1)),ob])/\Qx ob (L.ob obj).data:=⟨fun g=>by have:=hb.frz (g:=g) 9;simp only[frzL,this];rfl,hb⟩;simp only[wA,↓Qc,simprocAttr,r1,r2,Qk,t1,t2,t3,t4,Qj,Qy,Q3,Qh,Q4,Qi,ia,ra,hl,c48,s1,s2,s3,V.pure,Zgp,ta,wH,wB];refine W.done (Zg.ret rfl (Qa9 (ys:=splice oc1 (obj.toNat*3) [.int .u8 (L.ob obj).kind,.int .i64 (w64 ((L.ob obj).links+1)),ob]) hN rfl (by simp only[splice,Zfv,Zf9,Zga,hl,Zgz,Zg2];omega) (K9 (b' :=[.int .u8 (L.ob obj).kind,.int .i64 (w64 ((L.ob obj).links+1)),ob]) (fo _ 8) (hob.1 _) rfl _)) ⟨_,_,_,_,rfl,hN,Ql.mk ?_,?_,(Qce as_ obj ns).trans ((hL.p.cons (as_,obj)).trans (Zh3 (as_,obj) L.names).symm),Qd9 hL.r⟩)
 . simp only[splice,Zfv,Zf9,Zga,hl,Zgz,Zg2];omega
 . exact Xy.put (o:={L.ob obj with links:=w64 ((L.ob obj).links+1)}) hob.2 obj.toNat ci hL.c
theorem set_ob{L:Qe}(ok:Q5 L){obj:Int}(h0:0<=obj)(h1:obj<16):L.objs.set obj.toNat (L.ob obj)=L.objs:=by
 have:=ok.at_ h0 h1;have hk:obj.toNat<L.objs.length:=by rw[ok.n16];omega
 rw[Ze3 hk] at this;rw[<-Option.some.inj this,List.set_getElem_self]
theorem Qoi{ns:List (Qq×Int)}{L:Qe}(hp:ns.Perm L.names)(ok:Q5 L)(s:Qq):(Qjp s ns).Perm (J6 L.names s):=by rw[<-Qnu ok.uniq];exact Q0n hp
theorem Q7d(ns:List (Qq×Int))(s:Qq):(Qjp s ns).length<=ns.length:=Zhz _ _
set_option maxHeartbeats 4000000 in
theorem Qxy(id:Int)(ky:Int)(nv ov:V)(oc:List V)(ns:List (Qq×Int))(L:Qe)(h:LnR nv ov oc ns L)(ok:Q5 L)(c:Zc)(dv:V)(hc:Ye c dv)(hk:c.kind=12)(obj:Int)(h0:0<=obj)(h1:obj<16):
 Fz Tryz.prog Qv 26 [.agg (Qk id L.snap L.owner L.prev ky nv ov),.agg (Qf c dv),.int .i64 obj] fun r=>∃nv' ov' oc' ns',r= .agg (Qk id L.snap L.owner L.prev ky nv' ov')/\LnR nv' ov' oc' ns' (Z6 L c obj):=by
 refine Jx Tryz.func26 rfl ?_;have s1:=Qz h.n;have s2:=Qz h.o;have s3:=Qz hc.data;have p1:=Ql.pure h.n;have p2:=Ql.pure h.o;have p3:=Ql.pure hc.data;have hlen:=h.len ok;have tc:=Qee [.int .i64 0,.bool false,.int .i64 0,.int .i64 0,.int .i64 0,.nS,.nS] id ky nv ov oc ns L h ok (fun _=>rfl);obtain⟨kind,a,b,cc,name,as_,text,data⟩:=c;simp only at hk;subst hk;simp only[wA,↓Qc,simprocAttr,Tryz.ntmps26,Qk,Qf,s1,s2,s3,p1,p2,p3,V.pure,Zgp,ta,wH,wB];refine W.call tc rfl rfl rfl rfl rfl ?_;rintro _ _ ⟨nv1,oc1,rfl,hL,hl,rfl⟩;obtain⟨ob,ra,hb⟩:=hL.ra ok h0 h1;have t1:=Qz hL.n;have t2:=Ql.cells hL.n;have t3:=Qz hb;have t4:=Ql.cells hb;have ia:=Qpm h0 h1;have c48:obj.toNat*3+3<=48:=by omega
 have ci:obj.toNat<L.objs.length:=by rw[ok.n16];omega
 have fo:=fun g m=>hL.c.frzL g (m+1);have eU:=ok.uniq;by_cases hz:w64 ((L.ob obj).links-1)=0
 . skip
   have e1:(((IntKind.i64).wrap ((L.ob obj).links-1))==0)=true:=by rw[show(IntKind.i64).wrap ((L.ob obj).links-1)=0 from hz];rfl
   simp only[wA,↓Qc,simprocAttr,e1,Qk,t1,t2,t3,t4,Qj,Qy,Q3,Qh,Q4,Qi,ia,ra,hl,c48,s1,s2,s3,V.pure,Zgp,ta,wH,wB];refine W.pcall (Qjf nv1 ns hL.n (by omega) name) rfl rfl (Qt (hL.n.frz _) rfl) ?_;intro r hN;have r1:=Qz hN;have r2:=Ql.cells hN;have hob:(∀g,frzL (frz g 10) [.int .u8 0,.int .i64 0,.nS]=some [.int .u8 0,.int .i64 0,.nS])/\Qx .nS ([]:Qq):=⟨fun _=>rfl,Qx.nil⟩;simp only[wA,↓Qc,simprocAttr,r1,r2,Qk,t1,t2,t3,t4,Qj,Qy,Q3,Qh,Q4,Qi,ia,ra,hl,c48,s1,s2,s3,V.pure,Zgp,ta,wH,wB];refine W.done (Zg.ret rfl (Qa9 (ys:=splice oc1 (obj.toNat*3) [.int .u8 0,.int .i64 0,.nS]) hN rfl (by simp only[splice,Zfv,Zf9,Zga,hl,Zgz,Zg2];omega) (K9 (b' :=[.int .u8 0,.int .i64 0,.nS]) (fo _ 8) (hob.1 _) rfl _)) ⟨_,_,_,_,rfl,hN,Ql.mk ?_,?_,Qoi hL.p ok name,Qi2 hL.r⟩)
   . simp only[splice,Zfv,Zf9,Zga,hl,Zgz,Zg2];omega
   . have:=Xy.put (o:=Qc2) hob.2 obj.toNat ci hL.c;simp only[Z6,Qe.setOb,hz];exact this
 . skip
   have e1:(((IntKind.i64).wrap ((L.ob obj).links-1))==0)=false:=by have hz2:¬(IntKind.i64).wrap ((L.ob obj).links-1)=0:=hz;simpa using hz2
   simp only[wA,↓Qc,simprocAttr,e1,Qk,t1,t2,t3,t4,Qj,Qy,Q3,Qh,Q4,Qi,ia,ra,hl,c48,s1,s2,s3,V.pure,Zgp,ta,wH,wB];refine W.pcall (Qjf nv1 ns hL.n (by omega) name) rfl rfl (Qt (hL.n.frz _) rfl) ?_;intro r hN;have r1:=Qz hN;have r2:=Ql.cells hN;have hob:(∀g,frzL (frz g 10) [.int .u8 (L.ob obj).kind,.int .i64 (w64 ((L.ob obj).links-1)),ob]=some [.int .u8 (L.ob obj).kind,.int .i64 (w64 ((L.ob obj).links-1)),ob])/\Qx ob (L.ob obj).data:=⟨fun g=>by have:=hb.frz (g:=g) 9;simp only[frzL,this];rfl,hb⟩;simp only[wA,↓Qc,simprocAttr,r1,r2,Qk,t1,t2,t3,t4,Qj,Qy,Q3,Qh,Q4,Qi,ia,ra,hl,c48,s1,s2,s3,V.pure,Zgp,ta,wH,wB];refine W.done (Zg.ret rfl (Qa9 (ys:=splice oc1 (obj.toNat*3) [.int .u8 (L.ob obj).kind,.int .i64 (w64 ((L.ob obj).links-1)),ob]) hN rfl (by simp only[splice,Zfv,Zf9,Zga,hl,Zgz,Zg2];omega) (K9 (b' :=[.int .u8 (L.ob obj).kind,.int .i64 (w64 ((L.ob obj).links-1)),ob]) (fo _ 8) (hob.1 _) rfl _)) ⟨_,_,_,_,rfl,hN,Ql.mk ?_,?_,Qoi hL.p ok name,Qi2 hL.r⟩)
   . simp only[splice,Zfv,Zf9,Zga,hl,Zgz,Zg2];omega
   . have:=Xy.put (o:={L.ob obj with links:=w64 ((L.ob obj).links-1)}) hob.2 obj.toNat ci hL.c;simp only[Z6,Qe.setOb,hz];exact this
set_option maxHeartbeats 4000000 in
theorem Qxs(id:Int)(ky:Int)(nv ov:V)(oc:List V)(ns:List (Qq×Int))(L:Qe)(h:LnR nv ov oc ns L)(ok:Q5 L)(c:Zc)(dv:V)(hc:Ye c dv)(hk:c.kind=13)(obj:Int)(h0:0<=obj)(h1:obj<16):
 Fz Tryz.prog Qv 26 [.agg (Qk id L.snap L.owner L.prev ky nv ov),.agg (Qf c dv),.int .i64 obj] fun r=>∃nv' ov' oc' ns',r= .agg (Qk id L.snap L.owner L.prev ky nv' ov')/\LnR nv' ov' oc' ns' (Z6 L c obj):=by
 refine Jx Tryz.func26 rfl ?_;have s1:=Qz h.n;have s2:=Qz h.o;have s3:=Qz hc.data;have p1:=Ql.pure h.n;have p2:=Ql.pure h.o;have p3:=Ql.pure hc.data;have hlen:=h.len ok;have tc:=Qee [.int .i64 0,.bool false,.int .i64 0,.int .i64 0,.int .i64 0,.nS,.nS] id ky nv ov oc ns L h ok (fun _=>rfl);obtain⟨kind,a,b,cc,name,as_,text,data⟩:=c;simp only at hk;subst hk;simp only[wA,↓Qc,simprocAttr,Tryz.ntmps26,Qk,Qf,s1,s2,s3,p1,p2,p3,V.pure,Zgp,ta,wH,wB];refine W.call tc rfl rfl rfl rfl rfl ?_;rintro _ _ ⟨nv1,oc1,rfl,hL,hl,rfl⟩;obtain⟨ob,ra,hb⟩:=hL.ra ok h0 h1;have t1:=Qz hL.n;have t2:=Ql.cells hL.n;have t3:=Qz hb;have t4:=Ql.cells hb;have ia:=Qpm h0 h1;have c48:obj.toNat*3+3<=48:=by omega
 have ci:obj.toNat<L.objs.length:=by rw[ok.n16];omega
 have fo:=fun g m=>hL.c.frzL g (m+1);have eU:=ok.uniq;simp only[wA,↓Qc,simprocAttr,Qk,t1,t2,t3,t4,Qj,Qy,Q3,Qh,Q4,Qi,ia,ra,hl,c48,s1,s2,s3,V.pure,Zgp,ta,wH,wB];refine W.pcallT (Qjf nv1 ns hL.n (by omega) name) rfl rfl (Qt (hL.n.frz _) rfl) ?_;intro r0 hN0;have q1:=Qz hN0;have q2:=Ql.cells hN0;simp only[wA,↓Qc,simprocAttr,q1,q2,Qk,t1,t2,t3,t4,Qj,Qy,Q3,Qh,Q4,Qi,ia,ra,hl,c48,s1,s2,s3,V.pure,Zgp,ta,wH,wB];refine W.pcallT (Qnj r0 (Qjp name ns) hN0 (by have:=Q7d ns name;omega) as_ obj) rfl rfl (Qt (hN0.frz _) rfl) ?_;intro r hN;have r1:=Qz hN;have r2:=Ql.cells hN;have hob:(∀g,frzL (frz g 10) [.int .u8 (L.ob obj).kind,.int .i64 (L.ob obj).links,ob]=some [.int .u8 (L.ob obj).kind,.int .i64 (L.ob obj).links,ob])/\Qx ob (L.ob obj).data:=⟨fun g=>by have:=hb.frz (g:=g) 9;simp only[frzL,this];rfl,hb⟩;simp only[wA,↓Qc,simprocAttr,r1,r2,Qk,t1,t2,t3,t4,Qj,Qy,Q3,Qh,Q4,Qi,ia,ra,hl,c48,s1,s2,s3,V.pure,Zgp,ta,wH,wB];refine W.opsT (by kernel_rfl) ?_;simp only[wA,↓Qc,simprocAttr,r1,r2,Qk,t1,t2,t3,t4,Qj,Qy,Q3,Qh,Q4,Qi,ia,ra,hl,c48,s1,s2,s3,V.pure,Zgp,ta,wH,wB];refine W.done (Zg.ret rfl (Qa9 (ys:=splice oc1 (obj.toNat*3) [.int .u8 (L.ob obj).kind,.int .i64 (L.ob obj).links,ob]) hN rfl (by simp only[splice,Zfv,Zf9,Zga,hl,Zgz,Zg2];omega) (K9 (b' :=[.int .u8 (L.ob obj).kind,.int .i64 (L.ob obj).links,ob]) (fo _ 8) (hob.1 _) rfl _)) ⟨_,_,_,_,rfl,hN,Ql.mk ?_,?_,?_,Qd9 (Qi2 hL.r)⟩)
 . simp only[splice,Zfv,Zf9,Zga,hl,Zgz,Zg2];omega
 . have:=Xy.put (o:=L.ob obj) hob.2 obj.toNat ci hL.c;rw[set_ob ok h0 h1] at this;exact this
 . exact(Qce as_ obj _).trans (((Qoi hL.p ok name).cons (as_,obj)).trans (Zh3 (as_,obj) _).symm)
theorem spl{A rest:List V}{i:Nat}(hA:A.length=i)(y v:V):splice (A++y::rest) i [v]=A++v::rest:=by subst hA;unfold splice;rw[List.take_left];simp
def zb:V:= .int .u8 0
theorem Qrk(n:Nat):zerosN [V.int .u8 0] n=List.replicate n zb:=by
 induction n with
 |zero=>rfl
 |succ n ih=>rw[zerosN,ih];rfl
def wrX(W:Qq)(n i:Nat):List V:=Qp (W.take i)++List.replicate (n-i) zb
theorem Qzn{W:Qq}{n i:Nat}(hW:W.length=n)(hi:i<=n):(wrX W n i).length=n:=by simp only[wrX,Zfv,Ja,Zf9,List.length_replicate];omega
theorem Qpw{W:Qq}{n i:Nat}(hi:i<n):wrX W n i=Qp (W.take i)++zb::List.replicate (n-(i+1)) zb:=by unfold wrX;rw[show n-i=(n-(i+1))+1 by omega,List.replicate_succ]
theorem Qof{W:Qq}{n i:Nat}{x:UInt8}(hx:W[i]?=some x):wrX W n (i+1)=Qp (W.take i)++ .int .u8 x.toNat::List.replicate (n-(i+1)) zb:=by unfold wrX;rw[Zg6,hx];simp[Qp]
theorem Qy1{W:Qq}{n i:Nat}{x:UInt8}(hW:W.length=n)(hi:i<n)(hx:W[i]?=some x):splice (wrX W n i) i [.int .u8 x.toNat]=wrX W n (i+1):=by rw[Qpw hi,Qof hx,spl (by rw[Ja,Zf9];omega)]
theorem Q6d{W:Qq}{n i:Nat}{x:UInt8}(y:V)(hW:W.length=n)(hi:i<n)(hx:W[i]?=some x):splice (splice (wrX W n i) i [y]) i [.int .u8 x.toNat]=wrX W n (i+1):=by rw[Qpw hi,Qof hx,spl (by rw[Ja,Zf9];omega),spl (by rw[Ja,Zf9];omega)]
theorem Q6v{W:Qq}{n i:Nat}(hi:i<n)(hx:W[i]?=some 0):wrX W n i=wrX W n (i+1):=by rw[Qpw hi,Qof hx];rfl
theorem Qza{W:Qq}{n:Nat}(hW:W.length=n):wrX W n n=Qp W:=by unfold wrX;rw[Zhi (by omega),Nat.sub_self];simp
theorem Qvc(W:Qq)(n:Nat):wrX W n 0=List.replicate n zb:=by simp[wrX,Qp]
theorem Qgj(D:Qq)(n:Nat):(Jg D n).length=n:=by simp only[Jg,Zfv,Zf9,List.length_replicate];omega
theorem Qrb{D:Qq}{n i:Nat}(hi:i<n):(Jg D n)[i]?=some (D.getD i 0):=by
 unfold Jg;by_cases h:i<D.length
 . rw[Zfy (by rw[Zf9];omega),Zfh,if_pos hi,List.getD,Ze3 h];rfl
 . rw[Zfz (by rw[Zf9];omega),List.getElem?_replicate,if_pos (by rw[Zf9];omega),List.getD,Ze6 (by omega)];rfl
theorem overL{l E:Qq}{o:Nat}(h:o+E.length<=l.length):(over l o E).length=l.length:=by simp only[over,Zfv,Zf9,Zga];omega
theorem Q46{l E:Qq}{o i:Nat}(h:o+E.length<=l.length)(hi:i<l.length):(over l o E)[i]?=if o<=i/\i<o+E.length then E[i-o]? else l[i]?:=by
 unfold over;by_cases h1:i<o
 . rw[if_neg (by omega),Zgg,Zfy (by rw[Zf9];omega),Zfh,if_pos h1]
 . by_cases h2:i<o+E.length
   . rw[if_pos ⟨by omega,h2⟩,Zgg,Zfz (by rw[Zf9];omega),Zf9,Zgb (by omega),Zfy (by omega)]
   . rw[if_neg (by omega),Zfz (by simp only[Zfv,Zf9];omega),Zfv,Zf9,Zgb (by omega),Zhv];congr 1;omega
theorem Qx6{g:Get}{s n m:Nat}{W:Qq}(hg:g 0 s=some (.cells (Qp W)))(hW:W.length=n):frz g (m+2) (.mS 0 s 0 n (some n) 1)=some (.iS (Qp W) n true):=by
 show(match g 0 s with
  |some (.cells xs)=>if 0+n*1<=xs.length then(frzL (frz g (m+1)) ((xs.drop 0).take (n*1))).map fun cs=>V.iS cs n (some n==some n) else none
  |_=>none)=_
 rw[hg];have hl:(Qp W).length=n:=by rw[Ja];exact hW
 simp only[Zhm];rw[if_pos (by omega),Zhi (by omega),Qeq];simp
theorem Qpl{f s o n e:Nat}{c:Option Nat}:(V.mS f s o n c e).cells=some [.mS f s o n c e]:=rfl
set_option maxHeartbeats 4000000 in
theorem Qyi(id:Int)(ky:Int)(nv ov:V)(oc:List V)(ns:List (Qq×Int))(L:Qe)(h:LnR nv ov oc ns L)(ok:Q5 L)(c:Zc)(dv:V)(hc:Ye c dv)(hk:c.kind=16)(obj:Int)(h0:0<=obj)(h1:obj<16)(hb0:inR c.b=true):
 Fz Tryz.prog Qv 26 [.agg (Qk id L.snap L.owner L.prev ky nv ov),.agg (Qf c dv),.int .i64 obj] fun r=>∃nv' ov' oc' ns',r= .agg (Qk id L.snap L.owner L.prev ky nv' ov')/\LnR nv' ov' oc' ns' (Z6 L c obj):=by
 refine Jx Tryz.func26 rfl ?_;have s1:=Qz h.n;have s2:=Qz h.o;have s3:=Qz hc.data;have p1:=Ql.pure h.n;have p2:=Ql.pure h.o;have p3:=Ql.pure hc.data;have hlen:=h.len ok;have tc:=Qee [.int .i64 0,.bool false,.int .i64 0,.int .i64 0,.int .i64 0,.nS,.nS] id ky nv ov oc ns L h ok (fun _=>rfl);obtain⟨kind,a,b,cc,name,as_,text,data⟩:=c;simp only at hk hb0;subst hk;simp only[wA,↓Qc,simprocAttr,Tryz.ntmps26,Qk,Qf,s1,s2,s3,p1,p2,p3,V.pure,Zgp,ta,wH,wB];refine W.call tc rfl rfl rfl rfl rfl ?_;rintro _ _ ⟨nv1,oc1,rfl,hL,hl,rfl⟩;obtain⟨ob,ra,hb⟩:=hL.ra ok h0 h1;have t1:=Qz hL.n;have t2:=Ql.cells hL.n;have t3:=Qz hb;have t4:=Ql.cells hb;have ia:=Qpm h0 h1;have c48:obj.toNat*3+3<=48:=by omega
 have ci:obj.toNat<L.objs.length:=by rw[ok.n16];omega
 have fo:=fun g m=>hL.c.frzL g (m+1);have eU:=ok.uniq;have hb1:0<=b/\b<=3840:=by simpa [inR] using hb0
 obtain⟨BB,rfl⟩:=Int.eq_ofNat_of_zero_le hb1.1;have ll:=hb.len Tryz.underlying24;have u:=Tryz.underlying24;have cB:0<=(BB:Int):=Int.natCast_nonneg BB;have ro:Qa1 BB 1=true:=Jb (by omega) (by omega);have lm:∀g,Qaw Tryz.prog g 24 (.mS 0 153 0 BB (some BB) 1)=some (.int .i64 BB):=fun g=>by simp only[Qaw,u]
 have hdl:=ok.dat obj;generalize hD:(L.ob obj).data=D at*;simp only[wA,↓Qc,simprocAttr,u,Qe5,ro,cB,Int.le_refl,and_self,Zhj,Qrk,Qk,t1,t2,t3,t4,Qj,Qy,Q3,Qh,Q4,Qi,ia,ra,hl,c48,s1,s2,s3,V.pure,Zgp,ta,wH,wB];refine W.ul ?_;refine W.loopS (kt:=[2,6,7,8,11,12]) rfl (fun i:Nat=>Qzg (.int .i64 obj) (.ptr 0 6 0) (.ptr 0 7 0) (.ptr 0 8 0) (.mS 0 153 0 BB (some BB) 1) (.int .i64 i)) (fun i=>[[(6,.cells zLn),(7,.cells [.int .i64 id,.bool L.snap,.int .i64 L.owner,.int .i64 L.prev,.int .i64 ky,nv1,.mg 1 37 16 3]),(8,.cells [.int .u8 (L.ob obj).kind,.int .i64 (L.ob obj).links,ob]),(153,.cells (wrX (Jg D BB) BB i))],[(2,.cells [.int .i64 id,.bool L.snap,.int .i64 L.owner,.int .i64 L.prev,.int .i64 ky,nv1,.mg 1 37 16 3]),(3,.cells [.int .i64 id,.bool L.snap,.int .i64 L.owner,.int .i64 L.prev,.int .i64 ky,nv1,.mg 1 37 16 3]),(37,.mgrow oc1 16)]]) (fun i=>i<=BB/\i<=D.length) (fun i=>BB-i) ?_ 0 ⟨by omega,by omega⟩ rfl (by rw[Qvc];rfl);rintro i ⟨hi1,hi2⟩;simp only[Qzg];have wi:(IntKind.i64).wrap ((i:Int)+1)=((i+1:Nat):Int):=by rw[wrap_i64]<;>omega
 have key:(i<BB/\i<D.length)\/¬(i<BB/\i<D.length):=Classical.em _;rcases key with⟨q1,q2⟩|q
 . have c1:decide ((i:Int)<(BB:Int))=true:=Zig (by omega);have c2:decide ((i:Int)<(D.length:Int))=true:=Zig (by omega);have at2:=hb.at (k:= .i64) u sz5 (by decide) (i:=(i:Int)) (by omega) (by omega);have g1:(Qp D)[(i:Int).toNat]?=some (.int .u8 D[i].toNat):=by
    have hx:(i:Int).toNat=i:=rfl;rw[hx];unfold Qp;rw[Zhx,Ze3 q2];rfl
   have g2:(Qp D)[(i:Int).toNat*1]?=some (.int .u8 D[i].toNat):=by rw[Zgd];exact g1
   have ix:Zs Tryz.prog 24 (.mS 0 153 0 BB (some BB) 1) (.int .i64 i)=some (.ptr 0 153 i):=by simp only[Zs,u,sz5];rw[if_pos ⟨by omega,by omega,by first|rfl|trivial⟩];simp
   have hs:=Qy1 (W:=Jg D BB) (n:=BB) (i:=i) (x:=D[i]) (Qgj D BB) q1 (by rw[Qrb q1,List.getD,Ze3 q2];rfl);have hxl:=Qzn (W:=Jg D BB) (n:=BB) (i:=i) (Qgj D BB) (by omega);have cxi:i+1<=BB:=by omega
   have hs' :List.take i (wrX (Jg D BB) BB i)++[.int .u8 D[i].toNat]++List.drop (i+1) (wrX (Jg D BB) BB i)=wrX (Jg D BB) BB (i+1):=hs;simp only[wA,↓Qc,simprocAttr,c1,c2,at2,g1,g2,ix,ll,lm,hxl,cxi,u,Qk,t1,t2,t3,t4,Qj,Qy,Q3,Qh,Q4,Qi,ia,ra,hl,c48,s1,s2,s3,V.pure,Zgp,ta,wH,wB,wi];exact W.done ⟨i+1,rfl,by simp only[hs'],⟨by omega,by omega⟩,by omega⟩
 . have hx:wrX (Jg D BB) BB i=Qp (Jg D BB):=by
    by_cases q1:i=BB
    . rw[q1];exact Qza (Qgj D BB)
    . have e:i=D.length:=by omega
      unfold wrX Jg;rw[e,Zh0 (by rw[Zf9];omega),List.take_take,Zgb (by omega),Zhi (Ze8 _),Zhi (by omega)];simp[Qp,zb]
   rw[hx];by_cases q1:i<BB
   . have c1:decide ((i:Int)<(BB:Int))=true:=Zig (by omega);have c2:decide ((i:Int)<(D.length:Int))=false:=Zih (by omega);simp only[wA,↓Qc,simprocAttr,c1,c2,ll,lm,Qk,t1,t2,t3,t4,Qj,Qy,Q3,Qh,Q4,Qi,ia,ra,hl,c48,s1,s2,s3,V.pure,Zgp,ta,wH,wB];refine W.done ?_;simp only[wA,↓Qc,simprocAttr,zLn,Qpl,Qk,t1,t2,t3,t4,Qj,Qy,Q3,Qh,Q4,Qi,ia,ra,hl,c48,s1,s2,s3,V.pure,Zgp,ta,wH,wB];have hN:=hL.n;have hW:=Qgj D BB;have hfz:∀g:Get,g 0 153=some (.cells (Qp (Jg D BB)))->frzL (frz g 10) [.int .u8 (L.ob obj).kind,.int .i64 (L.ob obj).links,.mS 0 153 0 BB (some BB) 1]=some [.int .u8 (L.ob obj).kind,.int .i64 (L.ob obj).links,.iS (Qp (Jg D BB)) BB true]:=fun g hg=>by
      have:=Qx6 (m:=8) hg hW;simp only[frzL,this];rfl
     refine W.done (Zg.ret rfl (Qa9 (ys:=splice oc1 (obj.toNat*3) [.int .u8 (L.ob obj).kind,.int .i64 (L.ob obj).links,.iS (Qp (Jg D BB)) BB true]) hN rfl (by simp only[splice,Zfv,Zf9,Zga,hl,Zgz,Zg2];omega) (K9 (b' :=[.int .u8 (L.ob obj).kind,.int .i64 (L.ob obj).links,.iS (Qp (Jg D BB)) BB true]) (fo _ 8) (hfz _ rfl) rfl _)) ⟨_,_,_,_,rfl,hN,Ql.mk ?_,?_,hL.p,hL.r⟩)
     . simp only[splice,Zfv,Zf9,Zga,hl,Zgz,Zg2];omega
     . have hby:Qx (.iS (Qp (Jg D BB)) BB true) (Jg D BB):=by
        have:=Qx.mk (Jg D BB) true;rw[hW] at this;exact this
       have:=Xy.put (o:={L.ob obj with data:=(Jg D BB)}) hby obj.toNat ci hL.c;simp only[Z6,Qe.setOb];exact hD▸this
   . have c1:decide ((i:Int)<(BB:Int))=false:=Zih (by omega);simp only[wA,↓Qc,simprocAttr,c1,ll,lm,Qk,t1,t2,t3,t4,Qj,Qy,Q3,Qh,Q4,Qi,ia,ra,hl,c48,s1,s2,s3,V.pure,Zgp,ta,wH,wB];refine W.done ?_;simp only[wA,↓Qc,simprocAttr,zLn,Qpl,Qk,t1,t2,t3,t4,Qj,Qy,Q3,Qh,Q4,Qi,ia,ra,hl,c48,s1,s2,s3,V.pure,Zgp,ta,wH,wB];have hN:=hL.n;have hW:=Qgj D BB;have hfz:∀g:Get,g 0 153=some (.cells (Qp (Jg D BB)))->frzL (frz g 10) [.int .u8 (L.ob obj).kind,.int .i64 (L.ob obj).links,.mS 0 153 0 BB (some BB) 1]=some [.int .u8 (L.ob obj).kind,.int .i64 (L.ob obj).links,.iS (Qp (Jg D BB)) BB true]:=fun g hg=>by
      have:=Qx6 (m:=8) hg hW;simp only[frzL,this];rfl
     refine W.done (Zg.ret rfl (Qa9 (ys:=splice oc1 (obj.toNat*3) [.int .u8 (L.ob obj).kind,.int .i64 (L.ob obj).links,.iS (Qp (Jg D BB)) BB true]) hN rfl (by simp only[splice,Zfv,Zf9,Zga,hl,Zgz,Zg2];omega) (K9 (b' :=[.int .u8 (L.ob obj).kind,.int .i64 (L.ob obj).links,.iS (Qp (Jg D BB)) BB true]) (fo _ 8) (hfz _ rfl) rfl _)) ⟨_,_,_,_,rfl,hN,Ql.mk ?_,?_,hL.p,hL.r⟩)
     . simp only[splice,Zfv,Zf9,Zga,hl,Zgz,Zg2];omega
     . have hby:Qx (.iS (Qp (Jg D BB)) BB true) (Jg D BB):=by
        have:=Qx.mk (Jg D BB) true;rw[hW] at this;exact this
       have:=Xy.put (o:={L.ob obj with data:=(Jg D BB)}) hby obj.toNat ci hL.c;simp only[Z6,Qe.setOb];exact hD▸this
end
end Go.Proofs.YtmapmgfiamfocaaGreat
