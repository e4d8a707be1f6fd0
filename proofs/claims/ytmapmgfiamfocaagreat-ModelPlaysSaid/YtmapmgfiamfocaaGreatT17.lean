/- This file holds in one the texts YO4, YO5, YO6x, YO7, R1, R2, R3, R4, R5; each says at its head what it proves. -/
import Derived.Test.YtmapmgfiamfocaaGreatT14
import Derived.Test.YtmapmgfiamfocaaGreatT16
set_option linter.unusedSimpArgs false
set_option linter.unusedVariables false
namespace Go.Proofs.YtmapmgfiamfocaaGreat
section
set_option maxRecDepth 100000
open Go.AM Go.Mod
attribute [local irreducible] U W Zd
theorem Qr2(H:Qg)(a:Loc)(sn:Bool)(ow pr:Int)(l:List Ob)(hl:Qd H a.f a.s=some (.cells (Zd a sn ow pr l))):
 CR Tryz.prog Qv 62 [.ptr a.f a.s 0] H fun v H' =>v= .int .i64 (if sn then 202 else 0)/\Ch H H' []:=by
 refine Y2 Tryz.func62 rfl ?_;intro n K hn F;have A:=F.at_ hn hl;simp only[wA,↓Qc,simprocAttr,Tryz.ntmps62,ta,new,Qb,Qa,and_false,false_and,and_true,true_and,and_self,eq_self,Zfg,Zhc,A.get,A.ltK,Jn,Zhd];refine W.ite (fun h=>?_) (fun h=>?_)
 . subst h;simp only[wA,↓Qc,simprocAttr];exact W.done (Z2.ret (v:= .int .i64 202) rfl ⟨rfl,(F.ch hn (by first|rfl|simp only[Qa]) (fun f' s' h=>by first|rfl|simp only[Qb,Qa,F.lt,Zfc h,false_and,if_false,AM.lk, *,-hn]))⟩)
 . subst h;simp only[wA,↓Qc,simprocAttr];exact W.done (Z2.ret (v:= .int .i64 0) rfl ⟨rfl,(F.ch hn (by first|rfl|simp only[Qa]) (fun f' s' h=>by first|rfl|simp only[Qb,Qa,F.lt,Zfc h,false_and,if_false,AM.lk, *,-hn]))⟩)
theorem Qzd(H:Qg)(a:Loc)(L:Qe)(l:List Ob)(bs:List Nat)(clk:Nat)(hL:Xi H a L l bs clk)(name:Qq):
 CR Tryz.prog Qv 64 [.ptr a.f a.s 0,.str name] H fun v H' =>v= .int .i64 (Kj L.names name)/\Ch H H' []:=by
 refine Y2 Tryz.func64 rfl ?_;intro n K hn F;have A:=F.at_ hn hL.cells;have B:=F.at_ hn hL.names;have lk:=Bx (g:=Qd K) B.get name;have ln:=Q11 (g:=Qd K) B.get;simp only[wA,↓Qc,simprocAttr,Tryz.ntmps64,ta,new,Qb,Qa,and_false,false_and,and_true,true_and,and_self,eq_self,Zfg,Zhc,A.get,A.ltK,J0,Zhd,Zff,lk];refine W.ite (fun h=>?_) (fun h=>?_)
 . simp only[wA,↓Qc,simprocAttr];exact W.done (Z2.ret rfl ⟨by rw[Kj,h];rfl,(F.ch hn (by first|rfl|simp only[Qa]) (fun f' s' h=>by first|rfl|simp only[Qb,Qa,F.lt,Zfc h,false_and,if_false,AM.lk, *,-hn]))⟩)
 . simp only[wA,↓Qc,simprocAttr,ta,new,Qb,Qa,and_false,false_and,and_true,true_and,and_self,eq_self,Zfg,Zhc,A.get,A.ltK,J0,Zff,ln];refine W.ite (fun h2=>?_) (fun h2=>?_)
   . simp only[wA,↓Qc,simprocAttr];have h3:16<=L.names.length:=by have:=of_decide_eq_true h2;omega
     exact W.done (Z2.ret rfl ⟨by rw[Kj,h,if_pos h3];rfl,(F.ch hn (by first|rfl|simp only[Qa]) (fun f' s' h=>by first|rfl|simp only[Qb,Qa,F.lt,Zfc h,false_and,if_false,AM.lk, *,-hn]))⟩)
   . simp only[wA,↓Qc,simprocAttr];have h3:¬16<=L.names.length:=by have:=of_decide_eq_false h2;omega
     exact W.done (Z2.ret rfl ⟨by rw[Kj,h,if_neg h3];rfl,(F.ch hn (by first|rfl|simp only[Qa]) (fun f' s' h=>by first|rfl|simp only[Qb,Qa,F.lt,Zfc h,false_and,if_false,AM.lk, *,-hn]))⟩)
theorem Qln(H:Qg)(a:Loc)(L:Qe)(ok:Q5 L)(l:List Ob)(bs:List Nat)(clk:Nat)(hL:Xi H a L l bs clk)(name:Qq):
 CR Tryz.prog Qv 70 [.ptr a.f a.s 0,.str name] H fun v H' =>v= .tuple [.int .i64 (L.follow 9 name).1,.int .i64 (L.follow 9 name).2]/\Ch H H' []:=by
 refine Y2 Tryz.func70 rfl ?_;intro n K hn F;have A:=F.at_ hn hL.cells;have B:=F.at_ hn hL.names;simp only[wA,↓Qc,simprocAttr,Tryz.ntmps70,ta];refine W.ul ?_;refine W.loopS (kt:=[0,1,8]) rfl (fun x:Nat×Qq=>Q4z (.ptr a.f a.s 0) (.str x.2) (.int .i64 x.1)) (fun _=>K) (fun x=>x.1<=9/\L.follow (9-x.1) x.2=L.follow 9 name) (fun x=>9-x.1) ?_ (0,name) ⟨by simp,rfl⟩ rfl rfl;rintro⟨i,s⟩ ⟨hi,hg⟩;simp only at hi hg;simp only[Q4z];by_cases h:i<9
 . have c1:decide ((i:Int)<9)=true:=Zig (by omega);have lk:=Bx (g:=Qd K) B.get s;have w1:(IntKind.i64).wrap ((i:Int)+1)=((i+1:Nat):Int):=by rw[wrap_i64]<;>omega
   obtain⟨j,hj⟩:∃j,9-i=j+1:=⟨8-i,by omega⟩;rw[hj,Qe.follow] at hg;simp only[wA,↓Qc,simprocAttr,c1,ta,new,Qb,Qa,and_false,false_and,and_true,true_and,and_self,eq_self,Zfg,Zhc,A.get,A.ltK,J0,Zhd,Zff,lk];cases hs:Zb L.names s with
   |none=>
    rw[hs] at hg;simp only[wA,↓Qc,simprocAttr,Zgy,Zgo];refine W.done ?_;simp only[wA,↓Qc,simprocAttr];exact W.done (Z2.ret rfl ⟨by rw[<-hg];rfl,(F.ch hn (by first|rfl|simp only[Qa]) (fun f' s' h=>by first|rfl|simp only[Qb,Qa,F.lt,Zfc h,false_and,if_false,AM.lk, *,-hn]))⟩)
   |some m=>
    have hm:=ok.num hs;obtain⟨o,ho,hk,hlk,hd⟩:=hL.obs.at_ (ok.at_ (i:=m) (by omega) (by omega));have ia:Zs Tryz.prog 72 (.ptr a.f a.s 5) (.int .i64 m)=some (.ptr a.f a.s (5+m.toNat*3)):=by rw[Q5f Tryz.underlying72 sz71,if_pos (by constructor<;>omega)]
    rw[hs] at hg;simp only[wA,↓Qc,simprocAttr,Zhe,Zgi,Zhf,ta,new,Qb,Qa,and_false,false_and,and_true,true_and,and_self,eq_self,Zfg,Zhc,A.get,A.ltK,ia,Zhd,Zff,Qtd ho,hk];refine W.ite (fun h2=>?_) (fun h2=>?_)
    . have h3:¬(L.ob m).kind=3:=by simpa using h2
      simp only[h3,if_false] at hg;simp only[wA,↓Qc,simprocAttr];refine W.done ?_;simp only[wA,↓Qc,simprocAttr];exact W.done (Z2.ret rfl ⟨by rw[<-hg];rfl,(F.ch hn (by first|rfl|simp only[Qa]) (fun f' s' h=>by first|rfl|simp only[Qb,Qa,F.lt,Zfc h,false_and,if_false,AM.lk, *,-hn]))⟩)
    . have h3:(L.ob m).kind=3:=by simpa using h2
      simp only[h3,if_true] at hg;have tx:=Qh9 (g:=Qd K) hd;simp only[wA,↓Qc,simprocAttr,Zhe,Zgi,Zhf,ta,new,Qb,Qa,and_false,false_and,and_true,true_and,and_self,eq_self,Zfg,Zhc,A.get,A.ltK,ia,Zhd,Zff,Qgc ho,Qdm,tx,w1];refine W.done ⟨(i+1,(L.ob m).data),rfl,rfl,⟨by simp;omega,?_⟩,by simp;omega⟩;simp only;rw[show 9-(i+1)=j by omega];exact hg
 . have c1:decide ((i:Int)<9)=false:=Zih (by omega);have e:i=9:=by omega
   subst e;simp only[wA,↓Qc,simprocAttr,c1];refine W.done ?_;simp only[wA,↓Qc,simprocAttr];refine W.done (Z2.ret rfl ⟨by rw[<-hg];rfl,(F.ch hn (by first|rfl|simp only[Qa]) (fun f' s' h=>by first|rfl|simp only[Qb,Qa,F.lt,Zfc h,false_and,if_false,AM.lk, *,-hn]))⟩)
theorem Qwq(H:Qg)(a:Loc)(sn:Bool)(ow pr:Int)(l:List Ob)(hl:Qd H a.f a.s=some (.cells (Zd a sn ow pr l)))(e:Int)(g:FuncId)(caps:List V)(X:List (Nat×Nat×O)->Prop)(hp:Qv.prim g=none)
 (hq:Qv.pure 65 g=false)(hli:Qv.lift 65 g=false)(hlo:Qv.look 65 g=false)
 (hdo:Y1 e sn=0->∀K,Ch H K []->CR Tryz.prog Qv g caps K fun _ K' =>∃w,X w/\Ch K K' w)(hw:∀w,X w->∀x∈w,x.1<H.length):
 CR Tryz.prog Qv 65 [.ptr a.f a.s 0,.int .i64 e,.func (.func g) [] caps] H fun v H' =>v=Q7 (Y1 e sn)/\∃w,(Y1 e sn=0->X w)/\Ch H H' (if Y1 e sn=0 then w else[]):=by
 refine Y2 Tryz.func65 rfl ?_;intro n K hn F;have A:=F.at_ hn hl;simp only[wA,↓Qc,simprocAttr,Tryz.ntmps65,ta,new,Qb,Qa,and_false,false_and,and_true,true_and,and_self,eq_self,Zfg,Zhc,F.own,F.lt,wZ];refine W.ite (fun h=>?_) (fun h=>?_)
 . have he:e=0:=by simpa using h
   subst he;simp only[wA,↓Qc,simprocAttr];refine W.call (Qr2 _ a sn ow pr l (by simp only[Q8 F.lt A.ne,A.get])) rfl rfl rfl rfl rfl ?_;rintro v H1 ⟨rfl,c1⟩;have l1:=c1.lt (f:=n) (by simp only[Qa];exact F.lt);have o6:=(c1.own (f:=n) (s:=6) (by simp only[Qa];exact F.lt) (by simp)).trans (Qm F.lt);have low:∀f s,f<n->Qd H1 f s=Qd H f s:=fun f s h=>by rw[c1.get f s (by simp only[Qa];have:=F.lt;omega),lk,Q8 F.lt (by omega),F.low f s h]
   have ll:K.length<=H1.length:=by have:=c1.len;simp only[Qa] at this;exact this
   cases sn with
   |true=>
    simp only[wA,↓Qc,simprocAttr];refine W.pcall (Zz 202) rfl rfl rfl ?_;rintro _ rfl;simp only[wA,↓Qc,simprocAttr,Q7,ta,new,Qb,Qa,and_false,false_and,and_true,true_and,and_self,eq_self,Zfg,Zhc,l1,o6,splice,wZ];refine W.done (Z2.ret (Q1 rfl rfl (Qm (by first|exact F.lt|assumption|(simp only[Qa];first|exact F.lt|assumption))) (by rw[Jp];rfl)) ⟨rfl,[],(fun h=>nomatch h),F.ch' hn (by simp only[Qa];exact ll) (fun f' s' h=>?_)⟩);simp only[Q8 l1 (Zfc h),low f' s' h,F.low f' s' h];rfl
   |false=>
    simp only[wA,↓Qc,simprocAttr];refine W.call (hdo rfl H1 ⟨by omega,fun f s h=>by rw[low f s (by omega)];rfl⟩) hp hq rfl hli hlo ?_;rintro v H2 ⟨w,hX,c2⟩;have l2:=c2.lt (f:=n) l1;have o62:=(c2.own (f:=n) (s:=6) l1 (by intro x hx;have:=hw w hX x hx;omega)).trans o6;simp only[wA,↓Qc,simprocAttr,Q7,ta,new,Qb,Qa,and_false,false_and,and_true,true_and,and_self,eq_self,Zfg,Zhc,l2,o62,splice,wZ];refine W.done (Z2.ret (Q1 rfl rfl (Qm (by first|exact F.lt|assumption|(simp only[Qa];first|exact F.lt|assumption))) (by rw[Jp];rfl)) ⟨rfl,w,(fun _=>hX),F.ch' hn (by simp only[Qa];exact Ze9 ll c2.len) (fun f' s' h=>?_)⟩);rw[Q8 l2 (Zfc h),c2.get f' s' (by omega),low f' s' h,F.low f' s' h];rfl
 . have he:¬e=0:=by simpa using h
   have e2:(e !=0)=true:=by simpa using he
   have e3:Y1 e sn=e:=by simp only[Y1,he,if_false]
   simp only[wA,↓Qc,simprocAttr,e2];refine W.pcall (Zz e) rfl rfl rfl ?_;rintro _ rfl;simp only[wA,↓Qc,simprocAttr,Q7,ta,new,Qb,Qa,and_false,false_and,and_true,true_and,and_self,eq_self,Zfg,Zhc,F.lt,splice,wZ];rw[e3];refine W.done (Z2.ret (Q1 rfl rfl (Qm (by first|exact F.lt|assumption|(simp only[Qa];first|exact F.lt|assumption))) (by rw[Jp];rfl)) ⟨rfl,[],(fun h=>absurd h he),?_⟩);rw[if_neg he];exact(F.ch hn (by first|rfl|simp only[Qa]) (fun f' s' h=>by first|rfl|simp only[Qb,Qa,F.lt,Zfc h,false_and,if_false,AM.lk, *,-hn]))
def Qf(c:Zc)(dv:V):List V:=[.int .u8 c.kind,.int .i64 c.a,.int .i64 c.b,.int .i64 c.c,.str c.name,.str c.as_,.str c.text,dv]
def Y4(v:V)(r:Zi):Prop:=∃dv nv lv,v= .agg [.int .i64 r.err,.int .i64 r.id,dv,nv,.int .i64 r.info.obj,.int .u8 r.info.kind,.int .i64 r.info.links,.int .i64 r.info.size,.str r.info.to,lv]/\Qx dv r.data/\
 Ql 1 nv (r.names.map .str) r.names.length/\Y0 lv r.lines
theorem Zk(e:Int):Y4 (Q7 e) (Zl e):=⟨.nS,.nS,.nS,rfl,Qx.nil,Ql.nil,Y0.nil⟩
theorem Qcb{f s:Nat}{i:Int}(h0:0<=i)(h1:i<16):Zs Tryz.prog 72 (.ptr f s 5) (.int .i64 i)=some (.ptr f s (5+i.toNat*3)):=by rw[Q5f Tryz.underlying72 sz71,if_pos (by constructor<;>omega)]
theorem Qwa{g:Get}{nf ns:Nat}{l:List (Qq×Int)}{bs:List Nat}{clk:Nat}(h:g nf ns=some (.map (Xt l) bs clk)){s:Qq}(hs:Zb l s=none)(n:Int):
 updateV Tryz.prog g 69 (.map nf ns) (.str s) (.int .i64 n)=some (.val .bad (some (nf,ns,.map (Xt (l++[(s,n)])) (bs++[clk]) (clk+1)))):=by
 rw[Qpp Tryz.underlying69 Tryz.underlying9 h rfl (Qmc hs)];simp only[Xt,Zgw,Zfn,Zfo]
theorem Q3m(K:Qg)(q:Nat)(a:Loc)(L:Qe)(l:List Ob)(bs:List Nat)(clk:Nat)(hL:Xi K a L l bs clk)(c:Zc)(dv:V)(m:Int)(h0:0<=m)(h1:m<16)(o:Ob)(ho:l[m.toNat]?=some o)
 (hf:a.f<q)(hnf:a.nf<q)(g6:Qd K q 6=some (.cells [.int .i64 m]))(g2:Qd K q 2=some (.cells [.ptr a.f a.s 0]))(g3:Qd K q 3=some (.cells (Qf c dv)))(hs:Zb L.names c.as_=none):
 CR Tryz.prog Qv 66 [.ptr q 6 0,.ptr q 2 0,.ptr q 3 0] K fun _ K' =>Ch K K' [(a.f,a.s,.cells (Zd a L.snap L.owner L.prev (l.set m.toNat {o with links:=w64 (o.links+1)}))),(a.nf,a.ns,.map (Xt (L.names++[(c.as_,m)])) (bs++[clk]) (clk+1))]:=by
 refine Y2 Tryz.func66 rfl ?_;intro n J hn F;have A:=F.at_ hn hL.cells;have B:=F.at_ hn hL.names;have G6:=F.at_ hn g6;have G2:=F.at_ hn g2;have G3:=F.at_ hn g3;have ne1:=hL.ne1;have ne3:¬q=a.nf:=by omega
 simp only[wA,↓Qc,simprocAttr,Tryz.ntmps66,ta,new,Qb,Qa,and_false,false_and,and_true,true_and,and_self,eq_self,Zfg,Zhc,wZ,A.get,A.ltK,B.get,B.ltK,Jn,Jr,Jo,J8,J0,Zhd,Zff,Qf,G6.get,G2.get,G3.get,Qke ho,Qcb h0 h1,ne1,ne3,↓Qwa B.get hs,Qob ho];refine W.opsK (by kernel_rfl) ?_;simp only[wA,↓Qc,simprocAttr,ta,new,Qb,Qa,and_false,false_and,and_true,true_and,and_self,eq_self,Zfg,Zhc,wZ,A.get,A.ltK,B.get,B.ltK,Jn,Jr,Jo,J8,J0,Zhd,Zff,Qf,G6.get,G2.get,G3.get,Qke ho,Qcb h0 h1,ne1,ne3,Qob ho];refine W.opsK (by kernel_rfl) ?_;simp only[wA,↓Qc,simprocAttr];exact W.done (Z2.normal rfl (F.ch hn (by first|rfl|simp only[Qa]) (fun f' s' h=>by simp only[Qb,Qa,F.lt,A.ltK,B.ltK,w64,Zfc h,false_and,if_false,AM.lk])))
theorem Qtq:∀{l:List (Qq×Int)} {s:Qq} {k:Nat} {n:Int},Zb l s=some n->∃i,Qhb l s k=some (k+i)/\i<l.length/\l.eraseIdx i=J6 l s
 |[],_,_,_,h=>by cases h
 |p::l,s,k,n,h=>by
  simp only[Zb] at h;by_cases e:s=p.1
  . subst e;exact⟨0,by simp[Qhb],by simp,by simp[J6]⟩
  . rw[if_neg e] at h;obtain⟨i,h1,h2,h3⟩:=Qtq (k:=k+1) h;exact⟨i+1,by simp only[Qhb,e,if_false,h1];congr 1;omega,by simp;omega,by simp[J6,e,h3]⟩
theorem Q1u{l:List (Qq×Int)}{s:Qq}{n:Int}(h:Zb l s=some n):(J6 l s).length+1=l.length:=by obtain⟨i,_,h2,h3⟩:=Qtq (k:=0) h;rw[<-h3,List.length_eraseIdx,if_pos h2];omega
theorem Qro{α β:Type}(f:α->β):∀(l:List α) (i:Nat),(l.map f).eraseIdx i=(l.eraseIdx i).map f
 |[],_=>by simp
 |x::l,0=>rfl
 |x::l,i+1=>by simp[Qro f l i]
theorem Qrv{nf ns:Nat}{l:List (Qq×Int)}{bs:List Nat}{clk:Nat}(b:Qft l.length bs clk){s:Qq}{n:Int}(hs:Zb l s=some n):
 ∃bs',Qft (J6 l s).length bs' clk/\∀g:Get,g nf ns=some (.map (Xt l) bs clk)->X9 Tryz.prog g 69 (.map nf ns) (.str s)=some (.val (.tuple []) (some (nf,ns,.map (Xt (J6 l s)) bs' clk))):=by
 obtain⟨i,h1,h2,h3⟩:=Qtq (k:=0) hs;have hl:=Q1u hs;rw[Zff] at h1;refine⟨bs.eraseIdx i,?_,fun g h=>?_⟩
 . refine Qft.erase (n:=(J6 l s).length) (by rw[hl];exact b) (by omega)
 . simp only[X9,Tryz.underlying69,Tryz.underlying9,Yo,if_true,h,Qc0,h1,hs];rw[<-h3];simp only[Xt,Qro]
theorem Qun{l:List (Qq×Int)}{s s' :Qq}(h:Zb l s' =none):Zb (J6 l s) s' =none:=by
 rw[Qfs] at*
 induction l with
 |nil=>simp[J6]
 |cons p l ih=>
  simp only[Zfn,Zfi,not_or] at h;simp only[J6];split
  . exact h.2
  . simp only[Zfn,Zfi,not_or];exact⟨h.1,ih h.2⟩
theorem Qhx{P:Program}{mt:Nat->Bool}{fr:Nat}{g:Get}{d:Option Nat}{t:TypeId}{ts:List TypeId}{m k:V}:builtinV P mt fr g d .delete (t::ts).toArray [m,k]=X9 P g t m k:=rfl
def Qmk(o:Ob):Ob:=if w64 (o.links-1)=0 then⟨0,0,.nS⟩ else{o with links:=w64 (o.links-1)}
theorem Qxw(K:Qg)(q:Nat)(a:Loc)(L:Qe)(l:List Ob)(bs:List Nat)(clk:Nat)(hL:Xi K a L l bs clk)(c:Zc)(dv:V)(m:Int)(h0:0<=m)(h1:m<16)(o:Ob)(ho:l[m.toNat]?=some o)
 (hf:a.f<q)(hnf:a.nf<q)(g5:Qd K q 5=some (.cells [.int .i64 m]))(g2:Qd K q 2=some (.cells [.ptr a.f a.s 0]))(g3:Qd K q 3=some (.cells (Qf c dv)))
 (bs' :List Nat)(hs:∀g:Get,g a.nf a.ns=some (.map (Xt L.names) bs clk)->X9 Tryz.prog g 69 (.map a.nf a.ns) (.str c.name)=some (.val (.tuple []) (some (a.nf,a.ns,.map (Xt (J6 L.names c.name)) bs' clk)))):
 CR Tryz.prog Qv 67 [.ptr q 2 0,.ptr q 3 0,.ptr q 5 0] K fun _ K' =>Ch K K' [(a.f,a.s,.cells (Zd a L.snap L.owner L.prev (l.set m.toNat (Qmk o)))),(a.nf,a.ns,.map (Xt (J6 L.names c.name)) bs' clk)]:=by
 refine Y2 Tryz.func67 rfl ?_;intro n J hn F;have A:=F.at_ hn hL.cells;have B:=F.at_ hn hL.names;have G5:=F.at_ hn g5;have G2:=F.at_ hn g2;have G3:=F.at_ hn g3;have ne1:=hL.ne1;have ne3:¬q=a.nf:=by omega
 have ne4:¬q=a.f:=by omega
 have ho2:(l.set m.toNat {o with links:=(IntKind.i64).wrap (o.links-1)})[m.toNat]?=some {o with links:=(IntKind.i64).wrap (o.links-1)}:=by rw[List.getElem?_set,if_pos rfl,if_pos (Yw ho)]
 simp only[wA,↓Qc,simprocAttr,Tryz.ntmps67,ta,new,Qb,Qa,and_false,false_and,and_true,true_and,and_self,eq_self,Zfg,Zhc,wZ,A.get,A.ltK,B.get,B.ltK,Jn,Jr,Jo,J8,J0,Zhd,Zff,Qf,G5.get,G2.get,G3.get,Qhx,↓hs _ B.get];refine W.opsK (by kernel_rfl) ?_;simp only[wA,↓Qc,simprocAttr,ta,new,Qb,Qa,and_false,false_and,and_true,true_and,and_self,eq_self,Zfg,Zhc,wZ,A.get,A.ltK,B.get,B.ltK,Jn,Jr,Jo,J8,J0,Zhd,Zff,Qf,G5.get,G2.get,G3.get,Qke ho,Qcb h0 h1,ne1,ne3,ne4,Qob ho];refine W.opsK (by kernel_rfl) ?_;simp only[wA,↓Qc,simprocAttr,ta,new,Qb,Qa,and_false,false_and,and_true,true_and,and_self,eq_self,Zfg,Zhc,wZ,A.get,A.ltK,B.get,B.ltK,Jn,Jr,Jo,J8,J0,Zhd,Zff,Qf,G5.get,G2.get,G3.get,Qke ho2,Qcb h0 h1,ne1,ne3,ne4];refine W.opsK (by kernel_rfl) ?_;simp only[wA,↓Qc,simprocAttr];refine W.ite (fun hz=>?_) (fun hz=>?_)
 . have hz' :w64 (o.links-1)=0:=by simpa [w64] using hz
   have lv:Qmk o=⟨0,0,.nS⟩:=by rw[Qmk,if_pos hz']
   simp only[wA,↓Qc,simprocAttr,ta,new,Qb,Qa,and_false,false_and,and_true,true_and,and_self,eq_self,Zfg,Zhc,wZ,A.get,A.ltK,B.get,B.ltK,Jn,Jr,Jo,J8,J0,Zhd,Zff,Qf,G5.get,G2.get,G3.get,Qcb h0 h1,ne1,ne3,ne4,st_ob ho2];refine W.opsK (by kernel_rfl) ?_;simp only[wA,↓Qc,simprocAttr];rw[lv];exact W.done (Z2.normal rfl (F.ch hn (by simp only[Qa]) (fun f' s' h=>by
    simp only[Qb,Qa,F.lt,A.ltK,B.ltK,w64,Zfc h,false_and,if_false,lk,List.set_set]
    split<;>rfl)))
 . have hz' :¬w64 (o.links-1)=0:=by simpa [w64] using hz
   have lv:Qmk o={o with links:=w64 (o.links-1)}:=by rw[Qmk,if_neg hz']
   simp only[wA,↓Qc,simprocAttr];rw[lv];exact W.done (Z2.normal rfl (F.ch hn (by first|rfl|simp only[Qa]) (fun f' s' h=>by simp only[Qb,Qa,F.lt,A.ltK,B.ltK,w64,Zfc h,false_and,if_false,AM.lk])))
theorem Qya(K:Qg)(q:Nat)(a:Loc)(L:Qe)(l:List Ob)(bs:List Nat)(clk:Nat)(hL:Xi K a L l bs clk)(c:Zc)(dv:V)(m:Int)
 (hf:a.f<q)(hnf:a.nf<q)(g6:Qd K q 6=some (.cells [.int .i64 m]))(g2:Qd K q 2=some (.cells [.ptr a.f a.s 0]))(g3:Qd K q 3=some (.cells (Qf c dv)))
 (bs' :List Nat)(hs:∀g:Get,g a.nf a.ns=some (.map (Xt L.names) bs clk)->X9 Tryz.prog g 69 (.map a.nf a.ns) (.str c.name)=some (.val (.tuple []) (some (a.nf,a.ns,.map (Xt (J6 L.names c.name)) bs' clk))))
 (hn2:Zb (J6 L.names c.name) c.as_=none):
 CR Tryz.prog Qv 68 [.ptr q 2 0,.ptr q 3 0,.ptr q 6 0] K fun _ K' =>Ch K K' [(a.nf,a.ns,.map (Xt (J6 L.names c.name++[(c.as_,m)])) (bs' ++[clk]) (clk+1))]:=by
 refine Y2 Tryz.func68 rfl ?_;intro n J hn F;have A:=F.at_ hn hL.cells;have B:=F.at_ hn hL.names;have G6:=F.at_ hn g6;have G2:=F.at_ hn g2;have G3:=F.at_ hn g3;have ne1:=hL.ne1;have ne3:¬q=a.nf:=by omega
 simp only[wA,↓Qc,simprocAttr,Tryz.ntmps68,ta,new,Qb,Qa,and_false,false_and,and_true,true_and,and_self,eq_self,Zfg,Zhc,wZ,A.get,A.ltK,B.get,B.ltK,Jn,Jr,Jo,J8,J0,Zhd,Zff,Qf,G6.get,G2.get,G3.get,Qhx,↓hs _ B.get];refine W.opsK (by kernel_rfl) ?_;simp only[wA,↓Qc,simprocAttr,ta,new,Qb,Qa,and_false,false_and,and_true,true_and,and_self,eq_self,Zfg,Zhc,wZ,A.get,A.ltK,B.get,B.ltK,Jn,Jr,Jo,J8,J0,Zhd,Zff,Qf,G6.get,G2.get,G3.get,ne1,ne3,↓Qwa (Qm B.ltK) hn2];refine W.opsK (by kernel_rfl) ?_;simp only[wA,↓Qc,simprocAttr];exact W.done (Z2.normal rfl (F.ch hn (by simp only[Qa]) (fun f' s' h=>by
  simp only[Qb,Qa,F.lt,A.ltK,B.ltK,Zfc h,false_and,if_false,lk]
  split<;>rfl)))
theorem Qe5:byt Tryz.prog 5=some 1:=by kernel_rfl
theorem Qmf:∀n:Nat,zerosN [V.int .u8 0] n=Qp (List.replicate n 0)
 |0=>rfl
 |n+1=>by simp only[zerosN,Qmf n,List.replicate_succ];rfl
theorem Q5y(l:Qq)(n:Nat):(List.replicate n (0:UInt8)).take 0++l.take (min l.length n)++(List.replicate n (0:UInt8)).drop (0+min l.length n)=Jg l n:=by
 unfold Jg;rw[Zhg,Zhh,List.drop_replicate,Zff];by_cases h:l.length<=n
 . rw[Zgb h,Zhi (Ze8 _),Zhi h]
 . rw[Nat.min_eq_right (by omega)];congr 2;omega
theorem Q08(l:Qq)(n:Nat):l.take (min l.length n)++(List.replicate n (0:UInt8)).drop (min l.length n)=Jg l n:=by have:=Q5y l n;simpa only[Zhg,Zhh,Zff] using this
theorem Qby(l:Qq)(n:Nat):(Jg l n).length=n:=by simp[Jg];omega
theorem Qvw(H:Qg)(v:V)(l:Qq)(hv:Qx v l)(n:Nat)(hn0:n<=1000000):
 CR Tryz.prog Qv 73 [v,.int .i64 n] H fun r H' =>r= .mS H.length 7 0 n (some n) 1/\Qd H' H.length 7=some (.cells (Qp (Jg l n)))/\Ch H H' []:=by
 refine Y2 Tryz.func73 rfl ?_;intro q K hn F;have rm:Qa1 n 1=true:=Jb (by omega) (by omega);have c0:(0:Int)<=n:=by omega
 have cp:∀g:Get,g q 7=some (.cells (Qp (List.replicate n 0)))->Qgq Tryz.prog g 24 (.mS q 7 0 n (some n) 1) v=_:=fun g hg=>
  Qn4 Tryz.underlying24 sz5 hg (by simp) (Ql.sc hv) hv.notStr
 simp only[wA,↓Qc,simprocAttr,Tryz.ntmps73,ta,new,Qb,Qa,and_false,false_and,and_true,true_and,and_self,eq_self,Zfg,Zhc,wZ,F.own,F.lt,Tryz.underlying24,Qe5,c0,Int.le_refl,Zhj,rm,Qmf,Qzt,cp,Q08];refine W.done (Z2.ret rfl ?_);rw[Ym (by simp only[Zhk,Zhl,V.refs];simp)];refine⟨by rw[<-hn];rfl,by rw[<-hn];exact Qm (by first|exact F.lt|(simp only[Qa];exact F.lt)),by simp only[Qa];have:=F.len;omega,fun f' s' h=>?_⟩;simp only[Qb,Qa,F.lt,show¬f' =q by omega,false_and,if_false,lk];exact F.low f' s' (by omega)
theorem Q5n(v:V)(l:Qq)(hv:Qx v l)(n:Nat)(hn0:n<=1000000):Fz Tryz.prog Qv 73 [v,.int .i64 n] fun r=>Qx r (Jg l n):=by
 refine Fz.of_cr ((Qvw [] v l hv n hn0).mono ?_);rintro _ H' ⟨rfl,hg,_⟩;refine⟨_,Q0k (l:=Jg l n) hg ?_ ?_,?_⟩
 . rw[Zhm,Zhi];rw[Ja,Qby];exact Ze8 _
 . rw[Ja,Qby];omega
 . have:=Qx.mk (Jg l n) (some n==some n);rwa[Qby] at this
theorem Q68(K:Qg)(q:Nat)(a:Loc)(L:Qe)(ok:Q5 L)(l:List Ob)(bs:List Nat)(clk:Nat)(hL:Xi K a L l bs clk)(c:Zc)(dv:V)(m:Int)(h0:0<=m)(h1:m<16)(o:Ob)(ho:l[m.toNat]?=some o)(d:Qq)(hd:Qx o.data d)
 (n:Nat)(hc:c.b=n)(hb:n<=3840)
 (hf:a.f<q)(g5:Qd K q 5=some (.cells [.int .i64 m]))(g2:Qd K q 2=some (.cells [.ptr a.f a.s 0]))(g3:Qd K q 3=some (.cells (Qf c dv))):
 CR Tryz.prog Qv 74 [.ptr q 2 0,.ptr q 5 0,.ptr q 3 0] K fun _ K' =>∃v,Qx v (Jg d n)/\Ch K K' [(a.f,a.s,.cells (Zd a L.snap L.owner L.prev (l.set m.toNat {o with data:=v})))]:=by
 refine Y2 Tryz.func74 rfl ?_;intro r J hn F;have A:=F.at_ hn hL.cells;have B:=F.at_ hn hL.names;have G5:=F.at_ hn g5;have G2:=F.at_ hn g2;have G3:=F.at_ hn g3;simp only[wA,↓Qc,simprocAttr,Tryz.ntmps74,ta,new,Qb,Qa,and_false,false_and,and_true,true_and,and_self,eq_self,Zfg,Zhc,wZ,A.get,A.ltK,B.get,B.ltK,Jn,Jr,Jo,J8,J0,Zhd,Zff,Qf,G5.get,G2.get,G3.get,Qcb h0 h1,Qgc ho,hc];refine W.pcallT (Q5n o.data d hd n (by omega)) rfl rfl (Qt (hd.frz _) rfl) ?_;intro v hv;have cv:v.cells=some [v]:=by obtain⟨_,⟨rfl,_⟩|⟨f,rfl⟩⟩:=hv<;>rfl
 simp only[wA,↓Qc,simprocAttr,ta,new,Qb,Qa,and_false,false_and,and_true,true_and,and_self,eq_self,Zfg,Zhc,wZ,A.get,A.ltK,B.get,B.ltK,Jn,Jr,Jo,J8,J0,Zhd,Zff,Qf,G5.get,G2.get,G3.get,Qcb h0 h1,cv,Qto ho];refine W.opsK (by kernel_rfl) ?_;simp only[wA,↓Qc,simprocAttr];exact W.done (Z2.normal rfl ⟨v,hv,(F.ch hn (by first|rfl|simp only[Qa]) (fun f' s' h=>by simp only[Qb,Qa,F.lt,A.ltK,B.ltK,w64,Zfc h,false_and,if_false,AM.lk]))⟩)
theorem Qwo{a:Loc}{sn:Bool}{ow pr:Int}{l:List Ob}{i:Nat}{o:Ob}(h:l[i]?=some o)(v:V):(Zd a sn ow pr l).set (5+i*3+2) v=Zd a sn ow pr (l.set i {o with data:=v}):=by rw[<-Qp1 h v];have hl:=Yw h;rw[List.set_eq_take_append_cons_drop,if_pos (by rw[By];omega)];simp[splice]
theorem Q7o(xs m:Qq)(o:Nat)(h:o+m.length<=xs.length):xs.take o++m.take (min m.length (xs.length-o))++xs.drop (o+min m.length (xs.length-o))=over xs o m:=by rw[Zgb (by omega),Zhi (Ze8 _)];rfl
theorem Q4l(xs m:Qq)(o:Nat)(h:o+m.length<=xs.length):(over xs o m).length=xs.length:=by simp[over];omega
theorem Q1k(K:Qg)(q:Nat)(a:Loc)(L:Qe)(ok:Q5 L)(l:List Ob)(bs:List Nat)(clk:Nat)(hL:Xi K a L l bs clk)(c:Zc)(dv:V)(hdv:Qx dv c.data)(m:Int)(h0:0<=m)(h1:m<16)(o:Ob)(ho:l[m.toNat]?=some o)(d:Qq)(hd:Qx o.data d)
 (hdl:d.length<=3840)(n:Nat)(hc:c.c=n)(hb:n+c.data.length<=3840)
 (hf:a.f<q)(g5:Qd K q 5=some (.cells [.int .i64 m]))(g2:Qd K q 2=some (.cells [.ptr a.f a.s 0]))(g3:Qd K q 3=some (.cells (Qf c dv))):
 CR Tryz.prog Qv 72 [.ptr q 2 0,.ptr q 5 0,.ptr q 3 0] K fun _ K' =>∃v,Qx v (Qbg d n c.data)/\Ch K K' [(a.f,a.s,.cells (Zd a L.snap L.owner L.prev (l.set m.toNat {o with data:=v})))]:=by
 refine cr_ofS Tryz.func72 rfl ?_;intro r J hn F;have A:=F.at_ hn hL.cells;have B:=F.at_ hn hL.names;have G5:=F.at_ hn g5;have G2:=F.at_ hn g2;have G3:=F.at_ hn g3;have ln1:=hdv.len Tryz.underlying24;have ln2:=hd.len Tryz.underlying24;simp only[wA,↓Qc,simprocAttr,Tryz.ntmps72,ta,new,Qb,Qa,and_false,false_and,and_true,true_and,and_self,eq_self,Zfg,Zhc,wZ,A.get,A.ltK,B.get,B.ltK,Jn,Jr,Jo,J8,J0,Zhd,Zff,Qf,G5.get,G2.get,G3.get,Qcb h0 h1];refine W.opsK (by kernel_rfl) ?_;simp only[wA,↓Qc,simprocAttr,ta,new,Qb,Qa,and_false,false_and,and_true,true_and,and_self,eq_self,Zfg,Zhc,wZ,A.get,A.ltK,B.get,B.ltK,Jn,Jr,Jo,J8,J0,Zhd,Zff,Qf,G5.get,G2.get,G3.get,Qcb h0 h1,ln1];refine W.ite (fun hz=>?_) (fun hz=>?_)
 . have hz' :0<c.data.length:=by have:=of_decide_eq_true hz;omega
   have mx:(if(n:Int)+c.data.length>(d.length:Int) then(n:Int)+c.data.length else(d.length:Int))=((max d.length (n+c.data.length):Nat):Int):=by split<;>omega
   have w1:(IntKind.i64).wrap ((n:Int)+c.data.length)=(n:Int)+c.data.length:=by rw[wrap_i64]<;>omega
   simp only[wA,↓Qc,simprocAttr,ta,new,Qb,Qa,and_false,false_and,and_true,true_and,and_self,eq_self,Zfg,Zhc,wZ,A.get,A.ltK,B.get,B.ltK,Jn,Jr,Jo,J8,J0,Zhd,Zff,Qf,G5.get,G2.get,G3.get,Qcb h0 h1,ln1,ln2,Qgc ho,hc,w1,mx];refine W.callT (Qvw J o.data d hd (max d.length (n+c.data.length)) (by omega)) rfl rfl rfl rfl rfl ?_;rintro _ J2 ⟨rfl,g7,c2⟩;have hJ:J.length=r+1:=F.len;have lp:=Q9 g7;have a2:Qd J2 a.f a.s=_:=(c2.get a.f a.s A.ltK).trans A.get;have b5:Qd J2 q 5=_:=(c2.get q 5 G5.ltK).trans G5.get;have b2:Qd J2 q 2=_:=(c2.get q 2 G2.ltK).trans G2.get;have b3:Qd J2 q 3=_:=(c2.get q 3 G3.ltK).trans G3.get;have al:a.f<J2.length:=by have:=A.ltK;omega
   have ne4:¬q=a.f:=by omega
   generalize hN:max d.length (n+c.data.length)=N at*;generalize hp:J.length=p at*;have ne5:¬p=a.f:=by have:=A.lt;omega
   have ho2:(l.set m.toNat {o with data:= .mS p 7 0 N (some N) 1})[m.toNat]?=some {o with data:= .mS p 7 0 N (some N) 1}:=by rw[List.getElem?_set,if_pos rfl,if_pos (Yw ho)]
   have cf:=Q26 (P:=Tryz.prog) (u:=24) Tryz.underlying24 sz5 (f:=p) (s:=7) (o:=0) (len:=N) (c:=N) (w:=n) (k:= .i64) (by omega) (by omega);rw[if_neg (show¬N=n by omega)] at cf;have cp:∀g:Get,g p 7=some (.cells (Qp (Jg d N)))->Qgq Tryz.prog g 24 (.mS p 7 (0+n*1) (N-n) (some (N-n)) 1) dv=some (.val (.int .i64 (min c.data.length (N-n):Nat)) (some (p,7,.cells (Qp (over (Jg d N) n c.data))))):=fun g hg=>by rw[Qn4 Tryz.underlying24 sz5 hg (by rw[Qby];omega) (Ql.sc hdv) hdv.notStr];have:=Q7o (Jg d N) c.data n (by rw[Qby];omega);rw[Qby] at this;rw[Zff,Zgd,this]
   simp only[wA,↓Qc,simprocAttr,ta,new,Qb,Qa,and_false,false_and,and_true,true_and,and_self,eq_self,Zfg,Zhc,wZ,Jn,Jr,Jo,J8,J0,Zhd,Zff,Qf,a2,b5,b2,b3,al,Qcb h0 h1,Qto ho];refine W.opsK (by kernel_rfl) ?_;have g72:Qd (Qs J2 a.f a.s (.cells (Zd a L.snap L.owner L.prev (l.set m.toNat {o with data:= .mS p 7 0 N (some N) 1})))) p 7=some (.cells (Qp (Jg d N))):=by rw[Q8 al ne5];exact g7
   simp only[wA,↓Qc,simprocAttr,ta,new,Qb,Qa,and_false,false_and,and_true,true_and,and_self,eq_self,Zfg,Zhc,Qf,al,b3,ne4,Qgc ho2,hc,↓cf,Qzt,↓cp _ g72];refine W.opsK (by kernel_rfl) ?_;simp only[wA,↓Qc,simprocAttr];have hov:(over (Jg d N) n c.data).length=N:=by rw[Q4l _ _ _ (by rw[Qby];omega),Qby]
   have l1:a.f<(Qs (Qs J2 a.f a.s (.cells (Zd a L.snap L.owner L.prev (l.set m.toNat {o with data:= .mS p 7 0 N (some N) 1})))) p 7 (.cells (Qp (over (Jg d N) n c.data)))).length:=by simp only[Qa];exact al
   have l2:p<(Qs J2 a.f a.s (.cells (Zd a L.snap L.owner L.prev (l.set m.toNat {o with data:= .mS p 7 0 N (some N) 1})))).length:=by simp only[Qa];exact lp
   have se:=fun t ht=>Qx0 (t:=t) (k:=32) (H:=Qs (Qs J2 a.f a.s (.cells (Zd a L.snap L.owner L.prev (l.set m.toNat {o with data:= .mS p 7 0 N (some N) 1})))) p 7 (.cells (Qp (over (Jg d N) n c.data))))
    (f:=a.f) (s:=a.s) (o:=5+m.toNat*3+2) (f1:=p) (s1:=7) (o1:=0) (len:=N) (esz:=1) (cap:=some N) ht
    (by rw[Q8 l2 (fun e=>ne5 e.symm),Qm al]) (Qgc ho2) (Qm l2) (by rw[Ja,hov];omega) (X6 _) (fun e=>ne5 e.1.symm)
   have e1:Qbg d n c.data=over (Jg d N) n c.data:=by rw[Qbg,if_neg (by omega),hN]
   have e2:(Qp (over (Jg d N) n c.data)).take (N*1)=Qp (Qbg d n c.data):=by rw[Zhi (by rw[Ja,hov];omega),e1]
   have e3:(Qbg d n c.data).length=N:=by rw[e1];exact hov
   refine W.done ⟨_,by
    show Bc [32] _ _=_;simp only[Bc]
    rw[se _ rfl],Z2.ret rfl ⟨.iS (Qp (Qbg d n c.data)) N (some N==some N),?_,?_⟩⟩
   . have:=Qx.mk (Qbg d n c.data) (some N==some N);rwa[e3] at this
   . rw[<-e2];refine F.ch' hn (by simp only[Qa];omega) (fun f' s' h=>?_);have e4:=Qwo (a:=a) (sn:=L.snap) (ow:=L.owner) (pr:=L.prev) ho2 (.iS ((Qp (over (Jg d N) n c.data)).take (N*1)) N (some N==some N));simp only[List.set_set] at e4;simp only[Zhm,e4];have f1:¬f' =p:=by omega
     simp only[Qb,Qa,al,lp,f1,false_and,if_false,lk];split
     . rfl
     . rw[c2.get f' s' (by omega)];rfl
 . have hz' :c.data.length=0:=by have:=of_decide_eq_false hz;omega
   simp only[wA,↓Qc,simprocAttr];have hw:Qbg d n c.data=d:=by rw[Qbg,if_pos hz']
   have hst:l.set m.toNat {o with data:=o.data}=l:=by obtain⟨hl,rfl⟩:=Zf0.1 ho;exact List.set_getElem_self hl
   refine W.done ⟨J,rfl,Z2.ret rfl ⟨o.data,by rw[hw];exact hd,?_⟩⟩;rw[hst];refine F.ch hn rfl (fun f' s' h=>?_);simp only[lk];split
   . rename_i e;obtain⟨rfl,rfl⟩:=e;exact A.get
   . rfl
structure Qhn(H H' :Qg)(a:Loc):Prop where
 len:H.length<=H'.length
 get:∀f s,f<H.length->¬(f=a.f/\s=a.s)->¬(f=a.nf/\s=a.ns)->Qd H' f s=Qd H f s
structure Ye(c:Zc)(dv:V):Prop where
 data:Qx dv c.data
 name:c.name.length<=100000
 as_:c.as_.length<=100000
 text:c.text.length<=100000
 dlen:c.data.length<=100000
theorem Ql.scalar{esz n:Nat}{v:V}{cells:List V}(h:Ql esz v cells n):v.scalar=true:=by obtain⟨_,⟨rfl,_⟩|⟨f,rfl⟩⟩:=h<;>rfl
theorem Ql.cells{esz n:Nat}{v:V}{cells:List V}(h:Ql esz v cells n):v.cells=some [v]:=by obtain⟨_,⟨rfl,_⟩|⟨f,rfl⟩⟩:=h<;>rfl
def Qgw(f:FuncId)(g:Qe->Zc->Qe×Zi):Prop:=∀(H:Qg) (a:Loc) (L:Qe) (c:Zc) (dv:V),Q5 L->Yn H a L->Ye c dv->
 CR Tryz.prog Qv f [.ptr a.f a.s 0,.agg (Qf c dv)] H fun v H' =>Y4 v (g L c).2/\Yn H' a (g L c).1/\Qhn H H' a
theorem Xi.low{H K:Qg}{a:Loc}{L:Qe}{l:List Ob}{bs:List Nat}{clk:Nat}(h:Xi H a L l bs clk)(hk:∀f s,f<H.length->Qd K f s=Qd H f s):Xi K a L l bs clk:=
 ⟨h.obs,(hk _ _ (Q9 h.cells)).trans h.cells,(hk _ _ (Q9 h.names)).trans h.names,h.born⟩
theorem Xi.ch{H K:Qg}{a:Loc}{L:Qe}{l:List Ob}{bs:List Nat}{clk:Nat}(h:Xi H a L l bs clk)(c:Ch H K []):Xi K a L l bs clk:=h.low fun f s hf=>c.get f s hf
theorem line_upd{H H' :Qg}{a:Loc}{L' :Qe}{l' :List Ob}{bs' :List Nat}{clk' :Nat}{w:List (Nat×Nat×O)}(hf:a.f<H.length)(hnf:a.nf<H.length)(c:Ch H H' w)(hw:∀x∈w,(x.1=a.f/\x.2.1=a.s)\/(x.1=a.nf/\x.2.1=a.ns))
 (h1:lk a.f a.s w (Qd H a.f a.s)=some (.cells (Zd a L'.snap L'.owner L'.prev l')))(h2:lk a.nf a.ns w (Qd H a.nf a.ns)=some (.map (Xt L'.names) bs' clk'))(ob:Qfa l' L'.objs)(bo:Qft L'.names.length bs' clk'):Yn H' a L' /\Qhn H H' a:=by
 refine⟨⟨l',bs',clk',ob,(c.get _ _ hf).trans h1,(c.get _ _ hnf).trans h2,bo⟩,c.len,fun f s hlt n1 n2=>c.other rfl hlt fun x hx=>?_⟩;rcases hw x hx with⟨e1,e2⟩|⟨e1,e2⟩
 . rw[e1,e2];exact n1
 . rw[e1,e2];exact n2
theorem Bf{H H' :Qg}{a:Loc}{L:Qe}{l:List Ob}{bs:List Nat}{clk:Nat}(hL:Xi H a L l bs clk)(c:Ch H H' []):Yn H' a L/\Qhn H H' a:=
 line_upd (Q9 hL.cells) (Q9 hL.names) c (by simp) hL.cells hL.names hL.obs hL.born
theorem Ch.fin{H K2 K3:Qg}{n s:Nat}{v:V}{o:O}{w:List (Nat×Nat×O)}(hn:n=H.length)(low:∀f s,f<n->Qd K2 f s=Qd H f s)(h2:n<K2.length)(c:Ch K2 K3 w):Ch H (Yb n v (Qs K3 n s o)) w:=by have h3:n<K3.length:=Zfa h2 c.len;subst hn;refine⟨Qbc (by simp only[Qa];omega),fun f s h=>?_⟩;rw[Xm h,Q8 h3 (by omega),c.get f s (by omega),low f s h]
theorem Qlt{e:Int}{sn:Bool}(h:Y1 e sn=0):e=0/\sn=false:=by
 unfold Y1 at h;split at h
 . rename_i he;cases sn with
   |true=>simp at h
   |false=>exact⟨he,rfl⟩
 . rename_i he;exact absurd h he
theorem Qe1{H H' :Qg}{a:Loc}{L:Qe}{l:List Ob}{bs:List Nat}{clk:Nat}(hL:Xi H a L l bs clk){e:Int}{L' :Qe}{w:List (Nat×Nat×O)}(c:Ch H H' (if Y1 e L.snap=0 then w else[]))
 (h:e=0->Y1 e L.snap=0->Ch H H' w->Yn H' a L' /\Qhn H H' a):Y4 (Q7 (Y1 e L.snap)) (L.turn e L').2/\Yn H' a (L.turn e L').1/\Qhn H H' a:=by
 unfold Qe.turn;by_cases hz:Y1 e L.snap=0
 . rw[if_pos hz] at c⊢;rw[hz];exact⟨Zk 0,h (Qlt hz).1 hz c⟩
 . rw[if_neg hz] at c⊢;exact⟨Zk _,Bf hL c⟩
theorem Qlw(n:Nat)(K2:Qg)(a:Loc)(sn:Bool)(ow pr:Int)(l:List Ob)(hl:Qd K2 a.f a.s=some (.cells (Zd a sn ow pr l)))(e:Int)(g:FuncId)(caps:List V)(X:List (Nat×Nat×O)->Prop)(hp:Qv.prim g=none)
 (hq:Qv.pure 65 g=false)(hli:Qv.lift 65 g=false)(hlo:Qv.look 65 g=false)(hlt:n<K2.length)(hw:∀w,X w->∀x∈w,x.1<n)
 (hdo:e=0->sn=false->∀J,Ch K2 J []->CR Tryz.prog Qv g caps J fun _ J' =>∃w,X w/\Ch J J' w):
 CR Tryz.prog Qv 65 [.ptr a.f a.s 0,.int .i64 e,.func (.func g) [] caps] K2 fun v K3=>v=Q7 (Y1 e sn)/\(∃w,(Y1 e sn=0->X w)/\Ch K2 K3 (if Y1 e sn=0 then w else[]))/\n<K3.length/\∀s,Qd K3 n s=Qd K2 n s:=by
 refine(Qwq K2 a sn ow pr l hl e g caps X hp hq hli hlo (fun hz=>hdo (Qlt hz).1 (Qlt hz).2) (fun w hX x hx=>by have:=hw w hX x hx;omega)).mono ?_;rintro v K3 ⟨hv,w,hX,hc⟩;refine⟨hv,⟨w,hX,hc⟩,hc.lt hlt,fun s=>hc.own hlt ?_⟩;split
 . rename_i hz;exact hw w (hX hz)
 . simp
theorem Qoy(n:Nat)(K2:Qg)(a:Loc)(sn:Bool)(ow pr:Int)(l:List Ob)(hl:Qd K2 a.f a.s=some (.cells (Zd a sn ow pr l)))(e:Int)(g:FuncId)(caps:List V)(w:List (Nat×Nat×O))(hp:Qv.prim g=none)
 (hq:Qv.pure 65 g=false)(hli:Qv.lift 65 g=false)(hlo:Qv.look 65 g=false)(hlt:n<K2.length)(hw:∀x∈w,x.1<n)
 (hdo:e=0->sn=false->∀J,Ch K2 J []->CR Tryz.prog Qv g caps J fun _ J' =>Ch J J' w):
 CR Tryz.prog Qv 65 [.ptr a.f a.s 0,.int .i64 e,.func (.func g) [] caps] K2 fun v K3=>v=Q7 (Y1 e sn)/\Ch K2 K3 (if Y1 e sn=0 then w else[])/\n<K3.length/\∀s,Qd K3 n s=Qd K2 n s:=by
 refine(Qlw n K2 a sn ow pr l hl e g caps (fun w' =>w' =w) hp hq hli hlo hlt (fun w' h=>by subst h;exact hw) (fun h1 h2 J cj=>(hdo h1 h2 J cj).mono fun _ J' h=>⟨w,rfl,h⟩)).mono ?_;rintro v K3 ⟨hv,⟨w',hX,hc⟩,h3,h4⟩;refine⟨hv,?_,h3,h4⟩;by_cases hz:Y1 e sn=0
 . rw[hX hz] at hc;exact hc
 . rw[if_neg hz] at hc⊢;exact hc
theorem low2{a:Loc}{n:Nat}{o o' :O}(h1:a.f<n)(h2:a.nf<n):∀x∈([(a.f,a.s,o),(a.nf,a.ns,o')]:List (Nat×Nat×O)),x.1<n:=by intro x hx;simp only[Zfi,Zgm,or_false] at hx;rcases hx with rfl|rfl<;>assumption
theorem low1{a:Loc}{n:Nat}{o:O}(h1:a.f<n):∀x∈([(a.f,a.s,o)]:List (Nat×Nat×O)),x.1<n:=by intro x hx;simp only[Zfi,Zgm,or_false] at hx;rcases hx with rfl;assumption
theorem low1' {a:Loc}{n:Nat}{o:O}(h1:a.nf<n):∀x∈([(a.nf,a.ns,o)]:List (Nat×Nat×O)),x.1<n:=by intro x hx;simp only[Zfi,Zgm,or_false] at hx;rcases hx with rfl;assumption
theorem link_l:Qgw 40 Qe.link:=by
 rintro H a L c dv ok ⟨l,bs,clk,hL⟩ hc;refine Y2 Tryz.func40 rfl ?_;intro n K hn F;have A:=F.at_ hn hL.cells;have B:=F.at_ hn hL.names;have sdv:=Ql.scalar hc.data;have lk:=fun g h=>Bx (g:=g) (nf:=a.nf) (ns:=a.ns) (l:=L.names) (bs:=bs) (clk:=clk) h c.name;generalize hm:(Zb L.names c.name).getD 0=m at*;have hm0:0<=m/\m<16:=by
  cases h:Zb L.names c.name with
  |none=>rw[h] at hm;simp at hm;omega
  |some x=>rw[h] at hm;simp at hm;subst hm;have:=ok.num h;omega
 obtain⟨o,ho,hk,hlk,hd⟩:=hL.obs.at_ (ok.at_ hm0.1 hm0.2)
 let w:List (Nat×Nat×O):=[(a.f,a.s,.cells (Zd a L.snap L.owner L.prev (l.set m.toNat {o with links:=w64 (o.links+1)}))),(a.nf,a.ns,.map (Xt (L.names++[(c.as_,m)])) (bs++[clk]) (clk+1))]
 have fin:∀K2:Qg,n<K2.length->(∀f s,f<n->Qd K2 f s=Qd H f s)->Qd K2 n 6=some (.cells [.int .i64 m])->Qd K2 n 2=some (.cells [.ptr a.f a.s 0])->Qd K2 n 3=some (.cells (Qf c dv))->∀e,e=Qfm L c->
  CR Tryz.prog Qv 65 [.ptr a.f a.s 0,.int .i64 e,.func (.func 66) [] [.ptr n 6 0,.ptr n 2 0,.ptr n 3 0]] K2 fun v K3=>v=Q7 (Y1 (Qfm L c) L.snap)/\Ch K2 K3 (if Y1 (Qfm L c) L.snap=0 then w else[])/\n<K3.length/\∀s,Qd K3 n s=Qd K2 n s:=by
  intro K2 hlt low g6 g2 g3 e he;subst he;have hL2:=hL.low (K:=K2) (by rw[<-hn];exact low);refine Qoy n K2 a L.snap L.owner L.prev l hL2.cells _ _ _ w rfl rfl rfl rfl hlt (low2 A.lt B.lt) (fun hz _ J cj=>?_);refine(Q3m J n a L l bs clk (hL2.ch cj) c dv m hm0.1 hm0.2 o ho A.lt B.lt ((cj.get _ _ hlt).trans g6) ((cj.get _ _ hlt).trans g2) ((cj.get _ _ hlt).trans g3) ?_);unfold Qfm at hz;split at hz
  . rename_i h;exact absurd hz h
  . split at hz
    . cases hz
    . split at hz
      . cases hz
      . unfold Kj at hz;cases h:Zb L.names c.as_ with
        |none=>rfl
        |some x=>rw[h] at hz;simp at hz
 have conc:∀H',Ch H H' (if Y1 (Qfm L c) L.snap=0 then w else[])->Y4 (Q7 (Y1 (Qfm L c) L.snap)) (L.link c).2/\Yn H' a (L.link c).1/\Qhn H H' a:=by
  intro H' hch;refine Qe1 hL hch fun _ _ h=>?_;rw[hm];refine line_upd (Q9 hL.cells) (Q9 hL.names) h ?_ (l' :=l.set m.toNat {o with links:=w64 (o.links+1)}) (bs' :=bs++[clk]) (clk' :=clk+1) ?_ ?_ ?_ ?_
  . intro x hx;simp only[w,Zfi,Zgm,or_false] at hx;rcases hx with rfl|rfl<;>simp
  . simp only[w,AM.lk,and_self,if_true,Qe.setOb]
  . simp only[w,AM.lk,hL.ne2,and_self,if_true,if_false]
  . exact hL.obs.set _ ⟨hk,by simp only[hlk],hd⟩
  . simp only[Zfv,Zgz,Zg2];exact hL.born.add
 simp only[wA,↓Qc,simprocAttr,Tryz.ntmps40,ta,new,Qb,Qa,and_false,false_and,and_true,true_and,and_self,eq_self,Zfg,Zhc,wB,F.own,F.lt,Qf,sdv];refine W.pcall (Qko c.as_ (by have:=hc.as_;omega)) rfl rfl rfl ?_;rintro _ rfl;simp only[wA,↓Qc,simprocAttr,ta,new,Qb,Qa,and_false,false_and,and_true,true_and,and_self,eq_self,Zfg,Zhc,wB,F.own,F.lt,A.get,A.ltK,B.get,B.ltK,Jn,Jr,Jo,J8,J0,Zhd,Zff,Qf,A.ne,B.ne,↓lk,hm];refine W.opsC [(0,10),(3,10),(5,10),(6,10)] (by kernel_rfl) (by simp only[Qgd,Zhl,Zhk,Zgf,List.reverse_nil,Zhh,Zgh,and_true];refine⟨?_,?_,?_,?_⟩<;>(refine Qcg (by simp) (by simp) ?_;simp[Xr,Op.operands,rho,V.id?,A.ne,B.ne,Ne.symm A.ne,Ne.symm B.ne])) ?_;simp only[wA,↓Qc,simprocAttr];refine W.ite (fun h1=>?_) (fun h1=>?_)
 . have h1' :¬Kh c.as_=0:=by simpa using h1
   simp only[wA,↓Qc,simprocAttr,ta,new,Qb,Qa,and_false,false_and,and_true,true_and,and_self,eq_self,Zfg,Zhc,wB,F.own,F.lt];refine W.call (fin _ (by simp only[Qa];exact F.lt) (fun f s h=>by simp only[Qb,Qa,F.lt,Zfc h,false_and,if_false];exact F.low f s h) (by simp only[Qb,Qa,F.lt,and_self,and_true,and_false,true_and,eq_self,if_true,if_false,Nat.reduceEqDiff,Qf];try rfl) (by simp only[Qb,Qa,F.lt,and_self,and_true,and_false,true_and,eq_self,if_true,if_false,Nat.reduceEqDiff,Qf];try rfl) (by simp only[Qb,Qa,F.lt,and_self,and_true,and_false,true_and,eq_self,if_true,if_false,Nat.reduceEqDiff,Qf];try rfl) _ (by rw[Qfm,if_pos h1'])) rfl rfl rfl rfl rfl ?_;rintro _ K3 ⟨rfl,c3,l3,o3⟩;simp only[wA,↓Qc,simprocAttr,Q7,ta,new,Qb,Qa,and_false,false_and,and_true,true_and,and_self,eq_self,Zfg,Zhc,l3,o3,F.lt,splice,wZ];exact W.done (Z2.ret (Q1 rfl rfl (Qm (by first|exact F.lt|assumption|(simp only[Qa];first|exact F.lt|assumption))) (by rw[Jp];rfl)) (conc _ (Ch.fin hn (fun f s h=>by simp only[Qb,Qa,F.lt,Zfc h,false_and,if_false];exact F.low f s h) (by simp only[Qa];exact F.lt) c3)))
 . have h1' :Kh c.as_=0:=by simpa using h1
   cases hs:Zb L.names c.name with
   |none=>
    simp only[wA,↓Qc,simprocAttr,Zgy,ta,new,Qb,Qa,and_false,false_and,and_true,true_and,and_self,eq_self,Zfg,Zhc,wB,F.own,F.lt];refine W.call (fin _ (by simp only[Qa];exact F.lt) (fun f s h=>by simp only[Qb,Qa,F.lt,Zfc h,false_and,if_false];exact F.low f s h) (by simp only[Qb,Qa,F.lt,and_self,and_true,and_false,true_and,eq_self,if_true,if_false,Nat.reduceEqDiff,Qf];try rfl) (by simp only[Qb,Qa,F.lt,and_self,and_true,and_false,true_and,eq_self,if_true,if_false,Nat.reduceEqDiff,Qf];try rfl) (by simp only[Qb,Qa,F.lt,and_self,and_true,and_false,true_and,eq_self,if_true,if_false,Nat.reduceEqDiff,Qf];try rfl) _ (by rw[Qfm,if_neg (by simpa using h1'),hs])) rfl rfl rfl rfl rfl ?_;rintro _ K3 ⟨rfl,c3,l3,o3⟩;simp only[wA,↓Qc,simprocAttr,Q7,ta,new,Qb,Qa,and_false,false_and,and_true,true_and,and_self,eq_self,Zfg,Zhc,l3,o3,F.lt,splice,wZ];exact W.done (Z2.ret (Q1 rfl rfl (Qm (by first|exact F.lt|assumption|(simp only[Qa];first|exact F.lt|assumption))) (by rw[Jp];rfl)) (conc _ (Ch.fin hn (fun f s h=>by simp only[Qb,Qa,F.lt,Zfc h,false_and,if_false];exact F.low f s h) (by simp only[Qa];exact F.lt) c3)))
   |some x=>
    rw[hs] at hm;simp only[Zgi] at hm;subst hm;simp only[wA,↓Qc,simprocAttr,Zhe,ta,new,Qb,Qa,and_false,false_and,and_true,true_and,and_self,eq_self,Zfg,Zhc,wB,F.own,F.lt,A.ne,A.get,A.ltK,B.get,B.ltK,Jn,Jr,Jo,J8,J0,Zhd,Zff,Qf,Qcb hm0.1 hm0.2,Qtd ho,hk];refine W.opsK (by kernel_rfl) ?_;simp only[wA,↓Qc,simprocAttr];refine W.ite (fun h2=>?_) (fun h2=>?_)
    . have h2' :¬(L.ob x).kind=1:=by simpa using h2
      simp only[wA,↓Qc,simprocAttr,ta,new,Qb,Qa,and_false,false_and,and_true,true_and,and_self,eq_self,Zfg,Zhc,wB,F.own,F.lt];refine W.call (fin _ (by simp only[Qa];exact F.lt) (fun f s h=>by simp only[Qb,Qa,F.lt,Zfc h,false_and,if_false];exact F.low f s h) (by simp only[Qb,Qa,F.lt,and_self,and_true,and_false,true_and,eq_self,if_true,if_false,Nat.reduceEqDiff,Qf];try rfl) (by simp only[Qb,Qa,F.lt,and_self,and_true,and_false,true_and,eq_self,if_true,if_false,Nat.reduceEqDiff,Qf];try rfl) (by simp only[Qb,Qa,F.lt,and_self,and_true,and_false,true_and,eq_self,if_true,if_false,Nat.reduceEqDiff,Qf];try rfl) _ (by rw[Qfm,if_neg (by simpa using h1'),hs];simp only[if_pos h2'])) rfl rfl rfl rfl rfl ?_;rintro _ K3 ⟨rfl,c3,l3,o3⟩;simp only[wA,↓Qc,simprocAttr,Q7,ta,new,Qb,Qa,and_false,false_and,and_true,true_and,and_self,eq_self,Zfg,Zhc,l3,o3,F.lt,splice,wZ];exact W.done (Z2.ret (Q1 rfl rfl (Qm (by first|exact F.lt|assumption|(simp only[Qa];first|exact F.lt|assumption))) (by rw[Jp];rfl)) (conc _ (Ch.fin hn (fun f s h=>by simp only[Qb,Qa,F.lt,Zfc h,false_and,if_false];exact F.low f s h) (by simp only[Qa];exact F.lt) c3)))
    . have h2' :(L.ob x).kind=1:=by simpa using h2
      simp only[wA,↓Qc,simprocAttr,ta,new,Qb,Qa,and_false,false_and,and_true,true_and,and_self,eq_self,Zfg,Zhc,wB,F.own,F.lt,A.get,A.ltK,B.get,B.ltK,Jn,Jr,Jo,J8,J0,Zhd,Zff,Qf];refine W.call (Qzd _ a L l bs clk (hL.low (by rw[<-hn];exact(fun f s h=>by simp only[Qb,Qa,F.lt,Zfc h,false_and,if_false];exact F.low f s h))) c.as_) rfl rfl rfl rfl rfl ?_;rintro _ J ⟨rfl,cj⟩;have lj:n<J.length:=cj.lt (by simp only[Qa];exact F.lt);have lowj:∀f s,f<n->Qd J f s=Qd H f s:=fun f s h=>by rw[cj.get f s (by simp only[Qa];have:=F.lt;omega)];simp only[Qb,Qa,F.lt,Zfc h,false_and,if_false];exact F.low f s h
      have oj:=fun s=>cj.own (s:=s) (f:=n) (by simp only[Qa];exact F.lt) (by simp);simp only[wA,↓Qc,simprocAttr,ta,new,Qb,Qa,and_false,false_and,and_true,true_and,and_self,eq_self,Zfg,Zhc,wB,F.own,F.lt,A.get,A.ltK,B.get,B.ltK,Jn,Jr,Jo,J8,J0,Zhd,Zff,Qf,lj,oj];refine W.call (fin _ lj lowj ((oj 6).trans (by simp only[Qb,Qa,F.lt,and_self,and_true,and_false,true_and,eq_self,if_true,if_false,Nat.reduceEqDiff,Qf];try rfl)) ((oj 2).trans (by simp only[Qb,Qa,F.lt,and_self,and_true,and_false,true_and,eq_self,if_true,if_false,Nat.reduceEqDiff,Qf];try rfl)) ((oj 3).trans (by simp only[Qb,Qa,F.lt,and_self,and_true,and_false,true_and,eq_self,if_true,if_false,Nat.reduceEqDiff,Qf];try rfl)) _ (by rw[Qfm,if_neg (by simpa using h1'),hs];simp only[h2',ne_eq,not_true,if_false])) rfl rfl rfl rfl rfl ?_;rintro _ K3 ⟨rfl,c3,l3,o3⟩;simp only[wA,↓Qc,simprocAttr,Q7,ta,new,Qb,Qa,and_false,false_and,and_true,true_and,and_self,eq_self,Zfg,Zhc,l3,o3,oj,F.lt,splice,wZ];exact W.done (Z2.ret (Q1 rfl rfl (Qm (by first|exact F.lt|assumption|(simp only[Qa];first|exact F.lt|assumption))) (by rw[Jp];rfl)) (conc _ (Ch.fin hn lowj lj c3)))
end
section
set_option maxRecDepth 100000
open Go.AM Go.Mod
attribute [local irreducible] U W
theorem Yf(e:Int):Fz Tryz.prog Qv 19 [.int .i64 e] fun r=>r=Q7 e:=by refine Jx Tryz.func19 rfl ?_;simp only[wA,↓Qc,simprocAttr,Tryz.ntmps19,ta,wH,wB];refine W.done ?_;exact Zg.ret rfl rfl rfl
theorem Qps{s:Qq}{i:Nat}(h:i<s.length)(hb:Qfq s[i]=true):X8 s=false:=by have:s.any Qfq=true:=List.any_eq_true.2 ⟨s[i],Zg5 h,hb⟩;simp[X8,this]
theorem Q4m{s:Qq}{i:Nat}(h:i<s.length)(hb:Qfq s[i]=false)(h2:(s.take i).any Qfq=false):(s.take (i+1)).any Qfq=false:=by rw[Zg6,Ze3 h,List.any_append,h2];simp[hb]
theorem Qt1(s:Qq)(hl:s.length<=1000000):Fz Tryz.prog Qv 22 [.str s] fun r=>r= .bool (X8 s):=by
 refine Jx Tryz.func22 rfl ?_;simp only[wA,↓Qc,simprocAttr,Tryz.ntmps22,ta,wH,wB];refine W.ul ?_;refine W.loopS (kt:=[0,3]) rfl (fun i:Nat=>Q2z (.str s) (.int .i64 i)) (fun _=>[[]]) (fun i=>i<=s.length/\(s.take i).any Qfq=false) (fun i=>s.length-i) ?_ 0 ⟨Nat.zero_le _,rfl⟩ rfl rfl;rintro i ⟨hi,hb⟩;simp only[Q2z];have key:i<s.length\/¬i<s.length:=Classical.em _;rcases key with h0|h0
 . have c1:decide ((i:Int)<s.length)=true:=Zig (by omega);have ix:Qg2 Tryz.prog 9 (.str s) (.int .i64 i)=some (.int .u8 s[i].toNat):=by
    simp only[Qg2,Tryz.underlying9];rw[if_pos (by omega),show(i:Int).toNat=i from rfl,Ze3 h0];rfl
   simp only[wA,↓Qc,simprocAttr,c1,ix,ta,wH,wB];have wi:(IntKind.i64).wrap ((i:Int)+1)=((i+1:Nat):Int):=by rw[wrap_i64]<;>omega
   have good:Qfq s[i]=false->i+1<=s.length/\(s.take (i+1)).any Qfq=false:=fun h=>⟨by omega,Q4m h0 h hb⟩;refine W.guardF (fun h1=>?_) (fun h1=>?_)
   . simp only[wA,↓Qc,simprocAttr,h1,ix,ta,wH,wB];have h1' :=of_decide_eq_false h1;refine W.ite (fun h2=>?_) (fun h2=>?_)
     . have h2' :=of_decide_eq_true h2;simp only[wA,↓Qc,simprocAttr];refine W.done ?_;simp only[wA,↓Qc,simprocAttr];refine W.done (Zg.ret rfl rfl ?_);rw[Qps h0 ((Qe6 _).2 (.inr (by omega)))];rfl
     . have h2' :=of_decide_eq_false h2;simp only[wA,↓Qc,simprocAttr,wi];refine W.done ⟨i+1,rfl,rfl,good (Bool.eq_false_iff.2 fun e=>by rcases(Qe6 _).1 e with h3|h3<;>omega),by omega⟩
   . have h1' :=of_decide_eq_true h1;simp only[wA,↓Qc,simprocAttr,h1];refine W.done ?_;simp only[wA,↓Qc,simprocAttr];refine W.done (Zg.ret rfl rfl ?_);rw[Qps h0 ((Qe6 _).2 (.inl (by omega)))];rfl
 . have c1:decide ((i:Int)<s.length)=false:=Zih (by omega);simp only[wA,↓Qc,simprocAttr,c1,ta,wH,wB];have e:i=s.length:=by omega
   subst e;rw[Zg7] at hb;refine W.done ?_;simp only[wA,↓Qc,simprocAttr];have fin:X8 s=(!(s==[])&&decide ((s.length:Int)<=14)):=by
    simp only[X8,hb];cases s with
    |nil=>rfl
    |cons a l=>
     have e1:decide (1<=(a::l).length)=true:=Zig (by simp);have e2:((a::l)==([]:Qq))=false:=rfl;rw[e1,e2];simp only[Zge,Zgo,Bool.and_true];exact decide_eq_decide.2 (by omega)
   refine W.guardT (fun h1=>?_) (fun h1=>?_)
   . simp only[wA,↓Qc,simprocAttr,h1,ta,wH,wB];refine W.done (Zg.ret rfl rfl ?_);rw[fin,h1];rfl
   . simp only[wA,↓Qc,simprocAttr,h1,ta,wH,wB];refine W.done (Zg.ret rfl rfl ?_);rw[fin,h1];rfl
theorem Qz{esz n:Nat}{v:V}{cells:List V}(h:Ql esz v cells n):v.scalar=true:=by obtain⟨_,⟨rfl,_⟩|⟨f,rfl⟩⟩:=h<;>rfl
def Xp:List (Qq×Int)->List V
 |[]=>[]
 |p::l=> .str p.1:: .int .i64 p.2::Xp l
theorem Qj2:∀l,(Xp l).length=l.length*2
 |[]=>rfl
 |p::l=>by simp only[Xp,Zgz,Qj2 l];omega
theorem Qh1:∀(l:List (Qq×Int)) (i:Nat) (h:i<l.length),(Xp l)[i*2]?=some (.str l[i].1)/\(Xp l)[i*2+1]?=some (.int .i64 l[i].2)
 |p::l,0,_=>⟨rfl,rfl⟩
 |p::l,i+1,h=>by
  have:=Qh1 l i (by simpa using h);rw[show(i+1)*2=i*2+1+1 by omega];simp only[Xp,Zg9,List.getElem_cons_succ];exact this
def Qdh(v:V)(l:List (Qq×Int)):Prop:=Ql 2 v (Xp l) l.length
theorem Qlh:∀l,Zt (Xp l)=true
 |[]=>rfl
 |p::l=>by simp only[Xp,Zt,V.pure,Qlh l,Zgp]
def Qj9(l:List (Qq×Int))(s:Qq):Int:=(Zb l s).getD 0
theorem Qn1:∀(l:List (Qq×Int)) (s:Qq) (i:Nat),(∀p∈l.take i,p.1≠s)->Zb l s=Zb (l.drop i) s
 |l,s,0,_=>by simp
 |[],s,i+1,_=>by simp
 |p::l,s,i+1,h=>by
  simp only[Zhb,Zfi,forall_eq_or_imp] at h;have hne:¬s=p.1:=fun e=>h.1 e.symm;simp only[Zb,if_neg hne,Zhn];exact Qn1 l s i h.2
def Qk(id:Int)(sn:Bool)(ow pr ky:Int)(nv ov:V):List V:=[.int .i64 id,.bool sn,.int .i64 ow,.int .i64 pr,.int .i64 ky,nv,ov]
theorem Qs6(id:Int)(sn:Bool)(ow pr ky:Int)(nv ov:V)(l:List (Qq×Int))(hn:Qdh nv l)(ho:ov.scalar=true)(hp:ov.pure=true)(hl:l.length<=1000000)(s:Qq):
 Fz Tryz.prog Qv 52 [.agg (Qk id sn ow pr ky nv ov),.str s] fun r=>r= .int .i64 (Qj9 l s):=by
 refine Jx Tryz.func52 rfl ?_;have s1:=Qz hn;have p1:=Ql.pure hn;have ln:=hn.len Tryz.underlying78;simp only[wA,↓Qc,simprocAttr,Tryz.ntmps52,Qk,s1,ho,hp,p1,ta,wH,wB];refine W.ul ?_;refine W.loopS (kt:=[1,2,5]) rfl (fun i:Nat=>Q4f (.str s) (.ptr 0 2 0) (.int .i64 i)) (fun _=>[[(2,.cells [.int .i64 id,.bool sn,.int .i64 ow,.int .i64 pr,.int .i64 ky,nv,ov])]]) (fun i=>i<=l.length/\∀p∈l.take i,p.1≠s) (fun i=>l.length-i) ?_ 0 ⟨Nat.zero_le _,by simp⟩ rfl rfl;rintro i ⟨hi,hb⟩;simp only[Q4f];have hns:=Qn1 l s i hb;have key:i<l.length\/¬i<l.length:=Classical.em _;rcases key with h0|h0
 . have c1:decide ((i:Int)<l.length)=true:=Zig (by omega);have wi:(IntKind.i64).wrap ((i:Int)+1)=((i+1:Nat):Int):=by rw[wrap_i64]<;>omega
   have at1:=hn.at (k:= .i64) Tryz.underlying78 Qqx (by decide) (i:=(i:Int)) (by omega) (by omega);obtain⟨g1,g2⟩:=Qh1 l i h0;have g1' :(Xp l)[(i:Int).toNat*2+0]?=some (.str l[i].1):=g1;have g1'' :(Xp l)[(i:Int).toNat*2]?=some (.str l[i].1):=g1;have g2' :(Xp l)[(i:Int).toNat*2+1]?=some (.int .i64 l[i].2):=g2;simp only[wA,↓Qc,simprocAttr,c1,at1,g1',g1'',g2',ln,s1,ta,wH,wB];refine W.ite (fun h1=>?_) (fun h1=>?_)
   . have e:l[i].1=s:=by simpa using h1
     simp only[wA,↓Qc,simprocAttr,at1,g1',g1'',g2',ln,s1,ta,wH,wB];refine W.done ?_;simp only[wA,↓Qc,simprocAttr];refine W.done (Zg.ret rfl rfl ?_);have hd:l.drop i=l[i]::l.drop (i+1):=Zho h0;have:Zb l s=some l[i].2:=by rw[hns,hd];simp only[Zb,if_pos e.symm]
     rw[Qj9,this];rfl
   . have e:l[i].1≠s:=by simpa using h1
     simp only[wA,↓Qc,simprocAttr,wi];refine W.done ⟨i+1,rfl,rfl,⟨by omega,fun p hp=>?_⟩,by omega⟩;rw[Zg6,Ze3 h0] at hp;rcases Zfw.1 hp with h|h
     . exact hb p h
     . simp at h;rw[h];exact e
 . have c1:decide ((i:Int)<l.length)=false:=Zih (by omega);have e:i=l.length:=by omega
   subst e;simp only[wA,↓Qc,simprocAttr,c1,ln,s1,ta,wH,wB];refine W.done ?_;simp only[wA,↓Qc,simprocAttr,ln,s1,ta,wH,wB];refine W.done (Zg.ret rfl rfl ?_);simp[Qj9,hns,Zb]
theorem Qle(id:Int)(sn:Bool)(ow pr ky:Int){nv ov:V}{nc oc:List V}{n m:Nat}(hn:Ql 2 nv nc n)(ho:Ql 3 ov oc m)(s:Qq):
 frzL (frz (fun _ _=>none) depth) [.agg (Qk id sn ow pr ky nv ov),.str s]=some [.agg (Qk id sn ow pr ky nv ov),.str s]:=by
 obtain⟨_,⟨rfl,_⟩|⟨f,rfl⟩⟩:=hn<;>obtain⟨_,⟨rfl,_⟩|⟨f',rfl⟩⟩:=ho<;>rfl
theorem Q56(id:Int)(sn:Bool)(ow pr ky:Int)(nv ov:V)(l:List (Qq×Int))(oc:List V)(m:Nat)(hn:Qdh nv l)(ho:Ql 3 ov oc m)(hl:l.length<=1000000)(hz:∀p∈l,p.2≠0)(s:Qq):
 Fz Tryz.prog Qv 53 [.agg (Qk id sn ow pr ky nv ov),.str s] fun r=>r= .int .i64 (Kj l s):=by
 refine Jx Tryz.func53 rfl ?_;have s1:=Qz hn;have s2:=Qz ho;have p1:=Ql.pure hn;have p2:=Ql.pure ho;have ln:=hn.len Tryz.underlying78;simp only[wA,↓Qc,simprocAttr,Tryz.ntmps53,Qk,s1,s2,p1,p2,ta,wH,wB];refine W.pcall (Qs6 id sn ow pr ky nv ov l hn s2 p2 hl s) rfl rfl (Qle id sn ow pr ky hn ho s) ?_;rintro _ rfl;simp only[wA,↓Qc,simprocAttr,ta,wH,wB];refine W.ite (fun h1=>?_) (fun h1=>?_)
 . have h1' :Qj9 l s≠0:=by simpa using h1
   have e:(Zb l s).isSome=true:=by
    cases h:Zb l s with
    |none=>exact absurd (by simp[Qj9,h]) h1'
    |some n=>rfl
   simp only[wA,↓Qc,simprocAttr];refine W.done (Zg.ret rfl rfl ?_);rw[Kj,if_pos e];rfl
 . have h1' :Qj9 l s=0:=by simpa using h1
   have e:¬(Zb l s).isSome=true:=by
    cases h:Zb l s with
    |none=>simp
    |some n=>
     have:=hz _ (Qk8 h);simp only[Qj9,h,Zgi] at h1';exact absurd h1' this
   simp only[wA,↓Qc,simprocAttr,ln,s1,ta,wH,wB];refine W.ite (fun h2=>?_) (fun h2=>?_)
   . have h2' :=of_decide_eq_true h2;simp only[wA,↓Qc,simprocAttr];refine W.done (Zg.ret rfl rfl ?_);rw[Kj,if_neg e,if_pos (by omega)];rfl
   . have h2' :=of_decide_eq_false h2;simp only[wA,↓Qc,simprocAttr];refine W.done (Zg.ret rfl rfl ?_);rw[Kj,if_neg e,if_neg (by omega)];rfl
def Xy:List V->List Bw->Prop
 |cs,[]=>cs=[]
 |cs,o::os=>∃dv d,cs= .int .u8 o.kind:: .int .i64 o.links::dv::d/\Qx dv o.data/\Xy d os
theorem Xy.at_:∀{os:List Bw} {cs:List V} (i:Nat) (h:i<os.length),Xy cs os->∃dv,cs[i*3]?=some (.int .u8 os[i].kind)/\cs[i*3+1]?=some (.int .i64 os[i].links)/\cs[i*3+2]?=some dv/\Qx dv os[i].data
 |o::os,cs,0,_,h=>by
  obtain⟨dv,d,rfl,h1,h2⟩:=h;exact⟨dv,rfl,rfl,rfl,h1⟩
 |o::os,cs,i+1,hi,h=>by
  obtain⟨dv,d,rfl,h1,h2⟩:=h;obtain⟨dv',g⟩:=Xy.at_ i (by simpa using hi) h2;refine⟨dv',?_⟩;rw[show(i+1)*3=i*3+1+1+1 by omega];simp only[Zg9,List.getElem_cons_succ];exact g
theorem Qqh{l:List Bw}{n i:Nat}(h:((l[i]?).getD Qc2).kind≠0):Yy l (n+1) i=Yy l n (i+1):=by simp only[Yy,if_neg h]
theorem Q7m(id:Int)(sn:Bool)(ow pr ky:Int)(nv ov:V)(nc oc:List V)(m:Nat)(os:List Bw)(hn:Ql 2 nv nc m)(ho:Ql 3 ov oc 16)(hc:Xy oc os)(h16:os.length=16):
 Fz Tryz.prog Qv 54 [.agg (Qk id sn ow pr ky nv ov)] fun r=>r= .int .i64 (Yy os 15 1:Nat):=by
 refine Jx Tryz.func54 rfl ?_;have s1:=Qz hn;have s2:=Qz ho;have p1:=Ql.pure hn;have p2:=Ql.pure ho;simp only[wA,↓Qc,simprocAttr,Tryz.ntmps54,Qk,s1,s2,p1,p2,ta,wH,wB];refine W.ul ?_;refine W.loopS (kt:=[1,3]) rfl (fun i:Nat=>Q34 (.ptr 0 1 0) (.int .i64 i)) (fun _=>[[(1,.cells [.int .i64 id,.bool sn,.int .i64 ow,.int .i64 pr,.int .i64 ky,nv,ov])]]) (fun i=>1<=i/\i<=16/\Yy os 15 1=Yy os (16-i) i) (fun i=>16-i) ?_ 1 ⟨by omega,by omega,rfl⟩ rfl rfl;rintro i ⟨hi1,hi,hb⟩;simp only[Q34];have key:i<16\/¬i<16:=Classical.em _;rcases key with h0|h0
 . have c1:decide ((i:Int)<16)=true:=Zig (by omega);have wi:(IntKind.i64).wrap ((i:Int)+1)=((i+1:Nat):Int):=by rw[wrap_i64]<;>omega
   have at1:=ho.at (k:= .i64) Tryz.underlying79 Qhk (by decide) (i:=(i:Int)) (by omega) (by omega);obtain⟨dv,g1,_⟩:=hc.at_ i (by omega);have g1' :oc[(i:Int).toNat*3]?=some (.int .u8 os[i].kind):=g1;have g1'' :oc[(i:Int).toNat*3+0]?=some (.int .u8 os[i].kind):=g1;have ek:((os[i]?).getD Qc2).kind=os[i].kind:=by rw[Ze3 (by omega)];rfl
   have e16:16-i=16-(i+1)+1:=by omega
   simp only[wA,↓Qc,simprocAttr,c1,at1,g1',g1'',s2,ta,wH,wB];refine W.ite (fun h1=>?_) (fun h1=>?_)
   . have e:os[i].kind=0:=by simpa using h1
     simp only[wA,↓Qc,simprocAttr];refine W.done ?_;simp only[wA,↓Qc,simprocAttr];refine W.done (Zg.ret rfl rfl ?_);rw[hb,e16];simp only[Yy,ek,e,if_true];rfl
   . have e:os[i].kind≠0:=by simpa using h1
     simp only[wA,↓Qc,simprocAttr,wi];exact W.done ⟨i+1,rfl,rfl,⟨by omega,by omega,by rw[hb,e16,Qqh (by rw[ek];exact e)]⟩,by omega⟩
 . have c1:decide ((i:Int)<16)=false:=Zih (by omega);have e:i=16:=by omega
   subst e;simp only[wA,↓Qc,simprocAttr,c1];refine W.done ?_;simp only[wA,↓Qc,simprocAttr];refine W.done (Zg.ret rfl rfl ?_);rw[hb];rfl
def IdsC:List V->List Int->Prop
 |cs,[]=>cs=[]
 |cs,i::is=>∃c d,cs= .int .i64 i::(c++d)/\c.length=6/\IdsC d is
theorem IdsC.at_:∀{is:List Int} {cs:List V} (k:Nat) (h:k<is.length),IdsC cs is->cs[k*7]?=some (.int .i64 is[k])
 |i::is,cs,0,_,h=>by
  obtain⟨c,d,rfl,h1,h2⟩:=h;rfl
 |i::is,cs,k+1,hk,h=>by
  obtain⟨c,d,rfl,h1,h2⟩:=h;have g:=IdsC.at_ k (by simpa using hk) h2;rw[show(k+1)*7=6+k*7+1 by omega,Zg9,Zfz (by omega),h1,Nat.add_sub_cancel_left];simpa using g
def Kz(i:Int):List Int->Nat->Int
 |[],_=> -1
 |x::l,k=>if x=i then k else Kz i l (k+1)
theorem Qf1(i:Int):∀(l:List Int) (j k:Nat),(∀x∈l.take k,x≠i)->k<=l.length->Kz i l j=Kz i (l.drop k) (j+k)
 |l,j,0,_,_=>by simp
 |[],j,k+1,_,h=>by simp at h
 |x::l,j,k+1,h,h2=>by
  simp only[Zhb,Zfi,forall_eq_or_imp] at h;simp only[Kz,if_neg h.1,Zhn];rw[Qf1 i l (j+1) k h.2 (by simpa using h2)];congr 1;omega
def Qo(made:Int)(pv lv hv:V):List V:=[.int .i64 made,pv,lv,hv]
theorem at_fz(made:Int)(pv lv hv:V)(pc lc hc:List V)(np nl:Nat)(is:List Int)(hp:Ql 1 pv pc np)(hl:Ql 1 lv lc nl)(hh:Ql 7 hv hc is.length)(hi:IdsC hc is)(hb:is.length<=1000000)(x:Int):
 Fz Tryz.prog Qv 21 [.agg (Qo made pv lv hv),.int .i64 x] fun r=>r= .int .i64 (Kz x is 0):=by
 refine Jx Tryz.func21 rfl ?_;have s1:=Qz hp;have s2:=Qz hl;have s3:=Qz hh;have p1:=Ql.pure hp;have p2:=Ql.pure hl;have p3:=Ql.pure hh;have ln:=hh.len Tryz.underlying48;simp only[wA,↓Qc,simprocAttr,Tryz.ntmps21,Qo,s1,s2,s3,p1,p2,p3,ta,wH,wB];refine W.ul ?_;refine W.loopS (kt:=[1,2,5]) rfl (fun k:Nat=>Qsy (.int .i64 x) (.ptr 0 2 0) (.int .i64 k)) (fun _=>[[(2,.cells [.int .i64 made,pv,lv,hv])]]) (fun k=>k<=is.length/\∀y∈is.take k,y≠x) (fun k=>is.length-k) ?_ 0 ⟨by omega,by simp⟩ rfl rfl;rintro k ⟨hk,hn⟩;simp only[Qsy];have hs:=Qf1 x is 0 k hn hk;rw[Zff] at hs;have key:k<is.length\/¬k<is.length:=Classical.em _;rcases key with h0|h0
 . have c1:decide ((k:Int)<is.length)=true:=Zig (by omega);have wi:(IntKind.i64).wrap ((k:Int)+1)=((k+1:Nat):Int):=by rw[wrap_i64]<;>omega
   have at1:=hh.at (k:= .i64) Tryz.underlying48 Qa2 (by decide) (i:=(k:Int)) (by omega) (by omega);have g1:=hi.at_ k h0;have g1' :hc[(k:Int).toNat*7]?=some (.int .i64 is[k]):=g1;have g1'' :hc[(k:Int).toNat*7+0]?=some (.int .i64 is[k]):=g1;simp only[wA,↓Qc,simprocAttr,c1,at1,g1',g1'',ln,s3,ta,wH,wB];refine W.ite (fun h1=>?_) (fun h1=>?_)
   . have e:is[k]=x:=by simpa using h1
     simp only[wA,↓Qc,simprocAttr];refine W.done ?_;simp only[wA,↓Qc,simprocAttr];refine W.done (Zg.ret rfl rfl ?_);rw[hs,Zho h0];simp only[Kz,e,if_true];rfl
   . have e:is[k]≠x:=by simpa using h1
     simp only[wA,↓Qc,simprocAttr,wi];refine W.done ⟨k+1,rfl,rfl,⟨by omega,fun y hy=>?_⟩,by omega⟩;rw[Zg6,Ze3 h0] at hy;rcases Zfw.1 hy with h|h
     . exact hn y h
     . simp at h;rw[h];exact e
 . have c1:decide ((k:Int)<is.length)=false:=Zih (by omega);have e:k=is.length:=by omega
   subst e;simp only[wA,↓Qc,simprocAttr,c1,ln,s3,ta,wH,wB];refine W.done ?_;simp only[wA,↓Qc,simprocAttr];refine W.done (Zg.ret rfl rfl ?_);rw[hs];simp only[List.drop_length,Kz];rfl
end
end Go.Proofs.YtmapmgfiamfocaaGreat
