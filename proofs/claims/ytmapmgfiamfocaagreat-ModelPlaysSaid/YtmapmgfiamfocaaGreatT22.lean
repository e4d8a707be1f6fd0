/- This file holds in one the texts YO25, YO26, R6; each says at its head what it proves. -/
import Derived.Test.YtmapmgfiamfocaaGreatT15
import Derived.Test.YtmapmgfiamfocaaGreatT17
import Derived.Test.YtmapmgfiamfocaaGreatT21
set_option linter.unusedSimpArgs false
set_option linter.unusedVariables false
section
set_option maxRecDepth 100000
namespace Go.Proofs.YtmapmgfiamfocaaGreat
open Go.AM Go.Mod
attribute [local irreducible] U W Zd
theorem Q1w{p:Nat->Nat->Bool}{es:List (V×V)}(h:Qfe p es=false):∀e∈es,e.1.refs p=false/\e.2.refs p=false:=by
 induction es with
 |nil=>intro e he;cases he
 |cons y ys ih=>
  obtain⟨a,b⟩:=y;simp only[Qfe,Zf5] at h;intro e he;rcases Zfi.1 he with rfl|he
  . exact h.1
  . exact ih h.2 e he
unseal Zd in
theorem Q5v{p:Nat->Nat->Bool}{a:Loc}{sn:Bool}{ow pr:Int}{l:List Ob}(h:p a.kf a.ks=true):(O.cells (Zd a sn ow pr l)).refs p=true:=by simp only[O.refs,Zd,Zv,V.refs,h,Bool.true_or,Bool.or_true]
theorem Zo.pop{K:Qg}{h:Hs}{S:MSt}{xs:List Ent}{kl:List (Nat×Nat)}(hh:Zo K h S xs kl){n:Nat}{v:V}(h1:h.f<n)(h2:h.mf<n)(hk:∀q∈kl,q.1<n\/∃x∈xs,x.loc.kf=q.1/\x.loc.ks=q.2):Zo (Yb n v K) h S xs kl:=by
 unfold Yb;split
 . rename_i hc;simp only[Zfr] at hc;have hcl:=hc.2;obtain⟨bs,clk,hm,hb⟩:=hh.lmap;have cl:∀{f s:Nat} {o:O},f<n->Qd K f s=some o->o.refs (fun f _=>Nat.ble n f)=false:=fun{f s o} hf hg=>Qar (K.take n) f s o hcl (by rw[Qax hf];exact hg);have hx:∀x∈xs,x.loc.f<n:=fun x hx=>by
    have:=(Q1w (cl h2 hm) (Qqz x) (Zfm.2 ⟨x,hx,rfl⟩)).2;simp only[Qqz,V.refs] at this;exact Nat.lt_of_not_le fun q=>by rw[Zhp q] at this;cases this
   have hx2:∀x∈xs,x.loc.nf<n/\x.loc.kf<n:=fun x hxm=>by
    obtain⟨l,b,k,hL⟩:=hh.line x hxm;have hr:=cl (hx x hxm) hL.cells;constructor
    . by_cases q:n<=x.loc.nf
      . rw[Qzb (by simpa using q)] at hr;cases hr
      . omega
    . by_cases q:n<=x.loc.kf
      . rw[Q5v (by simpa using q)] at hr;cases hr
      . omega
   refine⟨(Qax h1).trans hh.cell,⟨bs,clk,(Qax h2).trans hm,hb⟩,hh.lines,fun x hxm=>(hh.line x hxm).same (Qax (hx x hxm)) (Qax (hx2 x hxm).1),hh.key,fun i q hq=>?_,hh.klen,hh.apart,hh.kapart⟩;obtain⟨k,e1,e2⟩:=hh.keys i q hq;refine⟨k,e1,(Qax ?_).trans e2⟩;rcases hk q (Zgv hq) with h3|⟨x,hxm,e3,_⟩
   . exact h3
   . rw[<-e3];exact(hx2 x hxm).2
 . exact hh
def Q5t(P:Program)(Qv:Pol)(f:FuncId)(es' :List (V×V)):Prop:=∃f' s H' es bs clk,Zx P Qv f [] []=some (.ret (.map f' s),H')/\Qd H' f' s=some (.map es bs clk)/\Qls (frz (Qd H') depth) es=some es'
theorem W.liftT{P:Program}{Qv:Pol}{L:Yu->Qas}{fn fr:Nat}{t:List V}{H:Qg}{d:Nat}{k:List It}{Q:Ex->List V->Qg->Prop}{f:FuncId}{es' :List (V×V)}(h:Q5t P Qv f es')(hp:Qv.prim f=none)(hq:Qv.pure fn f=false)(hl:Qv.lift fn f=true)(hd:Qd H fr d=none)
 (h2:∀bs clk,W (U P Qv (Zx P Qv) L fn fr k .normal (Z5 t (some d) (.map fr d)) (Qs H fr d (.map es' bs clk))) Q)(hal:Qv.alone fn (some d)=false:=by rfl):W (UCT P Qv (Zx P Qv) L fn fr (Zn Qv (Zx P Qv) fn fr (some d) f [] H) (some d) k t) Q:=by
 obtain⟨f',s,H',es,bs,clk,h3,h4,h5⟩:=h;have e:Zn Qv (Zx P Qv) fn fr (some d) f [] H=some (.ret (.map fr d),Qs H fr d (.map es' bs clk)):=by simp only[Zn,hp,Pol.pureA_f hq hal,hl,Ze7,if_false,if_true,frzL,h3,Qes,hd,h4,h5,Ze4];rfl
 rw[e];exact h2 bs clk
def Qyl(f:FuncId)(g:MSt->Zc->MSt×Zi):Prop:=∀(H:Qg) (h:Hs) (S:MSt) (n:Nat) (c:Zc) (dv:V),Qkw H h S->J1 S n->n<=1000->Ye c dv->
 CR Tryz.prog Qv f [.ptr h.f h.s 0,.agg (Qf c dv)] H fun v H' =>Qdg H' H.length v (g S c).2/\Xh H H' h (g S c).1/\Qa8 H H'
theorem Qam.m{f:FuncId}{g:MSt->Zc->MSt×Zi}(h:Qam f g)(h0:∀S c,(g S c).2.data=[]):Qyl f g:=fun H a S n c dv h1 ok hn hc=>
 (h H a S n c dv h1 ok hn hc).mono fun v H' ⟨h1,h2⟩=>⟨h1.m (h0 S c) H' H.length,h2⟩
theorem Qdg.cells{H:Qg}{k:Nat}{v:V}{r:Zi}(h:Qdg H k v r):∃x3 x4 x10 e1 e2 e5 e6 e7 e8 e9,v= .agg [.int .i64 e1,.int .i64 e2,x3,x4,.int .i64 e5,.int .u8 e6,.int .i64 e7,.int .i64 e8,.str e9,x10]/\x3.scalar=true/\x4.scalar=true/\x10.scalar=true:=by obtain⟨a,b,c,rfl,h1,h2,h3⟩:=h;exact⟨a,b,c,_,_,_,_,_,_,_,rfl,h1.sc.1,Ql.scalar h2,Ql.scalar h3⟩
theorem Qdg.fin{J:Qg}{k k' n:Nat}{v:V}{r:Zi}{o:O}(h:Qdg J k v r)(hn:n<k)(hk:k' <=k)(hl:n<J.length):Qdg (Yb n v (Qs J n 4 o)) k' v r:=by obtain⟨dv,nv,lv,rfl,h1,h2,h3⟩:=h;refine⟨dv,nv,lv,rfl,h1.to hk (fun hrf f s hf=>?_),h2,h3⟩;rw[Ym,Q8 hl (by omega)];have:=Qrh (q:=fun f _=>Nat.ble n f) (fun f s h=>Zhp (Ze9 (Zhr hn) (Zhs h))) h1 hrf;simp only[V.refs,Zv,this,Bool.true_or,Bool.or_true]
theorem Yp{p:Prop}[Decidable p]{a b:MSt×Zi}(h1:a.2.data=[])(h2:b.2.data=[]):(if p then a else b).2.data=[]:=by split<;>assumption
theorem Y8(S:MSt)(c:Zc):(Q2 S c).2.data=[]:=by
 unfold Q2;refine Yp ?_ (Yp ?_ (Yp ?_ (Yp ?_ (Yp ?_ (Yp ?_ (Yp ?_ (Yp ?_ (Yp ?_ (Yp ?_ ?_)))))))))
 . exact Yp rfl rfl
 . unfold Qdf;split
   . rfl
   . exact Yp rfl rfl
 . unfold Qan;split
   . rfl
   . exact Yp rfl rfl
 . unfold Yq;split
   . rfl
   . exact Yp rfl (Yp rfl rfl)
 . unfold Qca;split
   . rfl
   . refine Yp rfl (Yp rfl ?_);split<;>rfl
 . unfold Y3;split
   . rfl
   . exact Yp rfl rfl
 . unfold Qcc;split
   . rfl
   . exact Yp rfl (Yp rfl rfl)
 . unfold Xx;split
   . rfl
   . exact Yp rfl rfl
 . rfl
 . unfold Bz;split<;>rfl
 . rfl
theorem Qe8(L L' :Qe)(e:Int):(L.turn e L').2.data=[]:=by unfold Qe.turn;split<;>rfl
theorem Qv2(L:Qe)(s:Qq)(o:Bw):(L.add s o).2.data=[]:=by unfold Qe.add;split<;>rfl
def Qcf(l:List (Int×FuncId)):List (V×V):=l.map fun p=>(.int .u8 p.1,.func (.func p.2) [] [])
def Qdb:List (Int×FuncId)->Int->Option FuncId
 |[],_=>none
 |p::l,k=>if k=p.1 then some p.2 else Qdb l k
theorem Qg1(k:Int):∀(l:List (Int×FuncId)) (j:Nat),∃i,findKey (.int .u8 k) (Qcf l) j=some ((Qdb l k).map fun f=>(i,.func (.func f) [] []))
 |[],j=>⟨0,rfl⟩
 |p::l,j=>by
  simp only[Qcf,Zfn,findKey,Qmx,Qdb,if_true];by_cases h:k=p.1
  . subst h;exact⟨j,by simp⟩
  . have:(k==p.1)=false:=by simpa using h
    obtain⟨i,hi⟩:=Qg1 k l (j+1);exact⟨i,by simp only[this,h,if_false];exact hi⟩
theorem Qrc{l:List (Int×FuncId)}{k:Int}{f:FuncId}(h:Qdb l k=some f):(k,f)∈l:=by
 induction l with
 |nil=>cases h
 |cons p l ih=>
  simp only[Qdb] at h;split at h
  . rename_i e;subst e;cases h;simp
  . exact Zfj _ (ih h)
def Kv:List (Int×FuncId):=[(1,27),(2,28),(3,29),(4,30),(5,31),(6,32),(7,33),(8,34),(19,35),(20,36),(21,37)]
def Xu:List (Int×FuncId):=[(9,38),(10,39),(11,40),(12,41),(13,42),(14,43),(15,44),(16,45),(17,46),(18,47)]
theorem Qux:Xa Tryz.prog Qv 20 (some 15) [] []=some (.ret (.map 0 1),[[(1,.map (Qcf Kv) [0,1,2,3,4,5,6,7,8,9,10] 11)]]):=by kernel_rfl
theorem Qxq:Xa Tryz.prog Qv 20 (some 16) [] []=some (.ret (.map 0 1),[[(1,.map (Qcf Xu) [0,1,2,3,4,5,6,7,8,9] 10)]]):=by kernel_rfl
theorem Q1i:Q5t Tryz.prog Qv 15 (Qcf Kv):=⟨0,1,_,_,_,_,Qzp 20 _ _ _ _ Qux,rfl,rfl⟩
theorem Q4q:Q5t Tryz.prog Qv 16 (Qcf Xu):=⟨0,1,_,_,_,_,Qzp 20 _ _ _ _ Qxq,rfl,rfl⟩
theorem Qqm{g:Get}{f s:Nat}{bs:List Nat}{clk:Nat}(h:g f s=some (.map (Qcf Kv) bs clk))(k:Int):Bu Tryz.prog g 58 (.map f s) (.int .u8 k) true=some (.tuple [match Qdb Kv k with|some f=> .func (.func f) [] []|none=> .nF,.bool (Qdb Kv k).isSome]):=by
 have z:zer Tryz.prog 56=some .nilFunc:=by kernel_rfl
 obtain⟨i,hi⟩:=Qg1 k Kv 0;simp only[Bu,Tryz.underlying58,Tryz.underlying5,z,Yo,if_true,h,hi];cases Qdb Kv k<;>rfl
theorem Qth{g:Get}{f s:Nat}{bs:List Nat}{clk:Nat}(h:g f s=some (.map (Qcf Xu) bs clk))(k:Int):Bu Tryz.prog g 62 (.map f s) (.int .u8 k) true=some (.tuple [match Qdb Xu k with|some f=> .func (.func f) [] []|none=> .nF,.bool (Qdb Xu k).isSome]):=by
 have z:zer Tryz.prog 60=some .nilFunc:=by kernel_rfl
 obtain⟨i,hi⟩:=Qg1 k Xu 0;simp only[Bu,Tryz.underlying62,Tryz.underlying5,z,Yo,if_true,h,hi];cases Qdb Xu k<;>rfl
theorem Q29{k:Int}{f:FuncId}(h:(k,f)∈Kv):(Qv.prim f=none/\Qv.pure 10 f=false/\Qv.thin 10 f=false/\Qv.lift 10 f=false/\Qv.look 10 f=false)/\Qak k=true/\
 Qyl f (fun S c=>Q2 S {c with kind:=k}):=by
 simp only[Kv,Zfi,Prod.mk.injEq,Zgm,or_false] at h;rcases h with⟨rfl,rfl⟩|⟨rfl,rfl⟩|⟨rfl,rfl⟩|⟨rfl,rfl⟩|⟨rfl,rfl⟩|⟨rfl,rfl⟩|⟨rfl,rfl⟩|⟨rfl,rfl⟩|⟨rfl,rfl⟩|⟨rfl,rfl⟩|⟨rfl,rfl⟩
 . exact⟨⟨rfl,rfl,rfl,rfl,rfl⟩,rfl,Qam.m set_h (fun S c=>Y8 _ _)⟩
 . exact⟨⟨rfl,rfl,rfl,rfl,rfl⟩,rfl,Qam.m snap_h (fun S c=>Y8 _ _)⟩
 . exact⟨⟨rfl,rfl,rfl,rfl,rfl⟩,rfl,Qam.m Q7e (fun S c=>Y8 _ _)⟩
 . exact⟨⟨rfl,rfl,rfl,rfl,rfl⟩,rfl,Qam.m Q0a (fun S c=>Y8 _ _)⟩
 . exact⟨⟨rfl,rfl,rfl,rfl,rfl⟩,rfl,Qam.m roll_h (fun S c=>Y8 _ _)⟩
 . exact⟨⟨rfl,rfl,rfl,rfl,rfl⟩,rfl,Qam.m Q2h (fun S c=>Y8 _ _)⟩
 . exact⟨⟨rfl,rfl,rfl,rfl,rfl⟩,rfl,Qam.m load_h (fun S c=>Y8 _ _)⟩
 . exact⟨⟨rfl,rfl,rfl,rfl,rfl⟩,rfl,Qam.m Q41 (fun S c=>Y8 _ _)⟩
 . exact⟨⟨rfl,rfl,rfl,rfl,rfl⟩,rfl,Qam.m all_h (fun S c=>Y8 _ _)⟩
 . exact⟨⟨rfl,rfl,rfl,rfl,rfl⟩,rfl,Qam.m Q5e (fun S c=>Y8 _ _)⟩
 . exact⟨⟨rfl,rfl,rfl,rfl,rfl⟩,rfl,Qam.m sync_h (fun S c=>Y8 _ _)⟩
theorem Q6c{k:Int}{f:FuncId}(h:(k,f)∈Xu):(Qv.prim f=none/\Qv.pure 10 f=false/\Qv.thin 10 f=false/\Qv.lift 10 f=false/\Qv.look 10 f=false)/\Qfp k=true/\
 Qw5 f (fun L c=>Kx k L c):=by
 simp only[Xu,Zfi,Prod.mk.injEq,Zgm,or_false] at h;rcases h with⟨rfl,rfl⟩|⟨rfl,rfl⟩|⟨rfl,rfl⟩|⟨rfl,rfl⟩|⟨rfl,rfl⟩|⟨rfl,rfl⟩|⟨rfl,rfl⟩|⟨rfl,rfl⟩|⟨rfl,rfl⟩|⟨rfl,rfl⟩
 . exact⟨⟨rfl,rfl,rfl,rfl,rfl⟩,rfl,make_l.m (fun L c=>Qv2 _ _ _)⟩
 . exact⟨⟨rfl,rfl,rfl,rfl,rfl⟩,rfl,Q6f.m (fun L c=>by unfold Qe.point;(split; · rfl);exact Qv2 _ _ _)⟩
 . exact⟨⟨rfl,rfl,rfl,rfl,rfl⟩,rfl,link_l.m (fun L c=>Qe8 _ _ _)⟩
 . exact⟨⟨rfl,rfl,rfl,rfl,rfl⟩,rfl,Q4b.m (fun L c=>Qe8 _ _ _)⟩
 . exact⟨⟨rfl,rfl,rfl,rfl,rfl⟩,rfl,Q4a.m (fun L c=>Qe8 _ _ _)⟩
 . exact⟨⟨rfl,rfl,rfl,rfl,rfl⟩,rfl,read_l⟩
 . exact⟨⟨rfl,rfl,rfl,rfl,rfl⟩,rfl,Q7p.m (fun L c=>by unfold Qe.write;(split; · rfl);exact Qe8 _ _ _)⟩
 . exact⟨⟨rfl,rfl,rfl,rfl,rfl⟩,rfl,cut_l.m (fun L c=>by unfold Qe.cut;(split; · rfl);exact Qe8 _ _ _)⟩
 . exact⟨⟨rfl,rfl,rfl,rfl,rfl⟩,rfl,stat_l.m (fun L c=>by unfold Qe.stat;split<;>rfl)⟩
 . exact⟨⟨rfl,rfl,rfl,rfl,rfl⟩,rfl,list_l.m (fun L c=>rfl)⟩
theorem Qyo{k:Int}(h:Qdb Kv k=none):Qak k=false:=by
 simp only[Kv,Qdb] at h
 repeat (split at h; · cases h)
 simp only[Qak,Zf5,decide_eq_false_iff_not];omega
theorem Q1s{k:Int}(h:Qdb Xu k=none):Qfp k=false:=by
 simp only[Xu,Qdb] at h
 repeat (split at h; · cases h)
 simp only[Qfp,decide_eq_false_iff_not];omega
theorem do_h:Qyl 10 Z0:=by
 rintro H h S N c dv ⟨xs,kl,hh⟩ ok hN hc;refine Y2 Tryz.func10 rfl ?_;intro n K hn F;have sdv:=Ql.scalar hc.data;obtain⟨bs,clk,hm,hb⟩:=hh.lmap;have A:=F.at_ hn hh.cell;have B:=F.at_ hn hm;have lkl:=fun g hg=>Yt (g:=g) (mf:=h.mf) (ms:=h.ms) (l:=xs) (bs:=bs) (clk:=clk) hg c.a;simp only[wA,↓Qc,simprocAttr,Tryz.ntmps10,ta,new,Qb,Qa,and_false,false_and,and_true,true_and,and_self,eq_self,Zfg,Zhc,wB,F.own,F.lt,sdv,A.get,A.ltK,B.get,B.ltK,Jn,Jr,Jo,J8,J0,Zhd,Zff,Qf];refine W.liftT Q1i rfl rfl rfl (by simp only[Qb,Qa,F.lt,Nat.reduceEqDiff,and_false,if_false];exact F.own 11) ?_;intro bs1 clk1;have k3:Qd (Qs (Qs (Qs K n 3 (.cells (Qf c dv))) n 4 (.cells [.int .i64 0,.int .i64 0,.nS,.nS,.int .i64 0,.int .u8 0,.int .i64 0,.int .i64 0,.str [],.nS])) n 11 (.map (Qcf Kv) bs1 clk1)) n 3=some (.cells (Qf c dv)):=by simp only[Qb,Qa,F.lt,Nat.reduceEqDiff,and_false,and_self,if_true,if_false]
 have k4:Qd (Qs (Qs (Qs K n 3 (.cells (Qf c dv))) n 4 (.cells [.int .i64 0,.int .i64 0,.nS,.nS,.int .i64 0,.int .u8 0,.int .i64 0,.int .i64 0,.str [],.nS])) n 11 (.map (Qcf Kv) bs1 clk1)) n 4=some (.cells [.int .i64 0,.int .i64 0,.nS,.nS,.int .i64 0,.int .u8 0,.int .i64 0,.int .i64 0,.str [],.nS]):=by simp only[Qb,Qa,F.lt,Nat.reduceEqDiff,and_false,and_self,if_true,if_false]
 have k11:Qd (Qs (Qs (Qs K n 3 (.cells (Qf c dv))) n 4 (.cells [.int .i64 0,.int .i64 0,.nS,.nS,.int .i64 0,.int .u8 0,.int .i64 0,.int .i64 0,.str [],.nS])) n 11 (.map (Qcf Kv) bs1 clk1)) n 11=some (.map (Qcf Kv) bs1 clk1):=Qm (by simp only[Qa];exact F.lt);have k23:Qd (Qs (Qs (Qs K n 3 (.cells (Qf c dv))) n 4 (.cells [.int .i64 0,.int .i64 0,.nS,.nS,.int .i64 0,.int .u8 0,.int .i64 0,.int .i64 0,.str [],.nS])) n 11 (.map (Qcf Kv) bs1 clk1)) n 23=none:=by simp only[Qb,Qa,F.lt,Nat.reduceEqDiff,and_false,if_false];exact F.own 23
 have klow:∀f s,f<n->Qd (Qs (Qs (Qs K n 3 (.cells (Qf c dv))) n 4 (.cells [.int .i64 0,.int .i64 0,.nS,.nS,.int .i64 0,.int .u8 0,.int .i64 0,.int .i64 0,.str [],.nS])) n 11 (.map (Qcf Kv) bs1 clk1)) f s=Qd H f s:=(fun f s h=>by simp only[Qb,Qa,F.lt,Zfc h,false_and,if_false];exact F.low f s h);have klt:n<(Qs (Qs (Qs K n 3 (.cells (Qf c dv))) n 4 (.cells [.int .i64 0,.int .i64 0,.nS,.nS,.int .i64 0,.int .u8 0,.int .i64 0,.int .i64 0,.str [],.nS])) n 11 (.map (Qcf Kv) bs1 clk1)).length:=(by simp only[Qa];exact F.lt);have klen:(Qs (Qs (Qs K n 3 (.cells (Qf c dv))) n 4 (.cells [.int .i64 0,.int .i64 0,.nS,.nS,.int .i64 0,.int .u8 0,.int .i64 0,.int .i64 0,.str [],.nS])) n 11 (.map (Qcf Kv) bs1 clk1)).length=n+1:=by simp only[Qa];exact F.len
 have kown:∀(s:Nat) (ys:List V),Qd (Qs (Qs (Qs K n 3 (.cells (Qf c dv))) n 4 (.cells [.int .i64 0,.int .i64 0,.nS,.nS,.int .i64 0,.int .u8 0,.int .i64 0,.int .i64 0,.str [],.nS])) n 11 (.map (Qcf Kv) bs1 clk1)) n s=some (.cells ys)->ys.length≠2:=by
  intro s ys hg;simp only[Qb,Qa,F.lt,true_and] at hg;split at hg
  . cases hg
  . split at hg
    . cases hg;decide
    . split at hg
      . cases hg;simp[Qf]
      . rw[F.own] at hg;cases hg
 simp only[Qf] at k3 k4 k11 k23 klow klt klen kown;generalize Qs (Qs (Qs K n 3 _) n 4 _) n 11 _=K1 at*;have lkh:=Qqm k11 c.kind;have hh1:Zo K1 h S xs kl:=hh.low fun f s hf=>klow f s (by omega);simp only[wA,↓Qc,simprocAttr,ta,new,Qb,Qa,and_false,false_and,and_true,true_and,and_self,eq_self,Zfg,Zhc,wB,k3,Qf,Zff,↓lkh];refine W.opsC [(0,2)] (by kernel_rfl) ⟨Qcg (by simp[Xr,Op.operands,rho,V.id?]) (by simp) (by simp),trivial⟩ ?_;have zc:Qa3 (.cells [.int .i64 0,.int .i64 0,.nS,.nS,.int .i64 0,.int .u8 0,.int .i64 0,.int .i64 0,.str [],.nS])=true:=rfl;have okd:=Qtb ok c;have fin:∀(K1:Qg),K1.length=n+1->(∀f s,f<n->Qd K1 f s=Qd H f s)->(∀(s:Nat) (ys:List V),Qd K1 n s=some (.cells ys)->ys.length≠2)->Qd K1 n 4=some (.cells [.int .i64 0,.int .i64 0,.nS,.nS,.int .i64 0,.int .u8 0,.int .i64 0,.int .i64 0,.str [],.nS])->∀(J:Qg) (S' :MSt) (v:V) (o:O),Xh K1 J h S' ->Qa8 K1 J->J1 S' (N+1)->Xh H (Yb n v (Qs J n 4 o)) h S' /\Qa8 H (Yb n v (Qs J n 4 o)):=by
  rintro K1 klen klow kown k4 J S' v o ⟨xs',kl',hj,hkl⟩ ha ok';have ln:n<J.length:=by have:=ha.len;omega
  have j4:=ha.get n 4 _ k4 zc;have h16:∀x∈xs',x.line.objs.length=16:=fun x hx=>(ok'.ok (x.id,x.line) (by rw[hj.lines];exact Zfm.2 ⟨x,hx,rfl⟩)).n16;have low2:∀q∈kl',(q.1<n/\∃ys:List V,Qd K1 q.1 q.2=some (.cells ys)/\ys.length=2)\/∃x∈xs',x.loc.kf=q.1/\x.loc.ks=q.2:=by
   intro q hq;rcases hkl q hq with⟨ys,h1,h2⟩|h1
   . left;refine⟨?_,ys,h1,h2⟩;have:=Q9 h1;rcases Ze5 q.1 n with h3|h3
     . exact h3
     . have e:q.1=n:=by omega
       rw[e] at h1;exact absurd h2 (kown _ _ h1)
   . exact .inr h1
  refine⟨⟨xs',kl',(hj.aside (o:=o) j4 rfl h16).pop A.lt B.lt fun q hq=>?_,fun q hq=>?_⟩,?_,fun f s o' g1 g2=>?_⟩
  . rcases low2 q hq with⟨h1,_⟩|h1
    . exact .inl h1
    . exact .inr h1
  . rcases low2 q hq with⟨h1,ys,h2,h3⟩|h1
    . exact .inl ⟨ys,by rw[<-klow _ _ h1];exact h2,h3⟩
    . exact .inr h1
  . exact Ze9 (by omega) (Qbc (n:=n) (by simp only[Qa];omega))
  . have hf:=Q9 g1;rw[Xm (by omega),Q8 ln (by omega)];exact ha.get f s o' ((klow f s (by omega)).trans g1) g2
 cases hf:Qdb Kv c.kind with
 |some f=>
  obtain⟨⟨p1,p2,p3,p4,p5⟩,p6,p7⟩:=Q29 (Qrc hf);have hd:Z0 S c=Q2 S c:=by rw[Z0,p6];rfl
  simp only[wA,↓Qc,simprocAttr,Zhe,ta,new,Qb,Qa,and_false,false_and,and_true,true_and,and_self,eq_self,Zfg,Zhc,wB,k3,Qf,Zff];refine W.call (p7 K1 h S N c dv ⟨xs,kl,hh1⟩ ok hN hc) p1 p2 p3 p4 p5 ?_;rintro v J ⟨hr,ho,ha⟩;have ln:n<J.length:=Zfa klt ha.len;have j4:=ha.get n 4 _ k4 zc;obtain⟨x3,x4,x10,e1,e2,e5,e6,e7,e8,e9,rfl,s3,s4,s10⟩:=hr.cells;simp only[wA,↓Qc,simprocAttr,ta,new,Qb,Qa,and_false,false_and,and_true,true_and,and_self,eq_self,Zfg,Zhc,wB,ln,j4,s3,s4,s10];refine W.done (Z2.ret (Q1 rfl rfl (Qm (by first|exact F.lt|assumption|(simp only[Qa];first|exact F.lt|assumption))) (by rw[Jp];rfl)) ?_);rw[hd];exact⟨hr.fin (by omega) (by omega) ln,fin K1 klen klow kown k4 J _ _ _ ho ha (by rw[<-hd];exact okd)⟩
 |none=>
  have p6:=Qyo hf;have hw:=hh.lines▸Y5 xs c.a;have hd:Z0 S c=if !Qfp c.kind then(S,Zl 2) else match Zw S.lines c.a with
   |none=>(S,Zl 6)
   |some L=>if !(S.keyOf L).loaded then(S,Zl 200) else if c.kind≠18/\Kh c.name≠0 then(S,Zl 240) else
    ({S with lines:=putL S.lines c.a (Kx c.kind L c).1},(Kx c.kind L c).2):=by rw[Z0,p6];rfl
  simp only[wA,↓Qc,simprocAttr,Zgy,ta,new,Qb,Qa,and_false,false_and,and_true,true_and,and_self,eq_self,Zfg,Zhc,wB,k3,Qf,Zff];refine W.liftT Q4q rfl rfl rfl k23 ?_;intro bs2 clk2;have c1:Qd K1 h.f h.s=_:=(klow _ _ A.lt).trans hh.cell;have m1:Qd K1 h.mf h.ms=_:=(klow _ _ B.lt).trans hm;have lkf:=Qth (Qm (o:= .map (Qcf Xu) bs2 clk2) klt (s:=23)) c.kind;have g3:Qd (Qs K1 n 23 (.map (Qcf Xu) bs2 clk2)) n 3=_:=(Jq klt (by decide)).trans k3;have g4:Qd (Qs K1 n 23 (.map (Qcf Xu) bs2 clk2)) n 4=_:=(Jq klt (by decide)).trans k4;have gc:Qd (Qs K1 n 23 (.map (Qcf Xu) bs2 clk2)) h.f h.s=_:=(Q8 klt A.ne).trans c1;have gm:Qd (Qs K1 n 23 (.map (Qcf Xu) bs2 clk2)) h.mf h.ms=_:=(Q8 klt B.ne).trans m1;have lk2:=lkl _ gm;have glt:n<(Qs K1 n 23 (.map (Qcf Xu) bs2 clk2)).length:=by simp only[Qa];exact klt
  have glen:(Qs K1 n 23 (.map (Qcf Xu) bs2 clk2)).length=n+1:=by simp only[Qa];exact klen
  have glow:∀f s,f<n->Qd (Qs K1 n 23 (.map (Qcf Xu) bs2 clk2)) f s=Qd H f s:=fun f s h=>(Q8 klt (by omega)).trans (klow f s h);have gown:∀(s:Nat) (ys:List V),Qd (Qs K1 n 23 (.map (Qcf Xu) bs2 clk2)) n s=some (.cells ys)->ys.length≠2:=by
   intro s ys hg;simp only[Qb,klt,true_and] at hg;split at hg
   . cases hg
   . exact kown s ys hg
  generalize Qs K1 n 23 (.map (Qcf Xu) bs2 clk2)=K2 at*;have hh2:Zo K2 h S xs kl:=hh.low fun f s hf=>glow f s (by omega);have bad:∀(J:Qg) (e:Int) (v:V) (o:O),Z0 S c=(S,Zl e)->Ch K2 J []->Qdg (Yb n v (Qs J n 4 o)) H.length (Q7 e) (Z0 S c).2/\Xh H (Yb n v (Qs J n 4 o)) h (Z0 S c).1/\Qa8 H (Yb n v (Qs J n 4 o)):=by intro J e v o he hch;rw[he] at okd⊢;exact⟨(Zk e).m rfl _ _,fin K2 glen glow gown g4 J _ _ _ ⟨xs,kl,hh2.ch hch,hh2.kOut⟩ (.of_ch0 hch) okd⟩
  cases hfl:Qdb Xu c.kind with
  |none=>
   rw[hfl] at lkf;rw[Q1s hfl] at hd;simp only[wA,↓Qc,simprocAttr,ta,new,Qb,Qa,and_false,false_and,and_true,true_and,and_self,eq_self,Zfg,Zhc,wB,Zff,g3,Qf,↓lkf];refine W.opsC [(0,2)] (by kernel_rfl) ⟨Qcg (by simp[Xr,Op.operands,rho,V.id?]) (by simp) (by simp),trivial⟩ ?_;simp only[wA,↓Qc,simprocAttr,ta,new,Qb,Qa,and_false,false_and,and_true,true_and,and_self,eq_self,Zfg,Zhc,wB,Zff,g3,gc,Qf,↓lk2];refine W.opsK (by kernel_rfl) ?_;simp only[wA,↓Qc,simprocAttr,Zgy];refine W.pcall (Zz 2) rfl rfl rfl ?_;rintro _ rfl;simp only[wA,↓Qc,simprocAttr,Q7,ta,new,Qb,Qa,and_false,false_and,and_true,true_and,and_self,eq_self,Zfg,Zhc,glt,g4,splice,wZ];exact W.done (Z2.ret (Q1 rfl rfl (Qm (by first|exact F.lt|assumption|(simp only[Qa];first|exact F.lt|assumption))) (by rw[Jp];rfl)) (bad _ 2 _ _ (hd) (Ch.refl K2)))
  |some f=>
   rw[hfl] at lkf;obtain⟨⟨p1,p2,p3,p4,p5⟩,p7,p8⟩:=Q6c (Qrc hfl);rw[p7] at hd;simp only[Zhf,Ze7,if_false] at hd;simp only[wA,↓Qc,simprocAttr,ta,new,Qb,Qa,and_false,false_and,and_true,true_and,and_self,eq_self,Zfg,Zhc,wB,Zff,g3,Qf,↓lkf];refine W.opsC [(0,2)] (by kernel_rfl) ⟨Qcg (by simp[Xr,Op.operands,rho,V.id?]) (by simp) (by simp),trivial⟩ ?_;simp only[wA,↓Qc,simprocAttr,ta,new,Qb,Qa,and_false,false_and,and_true,true_and,and_self,eq_self,Zfg,Zhc,wB,Zff,g3,gc,Qf,↓lk2];refine W.opsK (by kernel_rfl) ?_;cases hx:Kg xs c.a with
   |none=>
    rw[hx] at hw;rw[hw] at hd;simp only[wA,↓Qc,simprocAttr,Zhe,Qf7 Tryz.underlying64];refine W.pcall (Zz 6) rfl rfl rfl ?_;rintro _ rfl;simp only[wA,↓Qc,simprocAttr,Q7,ta,new,Qb,Qa,and_false,false_and,and_true,true_and,and_self,eq_self,Zfg,Zhc,glt,g4,splice,wZ];exact W.done (Z2.ret (Q1 rfl rfl (Qm (by first|exact F.lt|assumption|(simp only[Qa];first|exact F.lt|assumption))) (by rw[Jp];rfl)) (bad _ 6 _ _ (hd) (Ch.refl K2)))
   |some x=>
    rw[hx] at hw;rw[hw] at hd;simp only[Ze4] at hd;have hxm:=(Yk hx).1;obtain⟨l,b1,k1,hL⟩:=hh2.line x hxm;obtain⟨hk1,hk2,hk3⟩:=hh2.keyAt hxm;have okL:Q5 x.line:=ok.ok (x.id,x.line) (by rw[hh.lines];exact Zfm.2 ⟨x,hxm,rfl⟩);have gx:=hL.cells;have gk:=hk3;simp only[wA,↓Qc,simprocAttr,Zhe,Qdl Tryz.underlying64,ta,new,Qb,Qa,and_false,false_and,and_true,true_and,and_self,eq_self,Zfg,Zhc,wB,Zff,gx,gk,J8];refine W.ite (fun q1=>?_) (fun q1=>?_)
    . rw[q1] at hd;simp only[wA,↓Qc,simprocAttr];refine W.pcall (Zz 200) rfl rfl rfl ?_;rintro _ rfl;simp only[wA,↓Qc,simprocAttr,Q7,ta,new,Qb,Qa,and_false,false_and,and_true,true_and,and_self,eq_self,Zfg,Zhc,glt,g4,splice,wZ];exact W.done (Z2.ret (Q1 rfl rfl (Qm (by first|exact F.lt|assumption|(simp only[Qa];first|exact F.lt|assumption))) (by rw[Jp];rfl)) (bad _ 200 _ _ (hd) (Ch.refl K2)))
    . rw[q1] at hd;simp only[Ze7,if_false] at hd;simp only[wA,↓Qc,simprocAttr,ta,new,Qb,Qa,and_false,false_and,and_true,true_and,and_self,eq_self,Zfg,Zhc,wB,Zff,g3,Qf];refine W.guardT (fun q2=>?_) (fun q2=>?_)
      . have q2' :c.kind≠18:=by simpa using q2
        simp only[wA,↓Qc,simprocAttr,q2,ta,new,Qb,Qa,and_false,false_and,and_true,true_and,and_self,eq_self,Zfg,Zhc,wB,Zff,g3,Qf];refine W.pcall (Qko c.name (by have:=hc.name;omega)) rfl rfl rfl ?_;rintro _ rfl;simp only[wA,↓Qc,simprocAttr,q2];refine W.ite (fun q3=>?_) (fun q3=>?_)
        . have q3' :Kh c.name≠0:=by simpa using q3
          rw[if_pos ⟨q2',q3'⟩] at hd;simp only[wA,↓Qc,simprocAttr];refine W.pcall (Zz 240) rfl rfl rfl ?_;rintro _ rfl;simp only[wA,↓Qc,simprocAttr,Q7,ta,new,Qb,Qa,and_false,false_and,and_true,true_and,and_self,eq_self,Zfg,Zhc,glt,g4,splice,wZ];exact W.done (Z2.ret (Q1 rfl rfl (Qm (by first|exact F.lt|assumption|(simp only[Qa];first|exact F.lt|assumption))) (by rw[Jp];rfl)) (bad _ 240 _ _ (hd) (Ch.refl K2)))
        . have q3' :¬Kh c.name≠0:=by simpa using q3
          rw[if_neg (fun h=>q3' h.2)] at hd;simp only[wA,↓Qc,simprocAttr,ta,new,Qb,Qa,and_false,false_and,and_true,true_and,and_self,eq_self,Zfg,Zhc,wB,Zff,g3,Qf];refine W.call (p8 K2 x.loc x.line c dv okL ⟨l,b1,k1,hL⟩ hc) p1 p2 p3 p4 p5 ?_;rintro v J ⟨hr,hl,hrest⟩;have hk4:(Kx c.kind x.line c).1.key=x.line.key:=Qoh _ _ _;have hJ:Zo J h {S with lines:=Go.Mod.putL S.lines c.a (Kx c.kind x.line c).1} (Qfb xs c.a (Kx c.kind x.line c).1 x.loc) kl:=hh2.line_upd (hh.uniq ok) hx hl hrest hk4;have haJ:Qa8 K2 J:=by refine⟨hrest.len,fun f s o g1 g2=>?_⟩;rw[hrest.get f s (Q9 g1) (Ky g1 g2 hL.cells (Qen (by rw[hL.obs.len];exact okL.n16))) (Ky g1 g2 hL.names rfl)];exact g1
          have ln:n<J.length:=Zfa glt haJ.len;have j4:=haJ.get n 4 _ g4 zc;obtain⟨x3,x4,x10,e1,e2,e5,e6,e7,e8,e9,rfl,s3,s4,s10⟩:=hr.cells;simp only[wA,↓Qc,simprocAttr,ta,new,Qb,Qa,and_false,false_and,and_true,true_and,and_self,eq_self,Zfg,Zhc,wB,ln,j4,s3,s4,s10];refine W.done (Z2.ret (Q1 rfl rfl (Qm (by first|exact F.lt|assumption|(simp only[Qa];first|exact F.lt|assumption))) (by rw[Jp];rfl)) ?_);rw[hd] at okd⊢;exact⟨hr.fin (by omega) (by omega) ln,fin K2 glen glow gown g4 J _ _ _ ⟨_,_,hJ,hh2.kOut⟩ haJ okd⟩
      . have q2' :c.kind=18:=by simpa using q2
        rw[if_neg (fun h=>h.1 q2')] at hd;simp only[wA,↓Qc,simprocAttr,q2,ta,new,Qb,Qa,and_false,false_and,and_true,true_and,and_self,eq_self,Zfg,Zhc,wB,Zff,g3,Qf];refine W.call (p8 K2 x.loc x.line c dv okL ⟨l,b1,k1,hL⟩ hc) p1 p2 p3 p4 p5 ?_;rintro v J ⟨hr,hl,hrest⟩;have hk4:(Kx c.kind x.line c).1.key=x.line.key:=Qoh _ _ _;have hJ:Zo J h {S with lines:=Go.Mod.putL S.lines c.a (Kx c.kind x.line c).1} (Qfb xs c.a (Kx c.kind x.line c).1 x.loc) kl:=hh2.line_upd (hh.uniq ok) hx hl hrest hk4;have haJ:Qa8 K2 J:=by refine⟨hrest.len,fun f s o g1 g2=>?_⟩;rw[hrest.get f s (Q9 g1) (Ky g1 g2 hL.cells (Qen (by rw[hL.obs.len];exact okL.n16))) (Ky g1 g2 hL.names rfl)];exact g1
        have ln:n<J.length:=Zfa glt haJ.len;have j4:=haJ.get n 4 _ g4 zc;obtain⟨x3,x4,x10,e1,e2,e5,e6,e7,e8,e9,rfl,s3,s4,s10⟩:=hr.cells;simp only[wA,↓Qc,simprocAttr,ta,new,Qb,Qa,and_false,false_and,and_true,true_and,and_self,eq_self,Zfg,Zhc,wB,ln,j4,s3,s4,s10];refine W.done (Z2.ret (Q1 rfl rfl (Qm (by first|exact F.lt|assumption|(simp only[Qa];first|exact F.lt|assumption))) (by rw[Jp];rfl)) ?_);rw[hd] at okd⊢;exact⟨hr.fin (by omega) (by omega) ln,fin K2 glen glow gown g4 J _ _ _ ⟨_,_,hJ,hh2.kOut⟩ haJ okd⟩
end Go.Proofs.YtmapmgfiamfocaaGreat
namespace Go.Proofs.YtmapmgfiamfocaaGreat
open Go.AM Go.Mod
attribute [local irreducible] U W Zd
def Qah:List V->List Zi->Prop
 |cs,[]=>cs=[]
 |cs,r::rs=>∃c d,cs=c++d/\c.length=10/\Y4 (.agg c) r/\Qah d rs
def Qd5:List V->List Zc->Prop
 |cs,[]=>cs=[]
 |cs,m::ms=>∃dv d,cs=Qf m dv++d/\Ye m dv/\Qd5 d ms
theorem Qah.add{r:Zi}{c:List V}(hl:c.length=10)(hr:Y4 (.agg c) r):∀{rs:List Zi} {cs:List V},Qah cs rs->Qah (cs++c) (rs++[r])
 |[],cs,h=>by
  have:cs=[]:=h;subst this;exact⟨c,[],by simp,hl,hr,rfl⟩
 |x::rs,cs,h=>by
  obtain⟨a,d,rfl,h1,h2,h3⟩:=h;exact⟨a,d++c,by simp,h1,h2,Qah.add hl hr h3⟩
theorem Qah.len:∀{rs:List Zi} {cs:List V},Qah cs rs->cs.length=rs.length*10
 |[],cs,h=>by
  have:cs=[]:=h;subst this;rfl
 |x::rs,cs,h=>by
  obtain⟨a,d,rfl,h1,h2,h3⟩:=h;have:=h3.len;simp only[Zfv,Zgz];omega
theorem Qah.at_:∀{rs:List Zi} {cs:List V} {i:Nat} {r:Zi},Qah cs rs->rs[i]?=some r->Y4 (.agg ((cs.drop (i*10)).take 10)) r
 |[],cs,i,r,h,hi=>by simp at hi
 |x::rs,cs,0,r,h,hi=>by
  obtain⟨a,d,rfl,h1,h2,h3⟩:=h;simp only[Zg8,Zic] at hi;subst hi;rw[Nat.zero_mul,Zhm,Zh0 (by omega),Zhi (by omega)];exact h2
 |x::rs,cs,i+1,r,h,hi=>by
  obtain⟨a,d,rfl,h1,h2,h3⟩:=h;simp only[Zg9] at hi;rw[show(i+1)*10=a.length+i*10 by omega,<-Zfs,Zh1];exact Qah.at_ h3 hi
theorem Qd5.len:∀{ms:List Zc} {cs:List V},Qd5 cs ms->cs.length=ms.length*8
 |[],cs,h=>by
  have:cs=[]:=h;subst this;rfl
 |x::rs,cs,h=>by
  obtain⟨dv,d,rfl,h1,h2⟩:=h;have:=h2.len;simp only[Zfv,Zgz,Zg2,Qf];omega
theorem Qd5.at_:∀{ms:List Zc} {cs:List V} {i:Nat} {m:Zc},Qd5 cs ms->ms[i]?=some m->∃dv,(cs.drop (i*8)).take 8=Qf m dv/\Ye m dv
 |[],cs,i,r,h,hi=>by simp at hi
 |x::rs,cs,0,r,h,hi=>by
  obtain⟨dv,d,rfl,h1,h2⟩:=h;simp only[Zg8,Zic] at hi;subst hi;exact⟨dv,by rfl,h1⟩
 |x::rs,cs,i+1,r,h,hi=>by
  obtain⟨dv,d,rfl,h1,h2⟩:=h;simp only[Zg9] at hi;rw[show(i+1)*8=(Qf x dv).length+i*8 by simp[Qf];omega,<-Zfs,Zh1];exact Qd5.at_ h2 hi
theorem Ql.nfp{esz n:Nat}{v:V}{cells:List V}(h:Ql esz v cells n)(hp:Zt cells=true)(p:Nat->Nat->Bool)(hn:nfL p cells=true):v.nf p=true:=by
 obtain⟨_,⟨rfl,_⟩|⟨f,rfl⟩⟩:=h
 . rfl
 . simp only[V.nf,hp,hn,Zgp]
theorem Qyq(p:Nat->Nat->Bool)(l:Qq):nfL p (Qp l)=true:=by rw[Qcl];intro x hx;obtain⟨b,_,rfl⟩:=Zfm.1 hx;rfl
theorem Qx.nf{v:V}{l:Qq}(h:Qx v l)(p:Nat->Nat->Bool):v.nf p=true:=Ql.nfp h (X6 l) p (Qyq p l)
theorem pnf:PNF Qv:=by
 intro f g hg p fr dst G args x hfr hG ha hx;simp only[Qv] at hg;split at hg
 . cases hg;unfold Qd1 at hx;split at hx
   . split at hx
     . rename_i hm;cases hx;simp only[nfL,V.nf,Bool.and_true,Zf6] at ha;exact⟨by simp[V.nf,hfr],Z7 (hfr _) (hG _ _ _ hm ha)⟩
     . cases hx
   . cases hx
 . split at hg
   . cases hg;unfold Qav at hx;have srt:∀l:List Qq,(Qai (l.map .str)).nf p=true:=by
      intro l;unfold Qai;split
      . rfl
      . simp only[V.nf,Zfr];exact⟨Qor l,by rw[Qcl];intro x hx;obtain⟨b,_,rfl⟩:=Zfm.1 hx;rfl⟩
     repeat (split at hx<;>try cases hx)
     exact⟨srt _,Bh⟩
   . split at hg
     . cases hg;unfold Qaq at hx;have srt:∀l:List Int,(Qai (l.map (.int .i64))).nf p=true:=by
        intro l;unfold Qai;split
        . rfl
        . simp only[V.nf,Zfr];exact⟨Qpn l,by rw[Qcl];intro x hx;obtain⟨b,_,rfl⟩:=Zfm.1 hx;rfl⟩
       repeat (split at hx<;>try cases hx)
       exact⟨srt _,Bh⟩
     . cases hg
theorem Zo.core{H H' :Qg}{h:Hs}{S:MSt}{xs:List Ent}{kl:List (Nat×Nat)}(hh:Zo H h S xs kl)(h16:∀x∈xs,x.line.objs.length=16)(hc:∀f s o,Qd H f s=some o->Qa3 o=false->Qd H' f s=some o):Zo H' h S xs kl:=by
 obtain⟨bs,clk,hm,hb⟩:=hh.lmap;refine⟨hc _ _ _ hh.cell rfl,⟨bs,clk,hc _ _ _ hm rfl,hb⟩,hh.lines,fun x hx=>?_,hh.key,fun i q hq=>?_,hh.klen,hh.apart,hh.kapart⟩
 . obtain⟨l,b,k,hL⟩:=hh.line x hx;exact⟨l,b,k,hL.obs,hc _ _ _ hL.cells (Qen (by rw[hL.obs.len];exact h16 x hx)),hc _ _ _ hL.names rfl,hL.born⟩
 . obtain⟨k,h1,h2⟩:=hh.keys i q hq;exact⟨k,h1,hc _ _ _ h2 rfl⟩
theorem Q20{H:Qg}{h:Hs}{S:MSt}{xs:List Ent}{kl:List (Nat×Nat)}(hh:Zo H h S xs kl){n:Nat}(ok:J1 S n):∀x∈xs,x.line.objs.length=16:=fun x hx=>(ok.ok (x.id,x.line) (by rw[hh.lines];exact Zfm.2 ⟨x,hx,rfl⟩)).n16
theorem Qdu:∀(l:List Zc) (S:MSt),(Zj S l).2.length=l.length
 |[],_=>rfl
 |c::l,S=>by simp[Zj,Qdu l]
theorem Qf5:∀(l m:List Zc) (S:MSt),Zj S (l++m)=((Zj (Zj S l).1 m).1,(Zj S l).2++(Zj (Zj S l).1 m).2)
 |[],_,_=>rfl
 |c::l,m,S=>by simp[Zj,Qf5 l m]
theorem runCalls_ok:∀(l:List Zc) (S:MSt) (n:Nat),J1 S n->J1 (Zj S l).1 (n+l.length)
 |[],S,n,h=>h
 |c::l,S,n,h=>by
  have:=runCalls_ok l (Z0 S c).1 (n+1) (Qtb h c);simp only[Zj,Zgz];rw[show n+(l.length+1)=n+1+l.length by omega];exact this
theorem Qka:J1 Zq 0:=⟨by simp[Zq],by simp[Zq],by simp[Zq],by simp[Zq],by simp[Zq],by simp[Zq,ids],by simp[Zq],by simp[Zq],by simp[Zq],by simp[Zq]⟩
theorem Qt0{p:Nat->Nat->Bool}:∀es:List (V×V),nfM p es=true->Qfe p es=false
 |[],_=>rfl
 |(a,b)::es,h=>by
  simp only[nfM,Zfr] at h;simp[Qfe,Qnl a h.1.1,Qnl b h.1.2,Qt0 es h.2]
theorem Q3p{p:Nat->Nat->Bool}:∀o:O,o.nf p=true->o.refs p=false
 | .cells xs,h=>Qbe xs h
 | .map es _ _,h=>Qt0 es h
 | .iter (some m) _ _ _,h=>by simpa [O.nf,O.refs] using h
 | .loop _ _ _ _ t,h=>Qbe t h
 | .mgrow xs _,h=>Qbe xs h
 | .iter none _ _ _,_| .grow _,_| .siter _ _,_| .dead,_=>rfl
theorem Qkc{q:Nat->Bool}{e:Nat×O}:∀{l:AM.Frame},e∈Xq q l->e∈l/\q e.1=false
 |[],h=>by cases h
 |(k,o)::l,h=>by
  simp only[Xq] at h;split at h
  . have:=Qkc h;exact⟨Zfj _ this.1,this.2⟩
  . rename_i hq;rcases Zfi.1 h with rfl|h
    . exact⟨by simp,by simpa using hq⟩
    . have:=Qkc h;exact⟨Zfj _ this.1,this.2⟩
theorem ClA.wr{p:Nat->Nat->Bool}{H:Qg}(h:ClA p H){f s:Nat}{o:O}(ho:p f s=true\/o.nf p=true):ClA p (Qs H f s o):=by
 intro f' fr hfr e he hp;unfold Qs at hfr;rw[Ze2] at hfr;obtain⟨fr0,h3,h4⟩:=Zgl.1 hfr;by_cases e1:f=f'
 . subst e1;simp only[if_true] at h4;subst h4;rcases Qog he with h5|h5
   . exact h f fr0 h3 e h5 hp
   . subst h5;rcases ho with ho|ho
     . simp only at hp;rw[ho] at hp;cases hp
     . exact ho
 . simp only[e1,if_false] at h4;subst h4;exact h f' _ h3 e he hp
theorem ClA.del{p:Nat->Nat->Bool}{H:Qg}(h:ClA p H)(k:Nat)(q:Nat->Bool):ClA p (H.modify k (Xq q)):=by
 intro f' fr hfr e he hp;rw[Ze2] at hfr;obtain⟨fr0,h3,h4⟩:=Zgl.1 hfr;by_cases e1:k=f'
 . subst e1;simp only[if_true] at h4;subst h4;exact h k fr0 h3 e (Qkc he).1 hp
 . simp only[e1,if_false] at h4;subst h4;exact h f' _ h3 e he hp
theorem Q0x{H K:Qg}{n:Nat}(F:Qkt H n K)(hH:∀fr∈H,fr=[])(hn:n=H.length):∀(f:Nat) (fr:AM.Frame),K[f]?=some fr->fr=[]:=by
 intro f fr hf;have hg:∀s,Qa4 fr s=none:=by
  intro s;have h1:Qd K f s=Qa4 fr s:=by unfold Qd;rw[hf]
  rw[<-h1];have hl:=Yw hf;rw[F.len] at hl;by_cases e:f=n
  . subst e;exact F.own s
  . rw[F.low f s (by omega)];unfold Qd;cases hq:H[f]? with
    |none=>rfl
    |some fr' =>rw[hH fr' (Zgv hq)];rfl
 cases fr with
 |nil=>rfl
 |cons e fr=>
  obtain⟨k,o⟩:=e;have:=hg k;simp[Qa4] at this
theorem ClA.of_nil(p:Nat->Nat->Bool){K:Qg}(h:∀(f:Nat) (fr:AM.Frame),K[f]?=some fr->fr=[]):ClA p K:=by intro f fr hf e he;rw[h f fr hf] at he;cases he
section
variable {P : Program} {t t2 e e2 : TypeId} {n by_ m : Nat} {z cs : List V} {x : V} {g : Get} {mt : Nat -> Bool} {fr d : Nat} {dst : Option Nat}
theorem Qid{c0:List V}{f s k:Nat}(hu:P.underlying t=some (.slice e))(hs:sz P e=some n)(hb:byt P e=some by_)(hz:zeroCells P e=some z)(hzl:z.length=n)(ht:P.underlying t2=some (.slice e2))
 (hx:Z3 g n x=some (cs,m))(hm:0<m)(hr:Qa1 (k+m) by_=true)(hsc:cs.all V.scalar=true)(hg:g f s=some (.grow k)):
 Yi P mt fr g dst t t2 (.gS f s c0 k n) x=some (.val (.gS f s (c0++cs) (k+m) n) (some (f,s,.grow (k+m)))):=by
 obtain⟨m,rfl⟩:∃k,m=k+1:=⟨m-1,by omega⟩;simp only[Yi,hu,hs,hb,hz,hzl,if_true,Qcj,ht,hx,appendTo,hr,hsc,hg,and_self]
theorem Qcq{chk:List V}(hd:mt d=false)(hg:g fr d=none)(h3:mt (Qi9 d)=false)(h4:mt (Qlv d)=false):grown mt g fr (some d) cs chk m n=some (.val (.gS fr d cs m n) (some (fr,d,.grow m))):=by simp only[grown,hd,h3,h4,Ze7,if_false,new,hg]
end
def dAt(cs:List V)(i f s:Nat):Prop:=∃n,cs[i*10+2]?=some (.mg f s n 1)
structure Qa6(H:Qg)(lo:Nat)(cs:List V)(rs:List Zi):Prop where
 len:cs.length=rs.length*10
 at_:∀(i:Nat) (r:Zi),rs[i]?=some r->Qdg H lo (.agg ((cs.drop (i*10)).take 10)) r
 dist:∀(i j f s:Nat),i<j->dAt cs i f s->¬dAt cs j f s
theorem cs_at{cs:List V}{i:Nat}(h:i*10+10<=cs.length):((cs.drop (i*10)).take 10)[2]?=cs[i*10+2]?:=by rw[Zfh,if_pos (by omega),Zhv]
theorem Qa6.bytes{H:Qg}{lo:Nat}{cs:List V}{rs:List Zi}(h:Qa6 H lo cs rs){i:Nat}{r:Zi}(hr:rs[i]?=some r):∃dv,cs[i*10+2]?=some dv/\Qnc H lo dv r.data:=by obtain⟨dv,nv,lv,e,h1,_⟩:=h.at_ i r hr;have hi:=Yw hr;have hl:=h.len;injection e with e;have:=cs_at (cs:=cs) (i:=i) (by omega);rw[e] at this;exact⟨dv,this.symm,h1⟩
theorem Qa6.lt{H:Qg}{lo:Nat}{cs:List V}{rs:List Zi}(h:Qa6 H lo cs rs){i f s:Nat}(hd:dAt cs i f s):∃l:Qq,lo<=f/\Qd H f s=some (.mgrow (Qp l) l.length)/\∃r,rs[i]?=some r/\r.data=l:=by
 obtain⟨n,hn⟩:=hd;have hi:=Yw hn;have hl:=h.len;obtain⟨r,hr⟩:∃r,rs[i]?=some r:=⟨rs[i]'(by omega),Ze3 (by omega)⟩;obtain⟨dv,h1,h2⟩:=h.bytes hr;rw[hn] at h1;cases h1;rcases h2 with⟨_,h2⟩|⟨h2,_⟩|⟨_,_,_,_,h2,_⟩|⟨f',s',h3,h2,h4⟩
 . obtain⟨_,⟨h2,_⟩|⟨_,h2⟩⟩:=h2<;>cases h2
 . cases h2
 . cases h2
 . injection h2 with e1 e2;subst e1;subst e2;exact⟨r.data,h3,h4,r,hr,rfl⟩
theorem Qdg.to{H H' :Qg}{lo:Nat}{v:V}{r:Zi}(h:Qdg H lo v r)(c:∀f s o,lo<=f->Qd H f s=some o->Qa3 o=true->Qd H' f s=some o):Qdg H' lo v r:=by
 obtain⟨dv,nv,lv,e,h1,h2,h3⟩:=h;refine⟨dv,nv,lv,e,?_,h2,h3⟩;rcases h1 with h1|h1|⟨f,s,g1,g2,rfl,g3⟩|⟨f,s,g1,rfl,g3⟩
 . exact .inl h1
 . exact .inr (.inl h1)
 . exact .inr (.inr (.inl ⟨f,s,g1,g2,rfl,c _ _ _ g1 g3 rfl⟩))
 . exact .inr (.inr (.inr ⟨f,s,g1,rfl,c _ _ _ g1 g3 rfl⟩))
theorem Qa6.to{H H' :Qg}{lo:Nat}{cs:List V}{rs:List Zi}(h:Qa6 H lo cs rs)(c:∀f s o,lo<=f->Qd H f s=some o->Qa3 o=true->Qd H' f s=some o):Qa6 H' lo cs rs:=
 ⟨h.len,fun i r hr=>(h.at_ i r hr).to c,h.dist⟩
theorem Qdg.weak{H:Qg}{lo lo' :Nat}{v:V}{r:Zi}(h:Qdg H lo v r)(hl:lo' <=lo):Qdg H lo' v r:=by obtain⟨dv,nv,lv,e,h1,h2,h3⟩:=h;exact⟨dv,nv,lv,e,h1.to hl (fun _ _ _ _=>rfl),h2,h3⟩
theorem Qa6.add{H:Qg}{lo k:Nat}{cs c:List V}{rs:List Zi}{r:Zi}(h:Qa6 H lo cs rs)(hr:Qdg H k (.agg c) r)(hk:lo<=k)(hc:c.length=10)(hb:∀i f s,dAt cs i f s->f<k):Qa6 H lo (cs++c) (rs++[r]):=by
 have hl:=h.len;refine⟨by simp only[Zfv,Zgz,Zg2,hl,hc];omega,fun i r' hr' =>?_,fun i j f s hij hi hj=>?_⟩
 . by_cases e:i<rs.length
   . rw[Zfy e] at hr';rw[List.drop_append_of_le_length (by omega),Zh0 (by rw[Zga];omega)];exact h.at_ i r' hr'
   . rw[Zfz (by omega)] at hr';have e2:i-rs.length=0:=by
      have:=Yw hr';simp only[Zgz,Zg2] at this;omega
     rw[e2] at hr';simp only[Zg8,Zic] at hr';subst hr';have e3:i*10=cs.length:=by omega
     rw[e3,Zh1,Zhi (by omega)];exact hr.weak hk
 . obtain⟨n,hn⟩:=hi;obtain⟨m,hm⟩:=hj;have h1:=Yw hm;simp only[Zfv,hc] at h1;have hi2:i*10+2<cs.length:=by omega
   rw[Zfy hi2] at hn;by_cases e:j*10+2<cs.length
   . rw[Zfy e] at hm;exact h.dist i j f s hij ⟨n,hn⟩ ⟨m,hm⟩
   . have hf:=hb i f s ⟨n,hn⟩;rw[Zfz (by omega)] at hm;have e4:j*10+2-cs.length=2:=by omega
     rw[e4] at hm;obtain⟨dv,nv,lv,e5,h5,_⟩:=hr;injection e5 with e5;subst e5;simp only[Zg9,Zg8,Zic] at hm;subst hm;rcases h5 with⟨_,h2⟩|⟨h2,_⟩|⟨_,_,_,_,h2,_⟩|⟨f',s',h3,h2,h4⟩
     . obtain⟨_,⟨h2,_⟩|⟨_,h2⟩⟩:=h2<;>cases h2
     . cases h2
     . cases h2
     . injection h2 with e1 e2;subst e1;omega
theorem Qa6.nil(H:Qg)(lo:Nat):Qa6 H lo [] []:=⟨rfl,fun i r h=>by simp at h,fun i j f s _ ⟨n,h⟩=>by simp at h⟩
def p7(n f s:Nat):Bool:=f==n&&[7,24].contains s
def p25(n f s:Nat):Bool:=f==n&&s==25
theorem ClA.drop7{n:Nat}{H:Qg}(h:ClA (p7 n) H):(∀fr∈H.modify n (Xq fun s=>[7,24].contains s),∀e∈fr,e.2.nf (p7 n)=true):=by
 intro fr hfr e he;obtain⟨f,hf⟩:=List.getElem?_of_mem hfr;rw[Ze2] at hf;obtain⟨fr0,h3,h4⟩:=Zgl.1 hf;by_cases e1:n=f
 . subst e1;simp only[if_true] at h4;subst h4;have:=Qkc he;exact h n fr0 h3 e this.1 (by unfold p7;rw[this.2,Bool.and_false])
 . simp only[e1,if_false] at h4;subst h4;exact h f _ h3 e he (by unfold p7;rw[show(f==n)=false by simpa using fun h=>e1 h.symm];rfl)
theorem ClA.of_all{p:Nat->Nat->Bool}{H:Qg}(h:∀fr∈H,∀e∈fr,e.2.nf p=true):ClA p H:=fun f fr hfr e he _=>h fr (Zgv hfr) e he
def OutM(n:Nat)(H:Qg)(ov:V)(rs:List Zi):Prop:=(rs=[]/\ov= .nS/\Qd H n 25=none)\/∃os,0<rs.length/\ov= .gS n 25 os rs.length 10/\Qd H n 25=some (.grow rs.length)/\Qa6 H (n+1) os rs/\nfL (p7 n) os=true
def OutR(H:Qg)(lo:Nat)(ov:V)(rs:List Zi):Prop:=(rs=[]/\ov= .nS)\/∃os f s,0<rs.length/\ov= .gS f s os rs.length 10/\Qa6 H lo os rs
theorem Qkp:byt Tryz.prog 30=some 136:=by kernel_rfl
theorem sc_ms{g:Get}{n:Nat}{c:List V}(h:g n 24=some (.cells c))(hc:c.length=10):Z3 g 10 (.mS n 24 0 1 (some 1) 10)=some (c,1):=by simp only[Z3,h,hc,true_and,Zff,Nat.one_mul,Ze8,if_true,Zhm];rw[<-hc,Zg7]
theorem Qy6(H:Qg)(hH:∀fr∈H,fr=[])(v:V)(cs:List V)(l:List Zc)(hv:Ql 8 v cs l.length)(hc0:¬64<l.length->Qd5 cs l):CR Tryz.prog Qv 5 [v] H fun r H' =>∃ov,r= .tuple [ov,.int .i64 (if 64<l.length then 4 else 0)]/\
 OutR H' (H.length+1) ov (if 64<l.length then[] else(Zj Zq l).2):=by
 refine Y2 Tryz.func5 rfl ?_;intro n K hn F;have hnil:=Q0x F hH hn;have len:=hv.len Tryz.underlying22;simp only[wA,↓Qc,simprocAttr,Tryz.ntmps5,len];refine W.ite (fun h1=>?_) (fun h1=>?_)
 . have h1' :64<l.length:=by have:=of_decide_eq_true h1;omega
   simp only[wA,↓Qc,simprocAttr];refine W.done (Z2.ret rfl ⟨.nS,?_,?_⟩)
   . rw[if_pos h1'];rfl
   . rw[if_pos h1'];exact .inl ⟨rfl,rfl⟩
 . have h1' :¬64<l.length:=by have:=of_decide_eq_false h1;omega
   have hc:=hc0 h1';simp only[if_neg h1'];simp only[wA,↓Qc,simprocAttr,ta,new,Qb,Qa,and_false,false_and,and_true,true_and,and_self,eq_self,Zfg,Zhc,wB,F.own,F.lt,len,Tryz.underlying43];refine W.ul ?_;have hK:∀(p:Nat->Nat->Bool),p n 11=false->ClA p (Qs (Qs K n 11 (.map [] [] 0)) n 13 (.cells [.int .i64 0,.map n 11])):=fun p hp=>
    ClA.wr (ClA.wr (ClA.of_nil p hnil) (.inr rfl)) (.inr (by simp only[O.nf,nfL,V.nf,hp];rfl))
   refine W.loop (fun(i:Nat) t H1=>∃ov,Bq [4,5,14,15,16] t 0=Q5i (.ptr n 13 0) ov v (.int .i64 l.length) (.int .i64 i)/\i<=l.length/\n<H1.length/\Qkw H1 ⟨n,13,n,11⟩ (Zj Zq (l.take i)).1/\ClA (p7 n) H1/\ClA (p25 n) H1/\OutM n H1 ov (Zj Zq (l.take i)).2/\
    (Qd H1 n 7=none\/∃ys,Qd H1 n 7=some (.cells ys)/\ys.length=8)/\(Qd H1 n 24=none\/∃ys,Qd H1 n 24=some (.cells ys)/\ys.length=10)) (fun i=>l.length-i) ?_ 0 ⟨.nS,rfl,by omega,(by simp only[Qa];exact F.lt),?_,hK _ (by simp[p7]),hK _ (by simp[p25]),.inl ⟨rfl,rfl,?_⟩,.inl ?_,.inl ?_⟩ rfl
   rotate_left
   . refine⟨[],[],?_,⟨[],0,?_,⟨rfl,List.nodup_nil,by simp⟩⟩,rfl,by simp,by simp,by simp,rfl,.nil,by simp⟩
     . simp only[Qb,Qa,F.lt,and_self,if_true];rfl
     . simp only[Qb,Qa,F.lt,Nat.reduceEqDiff,and_false,and_self,if_true,if_false];rfl
   . simp only[Qb,Qa,F.lt,Nat.reduceEqDiff,and_false,if_false];exact F.own 25
   . simp only[Qb,Qa,F.lt,Nat.reduceEqDiff,and_false,if_false];exact F.own 7
   . simp only[Qb,Qa,F.lt,Nat.reduceEqDiff,and_false,if_false];exact F.own 24
   rintro i t H1 ⟨ov,ht,hi,hlt,⟨xs,kl,hh⟩,hcl,hcl25,hout,h7,h24⟩;have ok:=runCalls_ok (l.take i) Zq 0 Qka;rw[Zff,Zf9,Zgb hi] at ok;have hp7:p7 n=fun f s=>f==n&&[7,24].contains s:=rfl;have ovr:ov.refs (fun f s=>f==n&&[7,24].contains s)=false:=by
    rcases hout with⟨_,rfl,_⟩|⟨os,_,rfl,_,_,ho5⟩
    . rfl
    . rw[<-hp7];simp only[V.refs,Qbe _ ho5,Bool.or_false];simp[p7]
   have vr:v.refs (fun f s=>f==n&&[7,24].contains s)=false:=hv.noRefs _;have hclean:=ClA.drop7 hcl;have hclean25:=ClA.del hcl25 n (fun s=>[7,24].contains s);refine⟨_,_,Qau (kt:=[4,5,14,15,16]) (ds:=[7,24]) rfl ?_ ?_,?_⟩
   . rw[ht];simp only[Q5i,Zv,V.refs,ovr,vr];simp
   . refine Qva _ fun fr hf e he=>?_;have h3:=Q3p _ (hclean fr hf e he);exact h3
   rw[ht];have hg:∀f s,Qd (H1.modify n (Xq fun s=>[7,24].contains s)) f s=if f=n/\(s=7\/s=24) then none else Qd H1 f s:=fun f s=>by rw[Qc3];by_cases h1:f=n<;>by_cases h2:s=7<;>by_cases h3:s=24<;>simp[h1,h2,h3]
   have hl2:n<(H1.modify n (Xq fun s=>[7,24].contains s)).length:=by simpa using hlt
   have h16:=Q20 hh ok;generalize H1.modify n (Xq fun s=>[7,24].contains s)=H2 at*;have hh2:Zo H2 ⟨n,13,n,11⟩ (Zj Zq (l.take i)).1 xs kl:=hh.core h16 fun f s o h1 h2=>by
    rw[hg,if_neg]
    . exact h1
    . rintro⟨rfl,rfl|rfl⟩
      . rcases h7 with h7|⟨ys,h7,hy⟩
        . rw[h7] at h1;cases h1
        . rw[h7] at h1;cases h1;simp[Qa3,hy] at h2
      . rcases h24 with h7|⟨ys,h7,hy⟩
        . rw[h7] at h1;cases h1
        . rw[h7] at h1;cases h1;simp[Qa3,hy] at h2
   have g7:Qd H2 n 7=none:=by rw[hg];simp
   have g24:Qd H2 n 24=none:=by rw[hg];simp
   have g25:Qd H2 n 25=Qd H1 n 25:=by rw[hg];simp
   have gup:∀f s,n+1<=f->Qd H2 f s=Qd H1 f s:=fun f s h=>by rw[hg,if_neg (by omega)]
   simp only[Q5i];by_cases h:i<l.length
   . have c1:decide ((i:Int)<l.length)=true:=Zig (by omega);have w1:(IntKind.i64).wrap ((i:Int)+1)=((i+1:Nat):Int):=by rw[wrap_i64]<;>omega
     have at1:=hv.at (k:= .i64) Tryz.underlying22 sz41 (by decide) (i:=(i:Int)) (by omega) (by omega);obtain⟨dv,hcell,hok⟩:=hc.at_ (Ze3 h);have rdc:Zf Tryz.prog 41 cs ((i:Int).toNat*8)=some (.agg (Qf l[i] dv)):=by rw[rd41,if_pos (by rw[hc.len];have:(i:Int).toNat=i:=rfl;omega)];exact congrArg (fun x=>some (V.agg x)) hcell
     have sdv:=Ql.scalar hok.data;have stake:Zj Zq (l.take (i+1))=((Z0 (Zj Zq (l.take i)).1 l[i]).1,(Zj Zq (l.take i)).2++[(Z0 (Zj Zq (l.take i)).1 l[i]).2]):=by rw[Zg6,Ze3 h,Zhu,Qf5];rfl
     simp only[wA,↓Qc,simprocAttr,c1,ta,new,Qb,Qa,and_false,false_and,and_true,true_and,and_self,eq_self,Zfg,Zhc,wB,g7,hl2,↓at1,↓rdc,Qf,sdv,Qcm];have hh3:Qkw (Qs H2 n 7 (.cells (Qf l[i] dv))) ⟨n,13,n,11⟩ (Zj Zq (l.take i)).1:=⟨xs,kl,hh2.core h16 fun f s o h1 h2=>by
      rw[Ks hl2]
      . exact h1
      . rintro⟨rfl,rfl⟩
        rw[g7] at h1;cases h1⟩
     have hle:i<=1000:=by omega
     have hs3:=do_h _ _ _ i l[i] dv hh3 ok hle hok;simp only[Qf] at hs3;have hkeep:=hs3.keep pnf (p7 n) (fun f s hp=>by
      have:f=n:=by simp[p7] at hp;exact hp.1
      subst this
      simp only[Qa];exact hl2) (ClA.wr (ClA.of_all hclean) (.inl (by simp[p7]))) (by simp only[nfL,V.nf,p7,Qx.nf hok.data];simp)
     have hkeep2:=hkeep.keep pnf (p25 n) (fun f s hp=>by
      have:f=n:=by simp[p25] at hp;exact hp.1
      subst this
      simp only[Qa];exact hl2) (ClA.wr hclean25 (.inr (by simp only[O.nf,nfL,V.nf,Qx.nf hok.data];rfl))) (by simp only[nfL,V.nf,p25,Qx.nf hok.data];simp)
     refine W.call hkeep2 rfl rfl rfl rfl rfl ?_;rintro r J ⟨⟨⟨hr,⟨xs',kl',hj,_⟩,has⟩,hgd,hnf⟩,hgd2,hnf2⟩;have ln:n<J.length:=Zfa (by simp only[Qa];exact hl2) has.len;have j7:Qd J n 7=some (.cells (Qf l[i] dv)):=has.get n 7 _ (Qm hl2) rfl;have j24:Qd J n 24=none:=by rw[hgd.keep n 24 (by simp[p7]),Jq hl2 (by decide)];exact g24
     have j25:∀o,Qd H1 n 25=some o->Qa3 o=true->Qd J n 25=some o:=fun o h1 h2=>has.get n 25 o (by rw[Jq hl2 (by decide),g25];exact h1) h2;have j25n:Qd H1 n 25=none->Qd J n 25=none:=fun h1=>by rw[hgd2.keep n 25 (by simp[p25]),Jq hl2 (by decide),g25];exact h1
     have jup:∀f s o,n+1<=f->Qd H1 f s=some o->Qa3 o=true->Qd J f s=some o:=fun f s o h1 h2 h3=>has.get f s o (by rw[Q8 hl2 (by omega),gup f s h1];exact h2) h3;obtain⟨x3,x4,x10,e1,e2,e5,e6,e7,e8,e9,rfl,s3,s4,s10⟩:=hr.cells;have okJ:=runCalls_ok (l.take (i+1)) Zq 0 Qka;rw[Zff,Zf9,Zgb (by omega),stake] at okJ;have h16j:=Q20 hj okJ;have hal:[V.int .i64 e1,.int .i64 e2,x3,x4,.int .i64 e5,.int .u8 e6,.int .i64 e7,.int .i64 e8,.str e9,x10].all V.scalar=true:=by simp only[Zht,s3,s4,s10];rfl
     rw[Qa] at hr;have hr1:=hr;simp only[V.nf] at hnf hnf2;generalize hcq:[V.int .i64 e1,.int .i64 e2,x3,x4,.int .i64 e5,.int .u8 e6,.int .i64 e7,.int .i64 e8,.str e9,x10]=c at*;have hcl10:c.length=10:=by rw[<-hcq];rfl
     have jA:∀o,Qd (Qs (Qs J n 24 (.cells c)) n 25 o) n 25=some o:=fun o=>Qm (by simp only[Qa];exact ln);have fin:∀o,ClA (p7 n) (Qs (Qs J n 24 (.cells c)) n 25 (.grow o))/\ClA (p25 n) (Qs (Qs J n 24 (.cells c)) n 25 (.grow o))/\(Qd (Qs (Qs J n 24 (.cells c)) n 25 (.grow o)) n 7=none\/∃ys,Qd (Qs (Qs J n 24 (.cells c)) n 25 (.grow o)) n 7=some (.cells ys)/\ys.length=8)/\(Qd (Qs (Qs J n 24 (.cells c)) n 25 (.grow o)) n 24=none\/∃ys,Qd (Qs (Qs J n 24 (.cells c)) n 25 (.grow o)) n 24=some (.cells ys)/\ys.length=10):=by intro o;refine⟨ClA.wr (ClA.wr hgd.ca (.inl (by simp[p7]))) (.inr rfl),ClA.wr (ClA.wr hgd2.ca (.inr (show O.nf _ (.cells c)=true from hnf2))) (.inl (by simp[p25])),.inr ⟨_,(Jq (by simp only[Qa];exact ln) (by decide)).trans ((Jq ln (by decide)).trans j7),rfl⟩,.inr ⟨c,?_,hcl10⟩⟩;rw[Jq (by simp only[Qa];exact ln) (by decide)];exact Qm ln
     have hrf:Qdg (Qs (Qs J n 24 (.cells c)) n 25 (.grow ((Zj Zq (l.take i)).2.length+1))) H2.length (.agg c) (Z0 (Zj Zq (l.take i)).1 l[i]).2:=hr.to fun f s o h1 h2 _=>by rw[Q8 (by simp only[Qa];exact ln) (by omega),Q8 ln (by omega)];exact h2
     have hju:∀o' f s o,n+1<=f->Qd H1 f s=some o->Qa3 o=true->Qd (Qs (Qs J n 24 (.cells c)) n 25 o') f s=some o:=fun o' f s o h1 h2 h3=>by rw[Q8 (by simp only[Qa];exact ln) (by omega),Q8 ln (by omega)];exact jup f s o h1 h2 h3
     have hhJ:Qd J n 25=none\/(∃k,Qd J n 25=some (.grow k))->∀o,Qkw (Qs (Qs J n 24 (.cells c)) n 25 o) ⟨n,13,n,11⟩ (Z0 (Zj Zq (l.take i)).1 l[i]).1:=fun h25 o=>⟨xs',kl',hj.core h16j fun f s o h1 h2=>by
      rw[Ks (by simp only[Qa];exact ln),Ks ln]
      . exact h1
      . rintro⟨rfl,rfl⟩;rw[j24] at h1;cases h1
      . rintro⟨rfl,rfl⟩;rcases h25 with h25|⟨k,h25⟩
        . rw[h25] at h1;cases h1
        . rw[h25] at h1;cases h1;cases h2⟩
     rcases hout with⟨ho1,rfl,ho2⟩|⟨os,ho1,rfl,ho2,ho3,ho4⟩
     . have g25n:Qd (Qs J n 24 (.cells c)) n 25=none:=(Jq ln (by decide)).trans (j25n ho2);have ap:=fun g hg=>Qaj (P:=Tryz.prog) (mt:=Qv.mt 5) (fr:=n) (dst:=some 25) (g:=g) (t:=32) (t2:=32) (x:= .mS n 24 0 1 (some 1) 10) (m:=1) Tryz.underlying32 Qow Qkp zc30 rfl Tryz.underlying32 (sc_ms (g:=g) hg hcl10) (by decide) (Jb (by decide) (by decide));have gi:=fun g hg=>Qcq (mt:=Qv.mt 5) (fr:=n) (d:=25) (g:=g) (cs:=c) (chk:=c) (m:=1) (n:=10) rfl hg rfl rfl;simp only[wA,↓Qc,simprocAttr,ta,new,Qb,Qa,and_false,false_and,and_true,true_and,and_self,eq_self,Zfg,Zhc,wB,Tryz.underlying32,s3,s4,s10,hcq,hal,hcl10,Qu,j24,show Qv.mt 5 24=true from rfl,↓ap _ (Qm ln),↓gi _ g25n,w1];refine W.done ⟨i+1,⟨.gS n 25 c 1 10,rfl,by omega,by simp only[Qa];exact ln,?_,(fin 1).1,(fin 1).2.1,?_,(fin 1).2.2⟩,by omega⟩
       . rw[stake];exact hhJ (.inl (j25n ho2)) _
       . rw[stake,ho1];rw[ho1] at hrf;exact .inr ⟨c,by simp,rfl,jA _,Qa6.add (Qa6.nil _ (n+1)) hrf (by omega) hcl10 (fun i f s ⟨_,hd⟩=>by simp at hd),hnf⟩
     . have hk40:(Zj Zq (l.take i)).2.length=i:=by rw[Qdu,Zf9];omega
       have g25n:Qd (Qs J n 24 (.cells c)) n 25=some (.grow (Zj Zq (l.take i)).2.length):=(Jq ln (by decide)).trans (j25 _ ho2 rfl);have apm:=fun g hg hg2=>Qid (P:=Tryz.prog) (mt:=Qv.mt 5) (fr:=n) (dst:=some 25) (g:=g) (t:=32) (t2:=32) (x:= .mS n 24 0 1 (some 1) 10) (m:=1) (cs:=c) (c0:=os) (f:=n) (s:=25) (k:=(Zj Zq (l.take i)).2.length) Tryz.underlying32 Qow Qkp zc30 rfl Tryz.underlying32 (sc_ms (g:=g) hg hcl10) (by decide) (Jb (by rw[hk40];omega) (by rw[hk40];omega)) hal hg2;simp only[wA,↓Qc,simprocAttr,ta,new,Qb,Qa,and_false,false_and,and_true,true_and,and_self,eq_self,Zfg,Zhc,wB,Tryz.underlying32,s3,s4,s10,hcq,hal,hcl10,Qu,j24,show Qv.mt 5 24=true from rfl,↓apm _ (Qm ln) g25n,w1];refine W.done ⟨i+1,⟨.gS n 25 (os++c) ((Zj Zq (l.take i)).2.length+1) 10,rfl,by omega,by simp only[Qa];exact ln,?_,(fin _).1,(fin _).2.1,?_,(fin _).2.2⟩,by omega⟩
       . rw[stake];exact hhJ (.inr ⟨_,j25 _ ho2 rfl⟩) _
       . rw[stake];refine .inr ⟨os++c,by simp,by simp,?_,Qa6.add (ho3.to (hju _)) hrf (by omega) hcl10 ?_,Qcd ho4 hnf⟩
         . rw[jA];simp
         . intro i f s hd;obtain⟨_,h1,h2,_⟩:=ho3.lt hd;rw[<-gup f s h1] at h2;exact Q9 h2
   . have e:i=l.length:=by omega
     subst e;have c1:decide ((l.length:Int)<l.length)=false:=Zih (by omega);rw[Zg7] at hout;simp only[wA,↓Qc,simprocAttr,c1];refine W.done ?_;simp only[wA,↓Qc,simprocAttr];have gdel:∀{os rs},Qa6 H1 (n+1) os rs->Qa6 H2 (n+1) os rs:=fun h=>h.to fun f s o h1 h2 _=>(gup f s h1).trans h2;rcases hout with⟨h1,rfl,_⟩|⟨os,h1,rfl,h2,h3,_⟩
     . refine W.done (Z2.ret rfl ⟨.nS,rfl,.inl ⟨h1,rfl⟩⟩)
     . refine W.done (Z2.ret rfl ⟨_,rfl,.inr ⟨os,n,25,h1,rfl,?_⟩⟩);rw[Ym (by simp[V.refs,Zv]),<-hn];exact gdel h3
end Go.Proofs.YtmapmgfiamfocaaGreat
namespace Go.Proofs.YtmapmgfiamfocaaGreat
open Go.AM Go.Mod
attribute [local irreducible] U W
theorem Quq:∀l m:List (Qq×Int),Xp (l++m)=Xp l++Xp m
 |[],_=>rfl
 |p::l,m=>by simp only[Zgh,Xp,Quq l m]
theorem Qkj:byt Tryz.prog 98=some 24:=by kernel_rfl
def Ji(k:Nat)(cs:List V)(n esz:Nat):V:=if n=0 then .nS else .gS 0 k cs n esz
def Kb(k n:Nat):List (Nat×O):=if n=0 then[] else[(k,.grow n)]
theorem Qzv{f d:Nat}{g:Get}{e:Qq×Int}(h1:Qv.mt f d=false)(h2:Qv.mt f (Qi9 d)=false)(h3:Qv.mt f (Qlv d)=false)(hg:g 0 d=none):
 Yi Tryz.prog (Qv.mt f) 0 g (some d) 78 78 .nS (.iS [.str e.1,.int .i64 e.2] 1 true)=some (.val (.gS 0 d (Xp [e]) 1 2) (some (0,d,.grow 1))):=by
 rw[Qaj (m:=1) (cs:=[.str e.1,.int .i64 e.2]) Tryz.underlying78 Qqx Qkj zc98 rfl Tryz.underlying78 rfl (by decide) (Jb (by decide) (by decide))];exact Qcq h1 hg h2 h3
theorem Qra{f d k n:Nat}{g:Get}{e:Qq×Int}{out:List (Qq×Int)}(hn:n<=1000000)(hg:g 0 k=some (.grow n)):
 Yi Tryz.prog (Qv.mt f) 0 g (some d) 78 78 (.gS 0 k (Xp out) n 2) (.iS [.str e.1,.int .i64 e.2] 1 true)=some (.val (.gS 0 k (Xp (out++[e])) (n+1) 2) (some (0,k,.grow (n+1)))):=by
 rw[Quq];exact Qid (m:=1) (cs:=[.str e.1,.int .i64 e.2]) Tryz.underlying78 Qqx Qkj zc98 rfl Tryz.underlying78 rfl (by decide) (Jb (by omega) (by omega)) rfl hg
theorem Q38{l:List (Qq×Int)}{i:Nat}(h:i<l.length):Zf Tryz.prog 98 (Xp l) ((i:Int).toNat*2)=some (.agg [.str l[i].1,.int .i64 l[i].2]):=by rw[rd98,if_pos (by rw[Qj2];have:(i:Int).toNat=i:=rfl;omega)];obtain⟨g1,g2⟩:=Qh1 l i h;have h1:(i:Int).toNat=i:=rfl;rw[h1];have hl:=Qj2 l;rw[Zho (by omega),Zho (by omega)];rw[Ze3 (by omega)] at g1 g2;simp only[Zhb,Zhg];rw[Option.some.inj g1,Option.some.inj g2]
theorem Qrw(g:Get)(m:Nat):∀l,frzL (frz g (m+1)) (Xp l)=some (Xp l)
 |[]=>rfl
 |p::l=>by
  have:=Qrw g m l;simp only[Xp,frzL,this];rfl
theorem frzE{k n:Nat}{out:List (Qq×Int)}(hn:n=out.length)(g:Get)(m:Nat):∃r,frz g (m+2) (Ji k (Xp out) n 2)=some r/\Qdh r out:=by
 subst hn;cases out with
 |nil=>exact⟨.nS,rfl,Ql.nil⟩
 |cons e out=>
  refine⟨.iS (Xp (e::out)) (e::out).length false,?_,Ql.mk (Qj2 _)⟩;show(frzL (frz g (m+1)) (Xp (e::out))).map _=_;rw[Qrw];rfl
theorem Qg5(k:Nat)(out:List (Qq×Int))(e:Qq×Int):Ji k (Xp (out++[e])) (out++[e]).length 2= .gS 0 k (Xp (out++[e])) (out.length+1) 2:=by simp[Ji]
theorem Qk6(k:Nat)(out:List (Qq×Int))(e:Qq×Int):Kb k (out++[e]).length=[(k,.grow (out.length+1))]:=by simp[Kb]
theorem Qsz(x y:Operand)(a b:Qq):X7 Tryz.prog .gtr 9 x y (.str a) (.str b)=some (.bool (gtB a b)):=rfl
theorem Qnj(v:V)(l:List (Qq×Int))(hv:Qdh v l)(hl:l.length<=1000)(s:Qq)(o:Int):
 Fz Tryz.prog Qv 56 [v,.str s,.int .i64 o] fun r=>Qdh r (Qlx s o l):=by
 refine Jx Tryz.func56 rfl ?_;have s1:=Qz hv;have ln:=hv.len Tryz.underlying78;have u78:=Tryz.underlying78;have m31:Qv.mt 56 31=false:=rfl;have m38:Qv.mt 56 38=false:=rfl;have m46:Qv.mt 56 46=false:=rfl;simp only[wA,↓Qc,simprocAttr,Tryz.ntmps56,s1,ta,wH,wB];refine W.ul ?_;refine W.loopS (kt:=[0,1,2,7,8,9]) rfl (fun a:Nat×Bool×Nat×List (Qq×Int)=>Q3b v (.str s) (.int .i64 o) (Ji a.2.2.1 (Xp a.2.2.2) a.2.2.2.length 2) (.bool a.2.1) (.int .i64 a.1)) (fun a=>[Kb a.2.2.1 a.2.2.2.length])
  (fun a=>a.1<=l.length/\a.2.2.2++Qdo s o a.2.1 (l.drop a.1)=Qlx s o l/\a.2.2.2.length<=a.1+1/\(a.2.2.1=32\/a.2.2.1=39)) (fun a=>l.length-a.1) ?_ (0,false,32,[]) ⟨by simp,by simp[Qsq],by simp,.inl rfl⟩ rfl rfl
 rintro⟨i,dn,k,out⟩ ⟨hi,hb,ho,hk⟩;simp only at hi hb ho hk⊢;simp only[Q3b];have key:i<l.length\/¬i<l.length:=Classical.em _;rcases key with h0|h0
 . have c1:decide ((i:Int)<l.length)=true:=Zig (by omega);have wi:(IntKind.i64).wrap ((i:Int)+1)=((i+1:Nat):Int):=by rw[wrap_i64]<;>omega
   have at1:=hv.at (k:= .i64) Tryz.underlying78 Qqx (by decide) (i:=(i:Int)) (by omega) (by omega);obtain⟨g1,g2⟩:=Qh1 l i h0;have g1' :(Xp l)[(i:Int).toNat*2+0]?=some (.str l[i].1):=g1;have g1'' :(Xp l)[(i:Int).toNat*2]?=some (.str l[i].1):=g1;have ra:=Q38 h0;have hd:l.drop i=l[i]::l.drop (i+1):=Zho h0;rw[hd] at hb;have fin:∀(dn' :Bool) (k' :Nat) (out' :List (Qq×Int)),out' ++Qdo s o dn' (l.drop (i+1))=Qlx s o l->(k' =32\/k' =39)->i+1<=l.length/\out' ++Qdo s o dn' (l.drop (i+1))=Qlx s o l/\out'.length<=i+1+1/\(k' =32\/k' =39):=by
    intro dn' k' out' h1 h2;refine⟨by omega,h1,?_,h2⟩;have e1:=congrArg List.length h1;have e2:(l.drop (i+1)).length<=(Qdo s o dn' (l.drop (i+1))).length:=by
     cases dn'
     . rw[Qsq,Qvj];omega
     . rw[Qsu];omega
    rw[Zfv,Qvj] at e1;rw[Zga] at e2;omega
   have noIns:(!dn&&gtB l[i].1 s)=false->out++[l[i]]++Qdo s o dn (l.drop (i+1))=Qlx s o l:=fun h=>by rw[<-hb,Qdo,if_neg (by rw[h];simp)];simp
   by_cases hn:out.length=0
   . have hnil:=Zf7 hn;subst hnil;have og:Ji k (Xp []) ([]:List (Qq×Int)).length 2= .nS:=rfl;have oh:Kb k ([]:List (Qq×Int)).length=[]:=rfl;rw[og,oh];have a32:=fun g hg=>Qzv (f:=56) (d:=32) (g:=g) (e:=(s,o)) rfl rfl rfl hg;have a39:=fun g hg=>Qzv (f:=56) (d:=39) (g:=g) (e:=l[i]) rfl rfl rfl hg;have b39:=fun g hg=>Qra (f:=56) (d:=39) (k:=32) (n:=1) (g:=g) (out:=[(s,o)]) (e:=l[i]) (by decide) hg;cases dn with
     |true=>
      have hx:=noIns rfl;simp only[wA,↓Qc,simprocAttr,c1,at1,g1',g1'',ra,ln,s1,Qsz,Qu,u78,m31,m38,m46,V.pure,Zgp,ta,wH,wB,↓a39 (Qd [[]]) rfl,wi];exact W.done ⟨(i+1,true,39,[l[i]]),rfl,rfl,fin true 39 _ hx (.inr rfl),by simp only;omega⟩
     |false=>
      simp only[wA,↓Qc,simprocAttr,c1,at1,g1',g1'',ra,ln,s1,Qsz,Qu,u78,m31,m38,m46,V.pure,Zgp,ta,wH,wB];refine W.ite (fun h1=>?_) (fun h1=>?_)
      . simp only[wA,↓Qc,simprocAttr,c1,at1,ra,ln,s1,Qu,u78,m31,m38,m46,V.pure,Zgp,ta,wH,wB,↓a32 (Qd [[]]) rfl,↓b39 (Qd [[(32,.grow 1)]]) rfl,wi];refine W.done ⟨(i+1,true,32,[(s,o)]++[l[i]]),rfl,rfl,fin true 32 _ ?_ (.inl rfl),by simp only;omega⟩;rw[<-hb,Qdo,if_pos (by rw[h1];rfl)];simp
      . have hx:=noIns (by rw[h1];rfl);simp only[wA,↓Qc,simprocAttr,c1,at1,ra,ln,s1,Qu,u78,m31,m38,m46,V.pure,Zgp,ta,wH,wB,↓a39 (Qd [[]]) rfl,wi];exact W.done ⟨(i+1,false,39,[l[i]]),rfl,rfl,fin false 39 _ hx (.inr rfl),by simp only;omega⟩
   . have og:Ji k (Xp out) out.length 2= .gS 0 k (Xp out) out.length 2:=if_neg hn;have oh:Kb k out.length=[(k,.grow out.length)]:=if_neg hn;rw[og,oh];have a32:=Qra (f:=56) (d:=32) (k:=k) (n:=out.length) (g:=Qd [[(k,.grow out.length)]]) (out:=out) (e:=(s,o)) (by omega) (by simp[Qd,Qa4]);have a39:=Qra (f:=56) (d:=39) (k:=k) (n:=out.length) (g:=Qd [[(k,.grow out.length)]]) (out:=out) (e:=l[i]) (by omega) (by simp[Qd,Qa4]);have b39:=Qra (f:=56) (d:=39) (k:=k) (n:=out.length+1) (g:=Qd [[(k,.grow (out.length+1))]]) (out:=out++[(s,o)]) (e:=l[i]) (by omega) (by simp[Qd,Qa4]);have el:(out++[(s,o)]).length=out.length+1:=by simp
     rcases hk with rfl|rfl
     all_goals
      cases dn with
      |true=>
       have hx:=noIns rfl;simp only[wA,↓Qc,simprocAttr,c1,at1,g1',g1'',ra,ln,s1,Qsz,Qu,u78,m31,m38,m46,V.pure,Zgp,ta,wH,wB,↓a39,wi];exact W.done ⟨(i+1,true,_,out++[l[i]]),by simp only[Qg5];rfl,by simp only[Qk6],fin true _ _ hx (by simp),by simp only;omega⟩
      |false=>
       simp only[wA,↓Qc,simprocAttr,c1,at1,g1',g1'',ra,ln,s1,Qsz,Qu,u78,m31,m38,m46,V.pure,Zgp,ta,wH,wB];refine W.ite (fun h1=>?_) (fun h1=>?_)
       . simp only[wA,↓Qc,simprocAttr,c1,at1,ra,ln,s1,Qu,u78,m31,m38,m46,V.pure,Zgp,ta,wH,wB,↓a32,↓b39,wi];refine W.done ⟨(i+1,true,_,(out++[(s,o)])++[l[i]]),by simp only[Qg5,el];rfl,by simp only[Qk6,el],fin true _ _ ?_ (by simp),by simp only;omega⟩;rw[<-hb,Qdo,if_pos (by rw[h1];rfl)];simp
       . have hx:=noIns (by rw[h1];rfl);simp only[wA,↓Qc,simprocAttr,c1,at1,ra,ln,s1,Qu,u78,m31,m38,m46,V.pure,Zgp,ta,wH,wB,↓a39,wi];exact W.done ⟨(i+1,false,_,out++[l[i]]),by simp only[Qg5];rfl,by simp only[Qk6],fin false _ _ hx (by simp),by simp only;omega⟩
 . have c1:decide ((i:Int)<l.length)=false:=Zih (by omega);have e:i=l.length:=by omega
   subst e;rw[List.drop_length] at hb;cases dn with
   |true=>
    simp only[Qdo,if_true,Zf2] at hb;obtain⟨r,f1,f2⟩:=frzE (k:=k) (out:=out) rfl (Qd [Kb k out.length]) 10;simp only[wA,↓Qc,simprocAttr,c1,ln,s1,ta,wB];refine W.done ?_;simp only[wA,↓Qc,simprocAttr];exact W.done (Zg.ret rfl f1 (hb▸f2))
   |false=>
    simp only[Qdo,Ze7,if_false] at hb;by_cases hn:out.length=0
    . have hnil:=Zf7 hn;subst hnil;have og:Ji k (Xp []) ([]:List (Qq×Int)).length 2= .nS:=rfl;have oh:Kb k ([]:List (Qq×Int)).length=[]:=rfl;rw[og,oh];have a47:=Qzv (f:=56) (d:=47) (g:=Qd [[]]) (e:=(s,o)) rfl rfl rfl rfl;obtain⟨r,f1,f2⟩:=frzE (k:=47) (out:=[(s,o)]) rfl (Qd [[(47,.grow 1)]]) 10;simp only[wA,↓Qc,simprocAttr,c1,ln,s1,ta,wH,wB];refine W.done ?_;simp only[wA,↓Qc,simprocAttr,Qu,u78,m31,m38,m46,V.pure,Zgp,ta,wH,wB,↓a47];exact W.done (Zg.ret rfl f1 (by rw[<-hb];exact f2))
    . have og:Ji k (Xp out) out.length 2= .gS 0 k (Xp out) out.length 2:=if_neg hn;have oh:Kb k out.length=[(k,.grow out.length)]:=if_neg hn;rw[og,oh];have a47:=Qra (f:=56) (d:=47) (k:=k) (n:=out.length) (g:=Qd [[(k,.grow out.length)]]) (out:=out) (e:=(s,o)) (by omega) (by simp[Qd,Qa4]);obtain⟨r,f1,f2⟩:=frzE (k:=k) (out:=out++[(s,o)]) rfl (Qd [[(k,.grow (out.length+1))]]) 10;rw[Qg5] at f1;rcases hk with rfl|rfl
      all_goals
       simp only[wA,↓Qc,simprocAttr,c1,ln,s1,ta,wH,wB];refine W.done ?_;simp only[wA,↓Qc,simprocAttr,Qu,u78,m31,m38,m46,V.pure,Zgp,ta,wH,wB,↓a47];exact W.done (Zg.ret rfl f1 (by rw[<-hb];exact f2))
end Go.Proofs.YtmapmgfiamfocaaGreat
end
