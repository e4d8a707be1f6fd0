/- This file holds in one the texts YO8, YO9, YO10, YO11, YO12, YO13; each says at its head what it proves. -/
import Derived.Test.YtmapmgfiamfocaaGreatT17
set_option linter.unusedSimpArgs false
set_option linter.unusedVariables false
namespace Go.Proofs.YtmapmgfiamfocaaGreat
section
set_option maxRecDepth 100000
open Go.AM Go.Mod
attribute [local irreducible] U W Zd
theorem Q0z{L:Qe}(ok:Q5 L)(s:Qq):0<=(Zb L.names s).getD 0/\(Zb L.names s).getD 0<16:=by
 cases h:Zb L.names s with
 |none=>exact⟨Int.le_refl _,by decide⟩
 |some x=>have:=ok.num h;simp only[Zgi];omega
theorem Q4b:Qgw 41 Qe.unlink:=by
 rintro H a L c dv ok ⟨l,bs,clk,hL⟩ hc;refine Y2 Tryz.func41 rfl ?_;intro n K hn F;have A:=F.at_ hn hL.cells;have B:=F.at_ hn hL.names;have sdv:=Ql.scalar hc.data;have lk:=fun g h=>Bx (g:=g) (nf:=a.nf) (ns:=a.ns) (l:=L.names) (bs:=bs) (clk:=clk) h c.name;have hm0:=Q0z ok c.name;generalize hm:(Zb L.names c.name).getD 0=m at*;obtain⟨o,ho,hk,hlk,hd⟩:=hL.obs.at_ (ok.at_ hm0.1 hm0.2);obtain⟨bs',hb,hdel⟩:∃bs',(∀x,Zb L.names c.name=some x->Qft (J6 L.names c.name).length bs' clk)/\∀x,Zb L.names c.name=some x->∀g:Get,g a.nf a.ns=some (.map (Xt L.names) bs clk)->X9 Tryz.prog g 69 (.map a.nf a.ns) (.str c.name)=some (.val (.tuple []) (some (a.nf,a.ns,.map (Xt (J6 L.names c.name)) bs' clk))):=by
  cases h:Zb L.names c.name with
  |none=>exact⟨[],(fun x hx=>nomatch hx),(fun x hx=>nomatch hx)⟩
  |some x=>obtain⟨bs',h1,h2⟩:=Qrv (nf:=a.nf) (ns:=a.ns) hL.born h;exact⟨bs',fun _ _=>h1,fun _ _=>h2⟩
 let w:List (Nat×Nat×O):=[(a.f,a.s,.cells (Zd a L.snap L.owner L.prev (l.set m.toNat (Qmk o)))),(a.nf,a.ns,.map (Xt (J6 L.names c.name)) bs' clk)]
 let E:Int:=if(Zb L.names c.name).isSome then 0 else 6
 have fin:∀K2:Qg,n<K2.length->(∀f s,f<n->Qd K2 f s=Qd H f s)->Qd K2 n 5=some (.cells [.int .i64 m])->Qd K2 n 2=some (.cells [.ptr a.f a.s 0])->Qd K2 n 3=some (.cells (Qf c dv))->∀e,e=E->
  CR Tryz.prog Qv 65 [.ptr a.f a.s 0,.int .i64 e,.func (.func 67) [] [.ptr n 2 0,.ptr n 3 0,.ptr n 5 0]] K2 fun v K3=>v=Q7 (Y1 E L.snap)/\Ch K2 K3 (if Y1 E L.snap=0 then w else[])/\n<K3.length/\∀s,Qd K3 n s=Qd K2 n s:=by
  intro K2 hlt low g6 g2 g3 e he;subst he;have hL2:=hL.low (K:=K2) (by rw[<-hn];exact low);refine Qoy n K2 a L.snap L.owner L.prev l hL2.cells _ _ _ w rfl rfl rfl rfl hlt (low2 A.lt B.lt) (fun hz _ J cj=>?_);have hs:∃x,Zb L.names c.name=some x:=by
   simp only[E] at hz;cases h:Zb L.names c.name with
   |none=>rw[h] at hz;simp at hz
   |some x=>exact⟨x,rfl⟩
  obtain⟨x,hs⟩:=hs;exact Qxw J n a L l bs clk (hL2.ch cj) c dv m hm0.1 hm0.2 o ho A.lt B.lt ((cj.get _ _ hlt).trans g6) ((cj.get _ _ hlt).trans g2) ((cj.get _ _ hlt).trans g3) bs' (hdel x hs)
 have conc:∀H',Ch H H' (if Y1 E L.snap=0 then w else[])->Y4 (Q7 (Y1 E L.snap)) (L.unlink c).2/\Yn H' a (L.unlink c).1/\Qhn H H' a:=by
  intro H' hch;refine Qe1 hL hch fun hz _ h=>?_;have hs:∃x,Zb L.names c.name=some x:=by
   simp only[E] at hz;cases h:Zb L.names c.name with
   |none=>rw[h] at hz;simp at hz
   |some x=>exact⟨x,rfl⟩
  obtain⟨x,hs⟩:=hs;rw[hm];refine line_upd (Q9 hL.cells) (Q9 hL.names) h ?_ (l' :=l.set m.toNat (Qmk o)) (bs' :=bs') (clk' :=clk) ?_ ?_ ?_ ?_
  . intro x hx;simp only[w,Zfi,Zgm,or_false] at hx;rcases hx with rfl|rfl<;>simp
  . simp only[w,AM.lk,and_self,if_true,Qe.setOb]
  . simp only[w,AM.lk,hL.ne2,and_self,if_true,if_false]
  . refine hL.obs.set _ ?_;unfold Qmk;rw[hlk];split
    . exact⟨rfl,rfl,Qx.nil⟩
    . exact⟨hk,rfl,hd⟩
  . exact hb x hs
 simp only[wA,↓Qc,simprocAttr,Tryz.ntmps41,ta,new,Qb,Qa,and_false,false_and,and_true,true_and,and_self,eq_self,Zfg,Zhc,wB,F.own,F.lt,Qf,sdv,A.get,A.ltK,B.get,B.ltK,Jn,Jr,Jo,J8,J0,Zhd,Zff,Qf,A.ne,B.ne,↓lk,hm];refine W.opsC [(0,10),(3,10),(5,10),(6,10)] (by kernel_rfl) (by simp only[Qgd,Zhl,Zhk,Zgf,List.reverse_nil,Zhh,Zgh,and_true];refine⟨?_,?_,?_,?_⟩<;>(refine Qcg (by simp) (by simp) ?_;simp[Xr,Op.operands,rho,V.id?,A.ne,B.ne,Ne.symm A.ne,Ne.symm B.ne])) ?_;simp only[wA,↓Qc,simprocAttr];refine W.ite (fun h1=>?_) (fun h1=>?_)
 . simp only[wA,↓Qc,simprocAttr,ta,new,Qb,Qa,and_false,false_and,and_true,true_and,and_self,eq_self,Zfg,Zhc,wB,F.own,F.lt];refine W.call (fin _ (by simp only[Qa];exact F.lt) (fun f s h=>by simp only[Qb,Qa,F.lt,Zfc h,false_and,if_false];exact F.low f s h) (by simp only[Qb,Qa,F.lt,and_self,and_true,and_false,true_and,eq_self,if_true,if_false,Nat.reduceEqDiff,Qf];try rfl) (by simp only[Qb,Qa,F.lt,and_self,and_true,and_false,true_and,eq_self,if_true,if_false,Nat.reduceEqDiff,Qf];try rfl) (by simp only[Qb,Qa,F.lt,and_self,and_true,and_false,true_and,eq_self,if_true,if_false,Nat.reduceEqDiff,Qf];try rfl) _ (by
    simp only[E];cases h:Zb L.names c.name with
    |none=>rfl
    |some x=>rw[h] at h1;simp at h1)) rfl rfl rfl rfl rfl ?_
   rintro _ K3 ⟨rfl,c3,l3,o3⟩;simp only[wA,↓Qc,simprocAttr,Q7,ta,new,Qb,Qa,and_false,false_and,and_true,true_and,and_self,eq_self,Zfg,Zhc,l3,o3,F.lt,splice,wZ];exact W.done (Z2.ret (Q1 rfl rfl (Qm (by first|exact F.lt|assumption|(simp only[Qa];first|exact F.lt|assumption))) (by rw[Jp];rfl)) (conc _ (Ch.fin hn (fun f s h=>by simp only[Qb,Qa,F.lt,Zfc h,false_and,if_false];exact F.low f s h) (by simp only[Qa];exact F.lt) c3)))
 . simp only[wA,↓Qc,simprocAttr,ta,new,Qb,Qa,and_false,false_and,and_true,true_and,and_self,eq_self,Zfg,Zhc,wB,F.own,F.lt];refine W.call (fin _ (by simp only[Qa];exact F.lt) (fun f s h=>by simp only[Qb,Qa,F.lt,Zfc h,false_and,if_false];exact F.low f s h) (by simp only[Qb,Qa,F.lt,and_self,and_true,and_false,true_and,eq_self,if_true,if_false,Nat.reduceEqDiff,Qf];try rfl) (by simp only[Qb,Qa,F.lt,and_self,and_true,and_false,true_and,eq_self,if_true,if_false,Nat.reduceEqDiff,Qf];try rfl) (by simp only[Qb,Qa,F.lt,and_self,and_true,and_false,true_and,eq_self,if_true,if_false,Nat.reduceEqDiff,Qf];try rfl) _ (by
    simp only[E];cases h:Zb L.names c.name with
    |none=>rw[h] at h1;simp at h1
    |some x=>rfl)) rfl rfl rfl rfl rfl ?_
   rintro _ K3 ⟨rfl,c3,l3,o3⟩;simp only[wA,↓Qc,simprocAttr,Q7,ta,new,Qb,Qa,and_false,false_and,and_true,true_and,and_self,eq_self,Zfg,Zhc,l3,o3,F.lt,splice,wZ];exact W.done (Z2.ret (Q1 rfl rfl (Qm (by first|exact F.lt|assumption|(simp only[Qa];first|exact F.lt|assumption))) (by rw[Jp];rfl)) (conc _ (Ch.fin hn (fun f s h=>by simp only[Qb,Qa,F.lt,Zfc h,false_and,if_false];exact F.low f s h) (by simp only[Qa];exact F.lt) c3)))
theorem Q4a:Qgw 42 Qe.rename:=by
 rintro H a L c dv ok ⟨l,bs,clk,hL⟩ hc;refine Y2 Tryz.func42 rfl ?_;intro n K hn F;have A:=F.at_ hn hL.cells;have B:=F.at_ hn hL.names;have sdv:=Ql.scalar hc.data;have lk:=fun g h=>Bx (g:=g) (nf:=a.nf) (ns:=a.ns) (l:=L.names) (bs:=bs) (clk:=clk) h c.name;have lk2:=fun g h=>Bx (g:=g) (nf:=a.nf) (ns:=a.ns) (l:=L.names) (bs:=bs) (clk:=clk) h c.as_;generalize hm:(Zb L.names c.name).getD 0=m at*;obtain⟨bs',hb,hdel⟩:∃bs',(∀x,Zb L.names c.name=some x->Qft (J6 L.names c.name).length bs' clk)/\∀x,Zb L.names c.name=some x->∀g:Get,g a.nf a.ns=some (.map (Xt L.names) bs clk)->X9 Tryz.prog g 69 (.map a.nf a.ns) (.str c.name)=some (.val (.tuple []) (some (a.nf,a.ns,.map (Xt (J6 L.names c.name)) bs' clk))):=by
  cases h:Zb L.names c.name with
  |none=>exact⟨[],(fun x hx=>nomatch hx),(fun x hx=>nomatch hx)⟩
  |some x=>obtain⟨bs',h1,h2⟩:=Qrv (nf:=a.nf) (ns:=a.ns) hL.born h;exact⟨bs',fun _ _=>h1,fun _ _=>h2⟩
 have ez:Qaf L c=0->(∃x,Zb L.names c.name=some x)/\Zb L.names c.as_=none:=by
  intro hz;unfold Qaf at hz;split at hz
  . rename_i h;exact absurd hz h
  . split at hz
    . rename_i h1;split at hz
      . cases hz
      . rename_i h2;refine⟨Option.isSome_iff_exists.1 h1,?_⟩;cases h:Zb L.names c.as_ with
        |none=>rfl
        |some x=>rw[h] at h2;simp at h2
    . cases hz
 let w:List (Nat×Nat×O):=[(a.nf,a.ns,.map (Xt (J6 L.names c.name++[(c.as_,m)])) (bs' ++[clk]) (clk+1))]
 have fin:∀K2:Qg,n<K2.length->(∀f s,f<n->Qd K2 f s=Qd H f s)->Qd K2 n 6=some (.cells [.int .i64 m])->Qd K2 n 2=some (.cells [.ptr a.f a.s 0])->Qd K2 n 3=some (.cells (Qf c dv))->∀e,e=Qaf L c->
  CR Tryz.prog Qv 65 [.ptr a.f a.s 0,.int .i64 e,.func (.func 68) [] [.ptr n 2 0,.ptr n 3 0,.ptr n 6 0]] K2 fun v K3=>v=Q7 (Y1 (Qaf L c) L.snap)/\Ch K2 K3 (if Y1 (Qaf L c) L.snap=0 then w else[])/\n<K3.length/\∀s,Qd K3 n s=Qd K2 n s:=by
  intro K2 hlt low g6 g2 g3 e he;subst he;have hL2:=hL.low (K:=K2) (by rw[<-hn];exact low);refine Qoy n K2 a L.snap L.owner L.prev l hL2.cells _ _ _ w rfl rfl rfl rfl hlt (low1' B.lt) (fun hz _ J cj=>?_);obtain⟨⟨x,hs⟩,hn2⟩:=ez hz;exact Qya J n a L l bs clk (hL2.ch cj) c dv m A.lt B.lt ((cj.get _ _ hlt).trans g6) ((cj.get _ _ hlt).trans g2) ((cj.get _ _ hlt).trans g3) bs' (hdel x hs) (Qun hn2)
 have conc:∀H',Ch H H' (if Y1 (Qaf L c) L.snap=0 then w else[])->Y4 (Q7 (Y1 (Qaf L c) L.snap)) (L.rename c).2/\Yn H' a (L.rename c).1/\Qhn H H' a:=by
  intro H' hch;refine Qe1 hL hch fun hz _ h=>?_;obtain⟨⟨x,hs⟩,hn2⟩:=ez hz;rw[hm];refine line_upd (Q9 hL.cells) (Q9 hL.names) h ?_ (l' :=l) (bs' :=bs' ++[clk]) (clk' :=clk+1) ?_ ?_ ?_ ?_
  . intro x hx;simp only[w,Zfi,Zgm,or_false] at hx;rcases hx with rfl;simp
  . simp only[w,AM.lk,hL.ne1,and_self,if_true,if_false];exact hL.cells
  . simp only[w,AM.lk,and_self,if_true,if_false]
  . exact hL.obs
  . simp only[Zfv,Zgz,Zg2];exact(hb x hs).add
 simp only[wA,↓Qc,simprocAttr,Tryz.ntmps42,ta,new,Qb,Qa,and_false,false_and,and_true,true_and,and_self,eq_self,Zfg,Zhc,wB,F.own,F.lt,Qf,sdv];refine W.pcall (Qko c.as_ (by have:=hc.as_;omega)) rfl rfl rfl ?_;rintro _ rfl;simp only[wA,↓Qc,simprocAttr,ta,new,Qb,Qa,and_false,false_and,and_true,true_and,and_self,eq_self,Zfg,Zhc,wB,F.own,F.lt,A.get,A.ltK,B.get,B.ltK,Jn,Jr,Jo,J8,J0,Zhd,Zff,Qf,A.ne,B.ne,↓lk,hm];refine W.opsC [(0,10),(3,10),(5,10),(6,10)] (by kernel_rfl) (by simp only[Qgd,Zhl,Zhk,Zgf,List.reverse_nil,Zhh,Zgh,and_true];refine⟨?_,?_,?_,?_⟩<;>(refine Qcg (by simp) (by simp) ?_;simp[Xr,Op.operands,rho,V.id?,A.ne,B.ne,Ne.symm A.ne,Ne.symm B.ne])) ?_;simp only[wA,↓Qc,simprocAttr,ta,new,Qb,Qa,and_false,false_and,and_true,true_and,and_self,eq_self,Zfg,Zhc,wB,F.own,F.lt,A.get,A.ltK,B.get,B.ltK,Jn,Jr,Jo,J8,J0,Zhd,Zff,Qf,A.ne,B.ne,↓lk2,hm];refine W.opsK (by kernel_rfl) ?_;simp only[wA,↓Qc,simprocAttr];refine W.ite (fun h1=>?_) (fun h1=>?_)
 . have h1' :¬Kh c.as_=0:=by simpa using h1
   simp only[wA,↓Qc,simprocAttr,ta,new,Qb,Qa,and_false,false_and,and_true,true_and,and_self,eq_self,Zfg,Zhc,wB,F.own,F.lt];refine W.call (fin _ (by simp only[Qa];exact F.lt) (fun f s h=>by simp only[Qb,Qa,F.lt,Zfc h,false_and,if_false];exact F.low f s h) (by simp only[Qb,Qa,F.lt,and_self,and_true,and_false,true_and,eq_self,if_true,if_false,Nat.reduceEqDiff,Qf];try rfl) (by simp only[Qb,Qa,F.lt,and_self,and_true,and_false,true_and,eq_self,if_true,if_false,Nat.reduceEqDiff,Qf];try rfl) (by simp only[Qb,Qa,F.lt,and_self,and_true,and_false,true_and,eq_self,if_true,if_false,Nat.reduceEqDiff,Qf];try rfl) _ (by rw[Qaf,if_pos h1'])) rfl rfl rfl rfl rfl ?_;rintro _ K3 ⟨rfl,c3,l3,o3⟩;simp only[wA,↓Qc,simprocAttr,Q7,ta,new,Qb,Qa,and_false,false_and,and_true,true_and,and_self,eq_self,Zfg,Zhc,l3,o3,F.lt,splice,wZ];exact W.done (Z2.ret (Q1 rfl rfl (Qm (by first|exact F.lt|assumption|(simp only[Qa];first|exact F.lt|assumption))) (by rw[Jp];rfl)) (conc _ (Ch.fin hn (fun f s h=>by simp only[Qb,Qa,F.lt,Zfc h,false_and,if_false];exact F.low f s h) (by simp only[Qa];exact F.lt) c3)))
 . have h1' :Kh c.as_=0:=by simpa using h1
   simp only[wA,↓Qc,simprocAttr];refine W.ite (fun h2=>?_) (fun h2=>?_)
   . simp only[wA,↓Qc,simprocAttr,ta,new,Qb,Qa,and_false,false_and,and_true,true_and,and_self,eq_self,Zfg,Zhc,wB,F.own,F.lt];refine W.call (fin _ (by simp only[Qa];exact F.lt) (fun f s h=>by simp only[Qb,Qa,F.lt,Zfc h,false_and,if_false];exact F.low f s h) (by simp only[Qb,Qa,F.lt,and_self,and_true,and_false,true_and,eq_self,if_true,if_false,Nat.reduceEqDiff,Qf];try rfl) (by simp only[Qb,Qa,F.lt,and_self,and_true,and_false,true_and,eq_self,if_true,if_false,Nat.reduceEqDiff,Qf];try rfl) (by simp only[Qb,Qa,F.lt,and_self,and_true,and_false,true_and,eq_self,if_true,if_false,Nat.reduceEqDiff,Qf];try rfl) _ (by
      rw[Qaf,if_neg (by simpa using h1')];simp only[Zf6] at h2
      rw[h2];rfl)) rfl rfl rfl rfl rfl ?_
     rintro _ K3 ⟨rfl,c3,l3,o3⟩;simp only[wA,↓Qc,simprocAttr,Q7,ta,new,Qb,Qa,and_false,false_and,and_true,true_and,and_self,eq_self,Zfg,Zhc,l3,o3,F.lt,splice,wZ];exact W.done (Z2.ret (Q1 rfl rfl (Qm (by first|exact F.lt|assumption|(simp only[Qa];first|exact F.lt|assumption))) (by rw[Jp];rfl)) (conc _ (Ch.fin hn (fun f s h=>by simp only[Qb,Qa,F.lt,Zfc h,false_and,if_false];exact F.low f s h) (by simp only[Qa];exact F.lt) c3)))
   . have h2' :(Zb L.names c.name).isSome=true:=by simpa using h2
     simp only[wA,↓Qc,simprocAttr];refine W.ite (fun h3=>?_) (fun h3=>?_)
     . simp only[wA,↓Qc,simprocAttr,ta,new,Qb,Qa,and_false,false_and,and_true,true_and,and_self,eq_self,Zfg,Zhc,wB,F.own,F.lt];refine W.call (fin _ (by simp only[Qa];exact F.lt) (fun f s h=>by simp only[Qb,Qa,F.lt,Zfc h,false_and,if_false];exact F.low f s h) (by simp only[Qb,Qa,F.lt,and_self,and_true,and_false,true_and,eq_self,if_true,if_false,Nat.reduceEqDiff,Qf];try rfl) (by simp only[Qb,Qa,F.lt,and_self,and_true,and_false,true_and,eq_self,if_true,if_false,Nat.reduceEqDiff,Qf];try rfl) (by simp only[Qb,Qa,F.lt,and_self,and_true,and_false,true_and,eq_self,if_true,if_false,Nat.reduceEqDiff,Qf];try rfl) _ (by
        rw[Qaf,if_neg (by simpa using h1'),h2',h3];rfl)) rfl rfl rfl rfl rfl ?_
       rintro _ K3 ⟨rfl,c3,l3,o3⟩;simp only[wA,↓Qc,simprocAttr,Q7,ta,new,Qb,Qa,and_false,false_and,and_true,true_and,and_self,eq_self,Zfg,Zhc,l3,o3,F.lt,splice,wZ];exact W.done (Z2.ret (Q1 rfl rfl (Qm (by first|exact F.lt|assumption|(simp only[Qa];first|exact F.lt|assumption))) (by rw[Jp];rfl)) (conc _ (Ch.fin hn (fun f s h=>by simp only[Qb,Qa,F.lt,Zfc h,false_and,if_false];exact F.low f s h) (by simp only[Qa];exact F.lt) c3)))
     . simp only[wA,↓Qc,simprocAttr,ta,new,Qb,Qa,and_false,false_and,and_true,true_and,and_self,eq_self,Zfg,Zhc,wB,F.own,F.lt];refine W.call (fin _ (by simp only[Qa];exact F.lt) (fun f s h=>by simp only[Qb,Qa,F.lt,Zfc h,false_and,if_false];exact F.low f s h) (by simp only[Qb,Qa,F.lt,and_self,and_true,and_false,true_and,eq_self,if_true,if_false,Nat.reduceEqDiff,Qf];try rfl) (by simp only[Qb,Qa,F.lt,and_self,and_true,and_false,true_and,eq_self,if_true,if_false,Nat.reduceEqDiff,Qf];try rfl) (by simp only[Qb,Qa,F.lt,and_self,and_true,and_false,true_and,eq_self,if_true,if_false,Nat.reduceEqDiff,Qf];try rfl) _ (by
        rw[Qaf,if_neg (by simpa using h1'),h2',h3];exact h1')) rfl rfl rfl rfl rfl ?_
       rintro _ K3 ⟨rfl,c3,l3,o3⟩;simp only[wA,↓Qc,simprocAttr,Q7,ta,new,Qb,Qa,and_false,false_and,and_true,true_and,and_self,eq_self,Zfg,Zhc,l3,o3,F.lt,splice,wZ];exact W.done (Z2.ret (Q1 rfl rfl (Qm (by first|exact F.lt|assumption|(simp only[Qa];first|exact F.lt|assumption))) (by rw[Jp];rfl)) (conc _ (Ch.fin hn (fun f s h=>by simp only[Qb,Qa,F.lt,Zfc h,false_and,if_false];exact F.low f s h) (by simp only[Qa];exact F.lt) c3)))
theorem Qb1{L:Qe}(ok:Q5 L):∀(k:Nat) (s:Qq),0<=(L.follow k s).1/\(L.follow k s).1<16
 |0,s=>by simp[Qe.follow]
 |k+1,s=>by
  unfold Qe.follow;cases h:Zb L.names s with
  |none=>simp
  |some x=>
   have:=ok.num h;simp only;split
   . exact Qb1 ok k _
   . simp only;omega
theorem cut_l:Qgw 45 Qe.cut:=by
 rintro H a L c dv ok ⟨l,bs,clk,hL⟩ hc;refine Y2 Tryz.func45 rfl ?_;intro n K hn F;have A:=F.at_ hn hL.cells;have B:=F.at_ hn hL.names;have sdv:=Ql.scalar hc.data;have hm0:=Qb1 ok 9 c.name;have fc:=fun K2 (low:∀f s,f<n->Qd K2 f s=Qd H f s)=>Qln K2 a L ok l bs clk (hL.low (by rw[<-hn];exact low)) c.name;unfold Qe.cut;generalize hfw:L.follow 9 c.name=fw at*;obtain⟨m,e⟩:=fw;simp only at hm0;obtain⟨o,ho,hk,hlk,hd⟩:=hL.obs.at_ (ok.at_ hm0.1 hm0.2)
 let X:List (Nat×Nat×O)->Prop:=fun w=>∃v,Qx v (Jg (L.ob m).data c.b.toNat)/\w=[(a.f,a.s,.cells (Zd a L.snap L.owner L.prev (l.set m.toNat {o with data:=v})))]
 simp only[wA,↓Qc,simprocAttr,Tryz.ntmps45,ta,new,Qb,Qa,and_false,false_and,and_true,true_and,and_self,eq_self,Zfg,Zhc,wB,F.own,F.lt,Qf,sdv];refine W.pcall (Qzs c.b) rfl rfl rfl ?_;rintro _ rfl;simp only[wA,↓Qc,simprocAttr];refine W.ite (fun h1=>?_) (fun h1=>?_)
 . have h1' :inR c.b=false:=by simpa using h1
   simp only[wA,↓Qc,simprocAttr];refine W.pcall (Zz 2) rfl rfl rfl ?_;rintro _ rfl;simp only[wA,↓Qc,simprocAttr,Q7,ta,new,Qb,Qa,and_false,false_and,and_true,true_and,and_self,eq_self,Zfg,Zhc,F.lt,splice,wZ];refine W.done (Z2.ret (Q1 rfl rfl (Qm (by first|exact F.lt|assumption|(simp only[Qa];first|exact F.lt|assumption))) (by rw[Jp];rfl)) ?_);rw[h1'];exact⟨Zk 2,Bf hL (F.ch hn (by first|rfl|simp only[Qa]) (fun f' s' h=>by first|rfl|simp only[Qb,Qa,F.lt,Zfc h,false_and,if_false,AM.lk, *,-hn]))⟩
 . have h1' :inR c.b=true:=by simpa using h1
   have hr:0<=c.b/\c.b<=3840:=by simpa [inR] using h1'
   simp only[wA,↓Qc,simprocAttr,ta,new,Qb,Qa,and_false,false_and,and_true,true_and,and_self,eq_self,Zfg,Zhc,wZ,A.get,A.ltK,B.get,B.ltK,Jn,Jr,Jo,J8,J0,Zhd,Zff,Qf,F.lt];refine W.call (fc _ (fun f s h=>by simp only[Qb,Qa,F.lt,Zfc h,false_and,if_false];exact F.low f s h)) rfl rfl rfl rfl rfl ?_;rintro _ J ⟨rfl,cj⟩;have lj:n<J.length:=cj.lt (by simp only[Qa];exact F.lt);have lowj:∀f s,f<n->Qd J f s=Qd H f s:=fun f s h=>by rw[cj.get f s (by simp only[Qa];have:=F.lt;omega)];simp only[Qb,Qa,F.lt,Zfc h,false_and,if_false,lk];exact F.low f s h
   have oj:=fun s=>cj.own (s:=s) (f:=n) (by simp only[Qa];exact F.lt) (by simp);simp only[wA,↓Qc,simprocAttr,ta,new,Qb,Qa,and_false,false_and,and_true,true_and,and_self,eq_self,Zfg,Zhc,wB,F.own,F.lt,A.get,A.ltK,B.get,B.ltK,Jn,Jr,Jo,J8,J0,Zhd,Zff,Qf,lj,oj];have hfin:∀K2:Qg,n<K2.length->(∀f s,f<n->Qd K2 f s=Qd H f s)->Qd K2 n 5=some (.cells [.int .i64 m])->Qd K2 n 2=some (.cells [.ptr a.f a.s 0])->Qd K2 n 3=some (.cells (Qf c dv))->
    CR Tryz.prog Qv 65 [.ptr a.f a.s 0,.int .i64 e,.func (.func 74) [] [.ptr n 2 0,.ptr n 5 0,.ptr n 3 0]] K2 fun v K3=>v=Q7 (Y1 e L.snap)/\(∃w,(Y1 e L.snap=0->X w)/\Ch K2 K3 (if Y1 e L.snap=0 then w else[]))/\n<K3.length/\∀s,Qd K3 n s=Qd K2 n s:=by
    intro K2 hlt low g5 g2 g3;have hL2:=hL.low (K:=K2) (by rw[<-hn];exact low);refine Qlw n K2 a L.snap L.owner L.prev l hL2.cells _ _ _ X rfl rfl rfl rfl hlt ?_ (fun hz _ J cj=>?_)
    . rintro w ⟨v,_,rfl⟩;exact low1 A.lt
    . refine(Q68 J n a L ok l bs clk (hL2.ch cj) c dv m hm0.1 hm0.2 o ho (L.ob m).data hd c.b.toNat (by omega) (by omega) A.lt ((cj.get _ _ hlt).trans g5) ((cj.get _ _ hlt).trans g2) ((cj.get _ _ hlt).trans g3)).mono ?_;rintro _ J' ⟨v,hv,hch⟩;exact⟨_,⟨v,hv,rfl⟩,hch⟩
   refine W.call (hfin _ (by simp only[Qa];exact lj) (fun f s h=>by simp only[Qb,Qa,lj,Zfc h,false_and,if_false];exact lowj f s h) (Qm (by simp only[Qa];exact lj))
    (by simp only[Qb,Qa,lj,Nat.reduceEqDiff,and_false,if_false];exact(oj 2).trans (by simp only[Qb,Qa,F.lt,and_self,and_true,and_false,true_and,eq_self,if_true,if_false,Nat.reduceEqDiff,Qf];try rfl)) (by simp only[Qb,Qa,lj,Nat.reduceEqDiff,and_false,if_false];exact(oj 3).trans (by simp only[Qb,Qa,F.lt,and_self,and_true,and_false,true_and,eq_self,if_true,if_false,Nat.reduceEqDiff,Qf];try rfl))) rfl rfl rfl rfl rfl ?_
   rintro _ K3 ⟨rfl,⟨w,hX,c3⟩,l3,o3⟩;simp only[wA,↓Qc,simprocAttr,Q7,ta,new,Qb,Qa,and_false,false_and,and_true,true_and,and_self,eq_self,Zfg,Zhc,l3,o3,oj,lj,F.lt,splice,wZ];refine W.done (Z2.ret (Q1 rfl rfl (Qm (by first|exact F.lt|assumption|(simp only[Qa];first|exact F.lt|assumption))) (by rw[Jp];rfl)) ?_);rw[h1'];refine Qe1 hL (w:=w) (Ch.fin hn (fun f s h=>by simp only[Qb,Qa,lj,Zfc h,false_and,if_false];exact lowj f s h) (by simp only[Qa];exact lj) c3) fun _ hz2 h=>?_;obtain⟨v,hv,rfl⟩:=hX hz2;refine line_upd (Q9 hL.cells) (Q9 hL.names) h ?_ (l' :=l.set m.toNat {o with data:=v}) (bs' :=bs) (clk' :=clk) ?_ ?_ ?_ ?_
   . intro x hx;simp only[Zfi,Zgm,or_false] at hx;rcases hx with rfl;simp
   . simp only[AM.lk,and_self,if_true,Qe.setOb]
   . simp only[AM.lk,hL.ne2,and_self,if_true,if_false];exact hL.names
   . exact hL.obs.set _ ⟨hk,hlk,hv⟩
   . exact hL.born
theorem Q7p:Qgw 44 Qe.write:=by
 rintro H a L c dv ok ⟨l,bs,clk,hL⟩ hc;refine Y2 Tryz.func44 rfl ?_;intro n K hn F;have A:=F.at_ hn hL.cells;have B:=F.at_ hn hL.names;have sdv:=Ql.scalar hc.data;have ln1:=hc.data.len Tryz.underlying24;have hm0:=Qb1 ok 9 c.name;have fc:=fun K2 (low:∀f s,f<n->Qd K2 f s=Qd H f s)=>Qln K2 a L ok l bs clk (hL.low (by rw[<-hn];exact low)) c.name;have hw:L.write c=if !inR c.c||decide ((c.data.length:Int)>3840-c.c) then(L,Zl 2) else L.turn (L.follow 9 c.name).2 (L.setOb (L.follow 9 c.name).1 {L.ob (L.follow 9 c.name).1 with data:=Qbg (L.ob (L.follow 9 c.name).1).data c.c.toNat c.data}):=rfl
 generalize hfw:L.follow 9 c.name=fw at*;obtain⟨m,e⟩:=fw;simp only at hm0;obtain⟨o,ho,hk,hlk,hd⟩:=hL.obs.at_ (ok.at_ hm0.1 hm0.2)
 let X:List (Nat×Nat×O)->Prop:=fun w=>∃v,Qx v (Qbg (L.ob m).data c.c.toNat c.data)/\w=[(a.f,a.s,.cells (Zd a L.snap L.owner L.prev (l.set m.toNat {o with data:=v})))]
 simp only[wA,↓Qc,simprocAttr,Tryz.ntmps44,ta,new,Qb,Qa,and_false,false_and,and_true,true_and,and_self,eq_self,Zfg,Zhc,wB,F.own,F.lt,Qf,sdv];refine W.pcall (Qzs c.c) rfl rfl rfl ?_;rintro _ rfl;have bad:∀K2:Qg,Ch H K2 []->inR c.c=false\/decide ((c.data.length:Int)>3840-c.c)=true->Y4 (Q7 2) (L.write c).2/\Yn K2 a (L.write c).1/\Qhn H K2 a:=by
  intro K2 hch h;have hb:(!inR c.c||decide ((c.data.length:Int)>3840-c.c))=true:=by
   rcases h with h|h
   . rw[h];rfl
   . rw[h,Bool.or_true]
  rw[hw,if_pos hb];exact⟨Zk 2,Bf hL hch⟩
 simp only[wA,↓Qc,simprocAttr];refine W.guardF (fun h1=>?_) (fun h1=>?_)
 . have h1' :inR c.c=true:=by simpa using h1
   have hr:0<=c.c/\c.c<=3840:=by simpa [inR] using h1'
   have w1:(IntKind.i64).wrap (3840-c.c)=3840-c.c:=by rw[wrap_i64]<;>omega
   simp only[wA,↓Qc,simprocAttr,ta,new,Qb,Qa,and_false,false_and,and_true,true_and,and_self,eq_self,Zfg,Zhc,wB,F.own,F.lt,A.get,A.ltK,B.get,B.ltK,Jn,Jr,Jo,J8,J0,Zhd,Zff,Qf,ln1,w1,h1'];refine W.ite (fun h2=>?_) (fun h2=>?_)
   . simp only[wA,↓Qc,simprocAttr];refine W.pcall (Zz 2) rfl rfl rfl ?_;rintro _ rfl;simp only[wA,↓Qc,simprocAttr,Q7,ta,new,Qb,Qa,and_false,false_and,and_true,true_and,and_self,eq_self,Zfg,Zhc,F.lt,splice,wZ];refine W.done (Z2.ret (Q1 rfl rfl (Qm (by first|exact F.lt|assumption|(simp only[Qa];first|exact F.lt|assumption))) (by rw[Jp];rfl)) (bad _ (F.ch hn (by first|rfl|simp only[Qa]) (fun f' s' h=>by first|rfl|simp only[Qb,Qa,F.lt,Zfc h,false_and,if_false,AM.lk, *,-hn])) (.inr h2)))
   . have h2' :¬((c.data.length:Int)>3840-c.c):=of_decide_eq_false h2;have hb:(!inR c.c||decide ((c.data.length:Int)>3840-c.c))=false:=by rw[h1',h2];rfl
     rw[hb] at hw;simp only[Ze7,if_false] at hw;rw[hw];simp only[wA,↓Qc,simprocAttr,ta,new,Qb,Qa,and_false,false_and,and_true,true_and,and_self,eq_self,Zfg,Zhc,wZ,A.get,A.ltK,B.get,B.ltK,Jn,Jr,Jo,J8,J0,Zhd,Zff,Qf,F.lt];refine W.call (fc _ (fun f s h=>by simp only[Qb,Qa,F.lt,Zfc h,false_and,if_false];exact F.low f s h)) rfl rfl rfl rfl rfl ?_;rintro _ J ⟨rfl,cj⟩;have lj:n<J.length:=cj.lt (by simp only[Qa];exact F.lt);have lowj:∀f s,f<n->Qd J f s=Qd H f s:=fun f s h=>by rw[cj.get f s (by simp only[Qa];have:=F.lt;omega)];simp only[Qb,Qa,F.lt,Zfc h,false_and,if_false,lk];exact F.low f s h
     have oj:=fun s=>cj.own (s:=s) (f:=n) (by simp only[Qa];exact F.lt) (by simp);simp only[wA,↓Qc,simprocAttr,ta,new,Qb,Qa,and_false,false_and,and_true,true_and,and_self,eq_self,Zfg,Zhc,wB,F.own,F.lt,A.get,A.ltK,B.get,B.ltK,Jn,Jr,Jo,J8,J0,Zhd,Zff,Qf,lj,oj];have hfin:∀K2:Qg,n<K2.length->(∀f s,f<n->Qd K2 f s=Qd H f s)->Qd K2 n 5=some (.cells [.int .i64 m])->Qd K2 n 2=some (.cells [.ptr a.f a.s 0])->Qd K2 n 3=some (.cells (Qf c dv))->
      CR Tryz.prog Qv 65 [.ptr a.f a.s 0,.int .i64 e,.func (.func 72) [] [.ptr n 2 0,.ptr n 5 0,.ptr n 3 0]] K2 fun v K3=>v=Q7 (Y1 e L.snap)/\(∃w,(Y1 e L.snap=0->X w)/\Ch K2 K3 (if Y1 e L.snap=0 then w else[]))/\n<K3.length/\∀s,Qd K3 n s=Qd K2 n s:=by
      intro K2 hlt low g5 g2 g3;have hL2:=hL.low (K:=K2) (by rw[<-hn];exact low);refine Qlw n K2 a L.snap L.owner L.prev l hL2.cells _ _ _ X rfl rfl rfl rfl hlt ?_ (fun hz _ J cj=>?_)
      . rintro w ⟨v,_,rfl⟩;exact low1 A.lt
      . refine(Q1k J n a L ok l bs clk (hL2.ch cj) c dv hc.data m hm0.1 hm0.2 o ho (L.ob m).data hd (ok.dat m) c.c.toNat (by omega) (by omega) A.lt ((cj.get _ _ hlt).trans g5) ((cj.get _ _ hlt).trans g2) ((cj.get _ _ hlt).trans g3)).mono ?_;rintro _ J' ⟨v,hv,hch⟩;exact⟨_,⟨v,hv,rfl⟩,hch⟩
     refine W.call (hfin _ (by simp only[Qa];exact lj) (fun f s h=>by simp only[Qb,Qa,lj,Zfc h,false_and,if_false];exact lowj f s h) (Qm (by simp only[Qa];exact lj))
      (by simp only[Qb,Qa,lj,Nat.reduceEqDiff,and_false,if_false];exact(oj 2).trans (by simp only[Qb,Qa,F.lt,and_self,and_true,and_false,true_and,eq_self,if_true,if_false,Nat.reduceEqDiff,Qf];try rfl)) (by simp only[Qb,Qa,lj,Nat.reduceEqDiff,and_false,if_false];exact(oj 3).trans (by simp only[Qb,Qa,F.lt,and_self,and_true,and_false,true_and,eq_self,if_true,if_false,Nat.reduceEqDiff,Qf];try rfl))) rfl rfl rfl rfl rfl ?_
     rintro _ K3 ⟨rfl,⟨w,hX,c3⟩,l3,o3⟩;simp only[wA,↓Qc,simprocAttr,Q7,ta,new,Qb,Qa,and_false,false_and,and_true,true_and,and_self,eq_self,Zfg,Zhc,l3,o3,oj,lj,F.lt,splice,wZ];refine W.done (Z2.ret (Q1 rfl rfl (Qm (by first|exact F.lt|assumption|(simp only[Qa];first|exact F.lt|assumption))) (by rw[Jp];rfl)) ?_);refine Qe1 hL (w:=w) (Ch.fin hn (fun f s h=>by simp only[Qb,Qa,lj,Zfc h,false_and,if_false];exact lowj f s h) (by simp only[Qa];exact lj) c3) fun _ hz2 h=>?_;obtain⟨v,hv,rfl⟩:=hX hz2;refine line_upd (Q9 hL.cells) (Q9 hL.names) h ?_ (l' :=l.set m.toNat {o with data:=v}) (bs' :=bs) (clk' :=clk) ?_ ?_ ?_ ?_
     . intro x hx;simp only[Zfi,Zgm,or_false] at hx;rcases hx with rfl;simp
     . simp only[AM.lk,and_self,if_true,Qe.setOb]
     . simp only[AM.lk,hL.ne2,and_self,if_true,if_false];exact hL.names
     . exact hL.obs.set _ ⟨hk,hlk,hv⟩
     . exact hL.born
 . have h1' :inR c.c=false:=by simpa using h1
   simp only[wA,↓Qc,simprocAttr,h1'];refine W.pcall (Zz 2) rfl rfl rfl ?_;rintro _ rfl;simp only[wA,↓Qc,simprocAttr,Q7,ta,new,Qb,Qa,and_false,false_and,and_true,true_and,and_self,eq_self,Zfg,Zhc,F.lt,splice,wZ];refine W.done (Z2.ret (Q1 rfl rfl (Qm (by first|exact F.lt|assumption|(simp only[Qa];first|exact F.lt|assumption))) (by rw[Jp];rfl)) (bad _ (F.ch hn (by first|rfl|simp only[Qa]) (fun f' s' h=>by first|rfl|simp only[Qb,Qa,F.lt,Zfc h,false_and,if_false,AM.lk, *,-hn])) (.inl h1')))
theorem Q6r{g:Get}{f s len m:Nat}{xs:List V}{l:List UInt8}(hg:g f s=some (.mgrow xs len))(hx:xs=Qp l)(hl:xs.length=len*1):
 frzN g (m+2) (.mg f s len 1)=some (.iS (Qp l) len false):=by
 show(match g f s with
  |some (.mgrow xs k)=>if k=len/\xs.length=len*1 then(frzL (frzN g (m+1)) xs).map fun cs=>V.iS cs len false else none
  |_=>none)=_
 subst hx;rw[hg];simp only[hl,and_self,if_true,Qpz,Ze4]
def Q5l(H:Qg)(k:Nat)(v:V)(l:Qq):Prop:=(v= .nS/\l=[])\/(∃f s,k<=f/\l=[]/\v= .mS f s 0 0 (some 0) 1/\Qd H f s=some (.cells []))\/∃f s,k<=f/\v= .mg f s l.length 1/\Qd H f s=some (.mgrow (Qp l) l.length)
theorem Q19(H:Qg)(v:V)(l:Qq)(hv:Qx v l)(hl:l.length<=1000000):CR Tryz.prog Qv 71 [v] H fun r H' =>Ch H H' []/\Q5l H' H.length r l:=by
 refine Y2 Tryz.func71 rfl ?_;intro n K hn F;obtain⟨hlen,⟨rfl,h0⟩|⟨f,rfl⟩⟩:=hv
 . have h0' :l=[]:=Zf7 h0;subst h0';simp only[wA,↓Qc,simprocAttr,Tryz.ntmps71,ta,new,Qb,Qa,and_false,false_and,and_true,true_and,and_self,eq_self,Zfg,Zhc,wZ,F.own,F.lt,Q21 Tryz.underlying24];exact W.done (Z2.ret rfl ⟨(F.ch hn (by first|rfl|simp only[Qa]) (fun f' s' h=>by first|rfl|simp only[Qb,Qa,F.lt,Zfc h,false_and,if_false,AM.lk, *,-hn])),.inl ⟨rfl,rfl⟩⟩)
 . cases l with
   |nil=>
    have ap:=fun g=>Qd4 (P:=Tryz.prog) (mt:=Qv.mt 71) (fr:=n) (dst:=some 7) (g:=g) (t:=24) (t2:=24) (s:= .mS n 5 0 0 (some 0) 1) (x:= .iS (Qp []) ([]:Qq).length f) (cs:=[]) Tryz.underlying24 sz5 Qe5 zc5 rfl Tryz.underlying24 rfl rfl;simp only[Zg2] at ap;simp only[wA,↓Qc,simprocAttr,Tryz.ntmps71,ta,new,Qb,Qa,and_false,false_and,and_true,true_and,and_self,eq_self,Zfg,Zhc,wZ,F.own,F.lt,Qs3 Tryz.underlying24,Qu,↓ap,Tryz.underlying24,show Qv.mt 71 5=true from rfl];refine W.done (Z2.ret rfl ⟨(F.ch hn (by first|rfl|simp only[Qa]) (fun f' s' h=>by first|rfl|simp only[Qb,Qa,F.lt,Zfc h,false_and,if_false,AM.lk, *,-hn])),.inr (.inl ⟨n,5,by omega,rfl,rfl,?_⟩)⟩);rw[Ym (by simp only[Zhk,Zhl,V.refs];simp)];exact Qm F.lt
   |cons b l=>
    have ap:=fun g hg=>Q4y (P:=Tryz.prog) (mt:=Qv.mt 71) (fr:=n) (dst:=some 7) (g:=g) (t:=24) (t2:=24) (x:= .iS (Qp (b::l)) (b::l).length f) (m:=(b::l).length) (f:=n) (s:=5) Tryz.underlying24 sz5 Qe5 zc5 rfl Tryz.underlying24 (Ql.sc (Qx.mk (b::l) f)) (by simp) (Jb (by omega) (by omega)) hg;have gm:=fun g hg=>Qde (mt:=Qv.mt 71) (fr:=n) (d:=7) (g:=g) (cs:=[]++Qp (b::l)) (chk:=[]++Qp (b::l)) (m:=0+(b::l).length) (n:=1) rfl rfl (Qed _) (by simp[Qp]) hg;generalize b::l=L at*;simp only[Zhh,Zff] at ap gm;simp only[wA,↓Qc,simprocAttr,Tryz.ntmps71,ta,new,Qb,Qa,and_false,false_and,and_true,true_and,and_self,eq_self,Zfg,Zhc,wZ,F.own,F.lt,Qs3 Tryz.underlying24,Qu,↓ap _ (Qm F.lt),Tryz.underlying24,show Qv.mt 71 5=true from rfl,gm (Qd (Qs K n 5 (O.cells []))) (by rw[Jq F.lt (by decide)];exact F.own 7)];refine W.done (Z2.ret rfl ⟨(F.ch hn (by first|rfl|simp only[Qa]) (fun f' s' h=>by first|rfl|simp only[Qb,Qa,F.lt,Zfc h,false_and,if_false,AM.lk, *,-hn])),.inr (.inr ⟨n,7,by omega,rfl,?_⟩)⟩);rw[Ym (by simp only[Zhk,Zhl,V.refs];simp)];exact Qm (by simp only[Qa];exact F.lt)
theorem Q24(v:V)(l:Qq)(hv:Qx v l)(hl:l.length<=1000000):Qum Tryz.prog Qv 71 [v] fun r=>Qx r l:=by
 refine Qum.of_cr (Y2 Tryz.func71 rfl ?_);intro n K hn F;obtain⟨hlen,⟨rfl,h0⟩|⟨f,rfl⟩⟩:=hv
 . have h0' :l=[]:=Zf7 h0;subst h0';simp only[wA,↓Qc,simprocAttr,Tryz.ntmps71,ta,new,Qb,Qa,and_false,false_and,and_true,true_and,and_self,eq_self,Zfg,Zhc,wZ,F.own,F.lt,Q21 Tryz.underlying24];exact W.done (Z2.ret rfl ⟨.nS,rfl,Qx.nil⟩)
 . cases l with
   |nil=>
    have ap:=fun g=>Qd4 (P:=Tryz.prog) (mt:=Qv.mt 71) (fr:=n) (dst:=some 7) (g:=g) (t:=24) (t2:=24) (s:= .mS n 5 0 0 (some 0) 1) (x:= .iS (Qp []) ([]:Qq).length f) (cs:=[]) Tryz.underlying24 sz5 Qe5 zc5 rfl Tryz.underlying24 rfl rfl;simp only[Zg2] at ap;simp only[wA,↓Qc,simprocAttr,Tryz.ntmps71,ta,new,Qb,Qa,and_false,false_and,and_true,true_and,and_self,eq_self,Zfg,Zhc,wZ,F.own,F.lt,Qs3 Tryz.underlying24,Qu,↓ap,Tryz.underlying24,show Qv.mt 71 5=true from rfl];refine W.done (Z2.ret rfl ?_);rw[Ym (by simp only[Zhk,Zhl,V.refs];simp)];exact⟨_,Q48 (l:=[]) (Qm F.lt) rfl (Ze8 _),Qx.mk [] _⟩
   |cons b l=>
    have ap:=fun g hg=>Q4y (P:=Tryz.prog) (mt:=Qv.mt 71) (fr:=n) (dst:=some 7) (g:=g) (t:=24) (t2:=24) (x:= .iS (Qp (b::l)) (b::l).length f) (m:=(b::l).length) (f:=n) (s:=5) Tryz.underlying24 sz5 Qe5 zc5 rfl Tryz.underlying24 (Ql.sc (Qx.mk (b::l) f)) (by simp) (Jb (by omega) (by omega)) hg;have gm:=fun g hg=>Qde (mt:=Qv.mt 71) (fr:=n) (d:=7) (g:=g) (cs:=[]++Qp (b::l)) (chk:=[]++Qp (b::l)) (m:=0+(b::l).length) (n:=1) rfl rfl (Qed _) (by simp[Qp]) hg;generalize b::l=L at*;simp only[Zhh,Zff] at ap gm;simp only[wA,↓Qc,simprocAttr,Tryz.ntmps71,ta,new,Qb,Qa,and_false,false_and,and_true,true_and,and_self,eq_self,Zfg,Zhc,wZ,F.own,F.lt,Qs3 Tryz.underlying24,Qu,↓ap _ (Qm F.lt),Tryz.underlying24,show Qv.mt 71 5=true from rfl,gm (Qd (Qs K n 5 (O.cells []))) (by rw[Jq F.lt (by decide)];exact F.own 7)];refine W.done (Z2.ret rfl ?_);rw[Ym (by simp only[Zhk,Zhl,V.refs];simp)];exact⟨_,Q6r (Qm (by simp only[Qa];exact F.lt)) rfl (by rw[Ja];omega),Qx.mk L _⟩
theorem Q6l(l:Qq)(c b:Nat):(l.drop (min c l.length)).take (min (min c l.length+b) l.length-min c l.length)=(l.drop c).take b:=by
 by_cases h:c<=l.length
 . rw[Zgb h];by_cases h2:c+b<=l.length
   . rw[Zgb h2,Nat.add_sub_cancel_left]
   . rw[Nat.min_eq_right (by omega),Zhi (by rw[Zga];omega),Zhi (by rw[Zga];omega)]
 . rw[Zfu (by omega:l.length<=min c l.length),Zfu (by omega:l.length<=c)];simp
def Qnc(H:Qg)(k:Nat)(v:V)(l:Qq):Prop:=(l=[]/\Qx v l)\/Q5l H k v l
def Qdg(H:Qg)(k:Nat)(v:V)(r:Zi):Prop:=∃dv nv lv,v= .agg [.int .i64 r.err,.int .i64 r.id,dv,nv,.int .i64 r.info.obj,.int .u8 r.info.kind,.int .i64 r.info.links,.int .i64 r.info.size,.str r.info.to,lv]/\Qnc H k dv r.data/\
 Ql 1 nv (r.names.map .str) r.names.length/\Y0 lv r.lines
theorem Y4.m{v:V}{r:Zi}(h:Y4 v r)(h0:r.data=[])(H:Qg)(k:Nat):Qdg H k v r:=by obtain⟨dv,nv,lv,e,h1,h2,h3⟩:=h;exact⟨dv,nv,lv,e,.inl ⟨h0,h1⟩,h2,h3⟩
theorem Qnc.sc{H:Qg}{k:Nat}{v:V}{l:Qq}(h:Qnc H k v l):v.scalar=true/\v.cells=some [v]:=by
 rcases h with⟨_,h⟩|⟨rfl,_⟩|⟨f,s,_,_,rfl,_⟩|⟨f,s,_,rfl,_⟩
 . exact⟨Ql.scalar h,Ql.cells h⟩
 all_goals exact⟨rfl,rfl⟩
theorem Qnc.to{H H' :Qg}{k k' :Nat}{v:V}{l:Qq}(h:Qnc H k v l)(hk:k' <=k)(hg:v.refs (fun f _=>Nat.ble k f)=true->∀f s,k<=f->Qd H' f s=Qd H f s):Qnc H' k' v l:=by
 rcases h with h|h|⟨f,s,h1,h2,rfl,h3⟩|⟨f,s,h1,rfl,h3⟩
 . exact .inl h
 . exact .inr (.inl h)
 . exact .inr (.inr (.inl ⟨f,s,by omega,h2,rfl,(hg (by simp only[V.refs];exact Zhp h1) f s h1).trans h3⟩))
 . exact .inr (.inr (.inr ⟨f,s,by omega,rfl,(hg (by simp only[V.refs];exact Zhp h1) f s h1).trans h3⟩))
theorem Qrh{p q:Nat->Nat->Bool}(hpq:∀f s,p f s=true->q f s=true){dv:V}{H:Qg}{k:Nat}{l:Qq}(hd:Qnc H k dv l)(h:dv.refs p=true):dv.refs q=true:=by
 rcases hd with⟨_,hb⟩|⟨rfl,_⟩|⟨f,s,_,_,rfl,_⟩|⟨f,s,_,rfl,_⟩
 . obtain⟨_,⟨rfl,_⟩|⟨f,rfl⟩⟩:=hb
   . simp[V.refs] at h
   . have:=(Qx.mk l f).noRefs p;rw[this] at h;cases h
 . simp[V.refs] at h
 . simp only[V.refs] at h⊢;exact hpq _ _ h
 . simp only[V.refs] at h⊢;exact hpq _ _ h
def Qw5(f:FuncId)(g:Qe->Zc->Qe×Zi):Prop:=∀(H:Qg) (a:Loc) (L:Qe) (c:Zc) (dv:V),Q5 L->Yn H a L->Ye c dv->
 CR Tryz.prog Qv f [.ptr a.f a.s 0,.agg (Qf c dv)] H fun v H' =>Qdg H' H.length v (g L c).2/\Yn H' a (g L c).1/\Qhn H H' a
theorem Qgw.m{f:FuncId}{g:Qe->Zc->Qe×Zi}(h:Qgw f g)(h0:∀L c,(g L c).2.data=[]):Qw5 f g:=fun H a L c dv ok hL hc=>
 (h H a L c dv ok hL hc).mono fun v H' ⟨h1,h2⟩=>⟨h1.m (h0 L c) H' H.length,h2⟩
theorem read_l:Qw5 43 Qe.read:=by
 rintro H a L c dv ok ⟨l,bs,clk,hL⟩ hc;refine Y2 Tryz.func43 rfl ?_;intro n K hn F;have A:=F.at_ hn hL.cells;have B:=F.at_ hn hL.names;have sdv:=Ql.scalar hc.data;have hm0:=Qb1 ok 9 c.name;have fc:=fun K2 (low:∀f s,f<n->Qd K2 f s=Qd H f s)=>Qln K2 a L ok l bs clk (hL.low (by rw[<-hn];exact low)) c.name;have hw:L.read c=if !inR c.b||!inR c.c then(L,Zl 2) else if(L.follow 9 c.name).2≠0 then(L,Zl (L.follow 9 c.name).2) else(L,{Zl 0 with data:=Qzo (L.ob (L.follow 9 c.name).1).data c.c c.b}):=rfl
 generalize hfw:L.follow 9 c.name=fw at*;obtain⟨m,e⟩:=fw;simp only at hm0 hw;obtain⟨o,ho,hk,hlk,hd⟩:=hL.obs.at_ (ok.at_ hm0.1 hm0.2);have bad:∀(K2:Qg) (x:Int),L.read c=(L,Zl x)->Ch H K2 []->Qdg K2 H.length (Q7 x) (L.read c).2/\Yn K2 a (L.read c).1/\Qhn H K2 a:=by intro K2 x hx hch;rw[hx];exact⟨(Zk x).m rfl _ _,Bf hL hch⟩
 simp only[wA,↓Qc,simprocAttr,Tryz.ntmps43,ta,new,Qb,Qa,and_false,false_and,and_true,true_and,and_self,eq_self,Zfg,Zhc,wB,F.own,F.lt,Qf,sdv];refine W.pcall (Qzs c.b) rfl rfl rfl ?_;rintro _ rfl;simp only[wA,↓Qc,simprocAttr];refine W.guardF (fun h1=>?_) (fun h1=>?_)
 . have h1' :inR c.b=true:=by simpa using h1
   simp only[wA,↓Qc,simprocAttr,h1',ta,new,Qb,Qa,and_false,false_and,and_true,true_and,and_self,eq_self,Zfg,Zhc,wB,F.own,F.lt];refine W.pcall (Qzs c.c) rfl rfl rfl ?_;rintro _ rfl;simp only[wA,↓Qc,simprocAttr,h1'];refine W.ite (fun h2=>?_) (fun h2=>?_)
   . have h2' :inR c.c=false:=by simpa using h2
     rw[h2'] at hw;simp only[wA,↓Qc,simprocAttr];refine W.pcall (Zz 2) rfl rfl rfl ?_;rintro _ rfl;simp only[wA,↓Qc,simprocAttr,Q7,ta,new,Qb,Qa,and_false,false_and,and_true,true_and,and_self,eq_self,Zfg,Zhc,F.lt,splice,wZ];refine W.done (Z2.ret (Q1 rfl rfl (Qm (by first|exact F.lt|assumption|(simp only[Qa];first|exact F.lt|assumption))) (by rw[Jp];rfl)) (bad _ 2 (by rw[hw];simp) (F.ch hn (by first|rfl|simp only[Qa]) (fun f' s' h=>by first|rfl|simp only[Qb,Qa,F.lt,Zfc h,false_and,if_false,AM.lk, *,-hn]))))
   . have h2' :inR c.c=true:=by simpa using h2
     rw[h1',h2'] at hw;simp only[Zhf,Zhq,Ze7,if_false] at hw;have hrb:0<=c.b/\c.b<=3840:=by simpa [inR] using h1'
     have hrc:0<=c.c/\c.c<=3840:=by simpa [inR] using h2'
     simp only[wA,↓Qc,simprocAttr,ta,new,Qb,Qa,and_false,false_and,and_true,true_and,and_self,eq_self,Zfg,Zhc,wZ,A.get,A.ltK,B.get,B.ltK,Jn,Jr,Jo,J8,J0,Zhd,Zff,Qf,F.lt];refine W.call (fc _ (fun f s h=>by simp only[Qb,Qa,F.lt,Zfc h,false_and,if_false];exact F.low f s h)) rfl rfl rfl rfl rfl ?_;rintro _ J ⟨rfl,cj⟩;have lj:n<J.length:=cj.lt (by simp only[Qa];exact F.lt);have lowj:∀f s,f<n->Qd J f s=Qd H f s:=fun f s h=>by rw[cj.get f s (by simp only[Qa];have:=F.lt;omega)];simp only[Qb,Qa,F.lt,Zfc h,false_and,if_false,lk];exact F.low f s h
     have oj:=fun s=>cj.own (s:=s) (f:=n) (by simp only[Qa];exact F.lt) (by simp);have chj:∀v x,Ch H (Yb n v (Qs J n 4 x)) []:=fun v x=>Ch.fin hn lowj lj (Ch.refl J);have aj:Qd J a.f a.s=_:=(lowj _ _ A.lt).trans hL.cells;simp only[wA,↓Qc,simprocAttr,ta,new,Qb,Qa,and_false,false_and,and_true,true_and,and_self,eq_self,Zfg,Zhc,wB,F.own,F.lt,A.get,A.ltK,B.get,B.ltK,Jn,Jr,Jo,J8,J0,Zhd,Zff,Qf,lj,oj];refine W.ite (fun h3=>?_) (fun h3=>?_)
     . have h3' :e≠0:=by simpa using h3
       rw[if_pos h3'] at hw;simp only[wA,↓Qc,simprocAttr];refine W.pcall (Zz e) rfl rfl rfl ?_;rintro _ rfl;simp only[wA,↓Qc,simprocAttr,Q7,ta,new,Qb,Qa,and_false,false_and,and_true,true_and,and_self,eq_self,Zfg,Zhc,lj,oj,F.lt,splice,wZ];exact W.done (Z2.ret (Q1 rfl rfl (Qm (by first|exact F.lt|assumption|(simp only[Qa];first|exact F.lt|assumption))) (by rw[Jp];rfl)) (bad _ e hw (chj _ _)))
     . have h3' :¬(e≠0):=by simpa using h3
       rw[if_neg h3'] at hw;have ln2:=hd.len Tryz.underlying24;have hdl:=ok.dat m;generalize hD:(L.ob m).data=D at*;have mn1:(if(D.length:Int)<c.c then(D.length:Int) else c.c)=((min c.c.toNat D.length:Nat):Int):=by split<;>omega
       have w1:(IntKind.i64).wrap (((min c.c.toNat D.length:Nat):Int)+c.b)=((min c.c.toNat D.length+c.b.toNat:Nat):Int):=by rw[wrap_i64]<;>omega
       have mn2:(if(D.length:Int)<((min c.c.toNat D.length+c.b.toNat:Nat):Int) then(D.length:Int) else((min c.c.toNat D.length+c.b.toNat:Nat):Int))=((min (min c.c.toNat D.length+c.b.toNat) D.length:Nat):Int):=by split<;>omega
       obtain⟨w,hw1,hw2⟩:=Qx.cut (P:=Tryz.prog) (u:=24) (e:=5) Tryz.underlying24 sz5 hd (some ((min c.c.toNat D.length:Nat):Int)) (some ((min (min c.c.toNat D.length+c.b.toNat) D.length:Nat):Int)) (by simp only[Zgi];omega) (by simp only[Zgi];omega) (by simp only[Zgi];omega);simp only[Ze4,Zgi,Zhj,Q6l] at hw1 hw2;simp only[wA,↓Qc,simprocAttr,ta,new,Qb,Qa,and_false,false_and,and_true,true_and,and_self,eq_self,Zfg,Zhc,wZ,A.get,A.ltK,B.get,B.ltK,Jn,Jr,Jo,J8,J0,Zhd,Zff,Qf,lj,oj,F.lt,aj,Qcb hm0.1 hm0.2,Qgc ho,ln2,mn1,w1,mn2,↓hw1];refine W.call (Q19 J w _ hw2 (by rw[Zf9,Zga];omega)) rfl rfl rfl rfl rfl ?_;rintro r J2 ⟨cj2,hr0⟩;have hr:Qnc J2 J.length r _:= .inr hr0;have lj2:n<J2.length:=cj2.lt lj;have oj2:=fun s=>cj2.own (s:=s) (f:=n) lj (by simp);have lowj2:∀f s,f<n->Qd J2 f s=Qd H f s:=fun f s h=>(cj2.get f s (by omega)).trans (lowj f s h);have chj2:∀v x,Ch H (Yb n v (Qs J2 n 4 x)) []:=fun v x=>Ch.fin hn lowj2 lj2 (Ch.refl J2);have cr:=hr.sc.2;have sr:=hr.sc.1;simp only[wA,↓Qc,simprocAttr,ta,new,Qb,Qa,and_false,false_and,and_true,true_and,and_self,eq_self,Zfg,Zhc,wB,lj2,oj2,lj,oj,F.lt,cr,sr];refine W.done (Z2.ret (Q1 rfl rfl (Qm (by first|exact F.lt|assumption|(simp only[Qa];first|exact F.lt|assumption))) (by rw[Jp];rfl)) ?_);rw[hw];refine⟨⟨r,.nS,.nS,rfl,hr.to (by omega) (fun hrf f s hf=>?_),Ql.nil,Y0.nil⟩,Bf hL (chj2 _ _)⟩;rw[Ym,Q8 lj2 (by omega)];have:=Qrh (q:=fun f _=>Nat.ble n f) (fun f s h=>Zhp (Ze9 (Zhr lj) (Zhs h))) hr hrf;simp only[V.refs,Zv,this,Bool.true_or,Bool.or_true,Zhm,Zhb]
 . have h1' :inR c.b=false:=by simpa using h1
   rw[h1'] at hw;simp only[wA,↓Qc,simprocAttr,h1'];refine W.pcall (Zz 2) rfl rfl rfl ?_;rintro _ rfl;simp only[wA,↓Qc,simprocAttr,Q7,ta,new,Qb,Qa,and_false,false_and,and_true,true_and,and_self,eq_self,Zfg,Zhc,F.lt,splice,wZ];exact W.done (Z2.ret (Q1 rfl rfl (Qm (by first|exact F.lt|assumption|(simp only[Qa];first|exact F.lt|assumption))) (by rw[Jp];rfl)) (bad _ 2 (by rw[hw];simp) (F.ch hn (by first|rfl|simp only[Qa]) (fun f' s' h=>by first|rfl|simp only[Qb,Qa,F.lt,Zfc h,false_and,if_false,AM.lk, *,-hn]))))
theorem W.prim{P:Program}{Qv:Pol}{L:Yu->Qas}{fn fr:Nat}{t:List V}{H:Qg}{d:Option Nat}{k k' :List It}{Q:Ex->List V->Qg->Prop}{f:FuncId}{args:List V}{g:Nat->Option Nat->Get->List V->Option (V×Option (Nat×Nat×O))}{v:V}
 (hp:Qv.prim f=some g)(hg:g fr d (Qd H) args=some (v,none))(h2:W (U P Qv (Zx P Qv) L fn fr k .normal (Z5 t d v) H) Q):W (UC P Qv (Zx P Qv) L fn fr (Zn Qv (Zx P Qv) fn fr d f args H) d k k' t) Q:=by
 have e:Zn Qv (Zx P Qv) fn fr d f args H=some (.ret v,H):=by simp only[Zn,hp,hg,Ze4];rfl
 rw[e];exact h2
theorem Q6n(H:Qg)(nf ns:Nat):CR Tryz.prog Qv 76 [.map nf ns] H fun v H' =>v= .func (.func 84) [] [.ptr H.length 1 0]/\Qd H' H.length 1=some (.cells [.map nf ns])/\Ch H H' []:=by refine Y2 Tryz.func76 rfl ?_;intro n K hn F;simp only[wA,↓Qc,simprocAttr,Tryz.ntmps76,ta,new,Qb,Qa,and_false,false_and,and_true,true_and,and_self,eq_self,Zfg,Zhc,wZ,F.own,F.lt];refine W.done (Z2.ret rfl ?_);rw[Ym (by simp only[Zhk,Zhl,V.refs,Zv];simp)];refine⟨by rw[<-hn];rfl,by rw[<-hn];exact Qm F.lt,by simp only[Qa];have:=F.len;omega,fun f' s' h=>?_⟩;rw[Q8 F.lt (by omega),F.low f' s' (by omega)];rfl
theorem Qis:∀l:List (Qq×Int),Qhy (Xt l)=some (l.map (·.1))
 |[]=>rfl
 |p::l=>by
  have:=Qis l;simp only[Xt,Zfn] at this⊢;simp only[Qhy,this]
theorem Qmy(l:List V):Ql 1 (Qai l) l l.length:=by
 unfold Qai;cases l with
 |nil=>exact Ql.nil
 |cons x l=>exact Ql.mk (by simp)
theorem list_l:Qgw 47 fun L _=>Qe.list L:=by
 rintro H a L c dv ok ⟨l,bs,clk,hL⟩ hc;refine Y2 Tryz.func47 rfl ?_;intro n K hn F;have A:=F.at_ hn hL.cells;have B:=F.at_ hn hL.names;have sdv:=Ql.scalar hc.data;simp only[wA,↓Qc,simprocAttr,Tryz.ntmps47,ta,new,Qb,Qa,and_false,false_and,and_true,true_and,and_self,eq_self,Zfg,Zhc,wB,A.get,A.ltK,B.get,B.ltK,Jn,Jr,Jo,J8,J0,Zhd,Zff,Qf,A.ne,F.own,F.lt,Qf,sdv];refine W.call (Q6n _ a.nf a.ns) rfl rfl rfl rfl rfl ?_;rintro _ J ⟨rfl,g1,cj⟩;generalize hq:List.length _=q at g1;have hq1:q=n+1:=by rw[<-hq];simp only[Qa];exact F.len
 have lj:n<J.length:=cj.lt (by simp only[Qa];exact F.lt);have lowj:∀f s,f<n->Qd J f s=Qd H f s:=fun f s h=>by rw[cj.get f s (by simp only[Qa];have:=F.lt;omega)];simp only[Qb,Qa,F.lt,Zfc h,false_and,if_false,lk];exact F.low f s h
 have oj:=fun s=>cj.own (s:=s) (f:=n) (by simp only[Qa];exact F.lt) (by simp);have bj:Qd J a.nf a.ns=_:=(lowj _ _ B.lt).trans hL.names;have ps:Qav 84 n (some 10) (Qd J) [.func (.func 84) [] [.ptr q 1 0]]=some (Qai ((sortB (L.names.map (·.1))).map .str),none):=by
  simp only[Qav,if_true,g1,bj,Qis];have few:=ok.few;have sh:∀x∈L.names.map (·.1),x.length<=1048576:=fun x hx=>by obtain⟨p,hp,rfl⟩:=Zfm.1 hx;have:=ok.short p hp;omega
  have cnt:(L.names.map (·.1)).length<=1048576:=by rw[Zgu];omega
  rw[if_pos ⟨ok.uniq,hL.born.uniq,hL.born.lt,sh,cnt⟩]
 simp only[wA,↓Qc,simprocAttr,hq];refine W.prim (g:=Qav 84) rfl ps ?_;have sl:=Qmy ((sortB (L.names.map (·.1))).map .str);have scl:=Ql.scalar sl;have cl:=Ql.cells sl;generalize Qai ((sortB (L.names.map (·.1))).map .str)=sv at*;simp only[wA,↓Qc,simprocAttr,ta,new,Qb,Qa,and_false,false_and,and_true,true_and,and_self,eq_self,Zfg,Zhc,wB,lj,oj,F.lt,cl,scl];refine W.done (Z2.ret (Q1 rfl rfl (Qm (by first|exact F.lt|assumption|(simp only[Qa];first|exact F.lt|assumption))) (by rw[Jp];rfl)) ⟨⟨.nS,sv,.nS,rfl,Qx.nil,?_,Y0.nil⟩,Bf hL (Ch.fin hn lowj lj (Ch.refl J))⟩);simpa [Qe.list] using sl
theorem stat_l:Qgw 46 Qe.stat:=by
 rintro H a L c dv ok ⟨l,bs,clk,hL⟩ hc;refine Y2 Tryz.func46 rfl ?_;intro n K hn F;have A:=F.at_ hn hL.cells;have B:=F.at_ hn hL.names;have sdv:=Ql.scalar hc.data;have lk:=fun g h=>Bx (g:=g) (nf:=a.nf) (ns:=a.ns) (l:=L.names) (bs:=bs) (clk:=clk) h c.name;simp only[wA,↓Qc,simprocAttr,Tryz.ntmps46,ta,new,Qb,Qa,and_false,false_and,and_true,true_and,and_self,eq_self,Zfg,Zhc,wB,F.own,F.lt,Qf,sdv,A.get,A.ltK,B.get,B.ltK,Jn,Jr,Jo,J8,J0,Zhd,Zff,Qf,A.ne,B.ne,↓lk];refine W.opsK (by kernel_rfl) ?_;cases hs:Zb L.names c.name with
 |none=>
  have hw:L.stat c=(L,Zl 6):=by rw[Qe.stat,hs]
  simp only[wA,↓Qc,simprocAttr,Zgy];refine W.pcall (Zz 6) rfl rfl rfl ?_;rintro _ rfl;simp only[wA,↓Qc,simprocAttr,Q7,ta,new,Qb,Qa,and_false,false_and,and_true,true_and,and_self,eq_self,Zfg,Zhc,F.lt,splice,wZ];refine W.done (Z2.ret (Q1 rfl rfl (Qm (by first|exact F.lt|assumption|(simp only[Qa];first|exact F.lt|assumption))) (by rw[Jp];rfl)) ?_);rw[hw];exact⟨Zk 6,Bf hL (F.ch hn (by first|rfl|simp only[Qa]) (fun f' s' h=>by first|rfl|simp only[Qb,Qa,F.lt,Zfc h,false_and,if_false,AM.lk, *,-hn]))⟩
 |some m=>
  have hm:=ok.num hs;obtain⟨o,ho,hk,hlk,hd⟩:=hL.obs.at_ (ok.at_ (i:=m) (by omega) (by omega));have so:=Ql.scalar hd;have co:=Ql.cells hd;have ln2:=hd.len Tryz.underlying24;have hw:L.stat c=(L,{Zl 0 with info:=⟨m,(L.ob m).kind,(L.ob m).links,(L.ob m).data.length,if(L.ob m).kind=3 then(L.ob m).data else[]⟩}):=by rw[Qe.stat,hs]
  have ra:=fun(sn:Bool) (ow pr:Int)=>ra_ob (a:=a) (sn:=sn) (ow:=ow) (pr:=pr) ho;have oc:o.cells=[.int .u8 (L.ob m).kind,.int .i64 (L.ob m).links,o.data]:=by rw[Ob.cells,hk,hlk]
  have tx:=fun g=>Qh9 (g:=g) hd;simp only[wA,↓Qc,simprocAttr,Zhe,Zgi];simp only[wA,↓Qc,simprocAttr,ta,new,Qb,Qa,and_false,false_and,and_true,true_and,and_self,eq_self,Zfg,Zhc,wB,A.get,A.ltK,B.get,B.ltK,Jn,Jr,Jo,J8,J0,Zhd,Zff,Qf,F.own,F.lt,A.ne,Qcb (show 0<=m by omega) (show m<16 by omega),↓ra,oc,so,co,ln2];refine W.ite (fun h2=>?_) (fun h2=>?_)
  . have h3:(L.ob m).kind=3:=by simpa using h2
    rw[if_pos h3] at hw;simp only[wA,↓Qc,simprocAttr,ta,new,Qb,Qa,and_false,false_and,and_true,true_and,and_self,eq_self,Zfg,Zhc,wB,F.own,F.lt,Qdm,tx,so,co];refine W.done (Z2.ret (Q1 rfl rfl (Qm (by first|exact F.lt|assumption|(simp only[Qa];first|exact F.lt|assumption))) (by rw[Jp];rfl)) ?_);rw[hw];exact⟨⟨.nS,.nS,.nS,rfl,Qx.nil,Ql.nil,Y0.nil⟩,Bf hL (F.ch hn (by first|rfl|simp only[Qa]) (fun f' s' h=>by first|rfl|simp only[Qb,Qa,F.lt,Zfc h,false_and,if_false,AM.lk, *,-hn]))⟩
  . have h3:¬(L.ob m).kind=3:=by simpa using h2
    rw[if_neg h3] at hw;simp only[wA,↓Qc,simprocAttr,ta,new,Qb,Qa,and_false,false_and,and_true,true_and,and_self,eq_self,Zfg,Zhc,wB,F.own,F.lt,Qdm,tx,so,co];refine W.done (Z2.ret (Q1 rfl rfl (Qm (by first|exact F.lt|assumption|(simp only[Qa];first|exact F.lt|assumption))) (by rw[Jp];rfl)) ?_);rw[hw];exact⟨⟨.nS,.nS,.nS,rfl,Qx.nil,Ql.nil,Y0.nil⟩,Bf hL (F.ch hn (by first|rfl|simp only[Qa]) (fun f' s' h=>by first|rfl|simp only[Qb,Qa,F.lt,Zfc h,false_and,if_false,AM.lk, *,-hn]))⟩
theorem Q5m{g:Get}{nf ns:Nat}{l:List (Qq×Int)}{bs:List Nat}{clk:Nat}(h:g nf ns=some (.map (Xt l) bs clk)){s:Qq}(hs:Zb l s=none):
 mapEntryV Tryz.prog g 69 (.map nf ns) (.str s)=some (.val (.tuple [.int .i64 0,.int .i64 clk]) (some (nf,ns,.map (Xt (l++[(s,0)])) (bs++[clk]) (clk+1)))):=by
 have z:zer Tryz.prog 3=some (.int .i64 0):=by kernel_rfl
 simp only[mapEntryV,Tryz.underlying69,Tryz.underlying9,z,Yo,if_true,h,Qmc hs];simp only[Xt,Zgw,Zfn,Zfo];rfl
theorem Qn9(x:V)(k y:V)(clk:Nat):∀(es:List (V×V)) (bs:List Nat),es.length=bs.length->(∀b∈bs,b<clk)->Qff (clk:Int) x (es++[(k,y)]) (bs++[clk])=some (es++[(k,x)])
 |[],[],_,_=>by simp[Qff]
 |[],b::bs,h,_=>by simp at h
 |e::es,[],h,_=>by simp at h
 |e::es,b::bs,h,hb=>by
  have h1:=hb b (by simp);have ih:=Qn9 x k y clk es bs (by simpa using h) (fun c hc=>hb c (Zfj _ hc));simp only[Zgh,Qff];rw[if_neg (by omega),ih];rfl
theorem Q5a{g:Get}{nf ns:Nat}{l:List (Qq×Int)}{bs:List Nat}{clk:Nat}{s:Qq}(h:g nf ns=some (.map (Xt (l++[(s,0)])) (bs++[clk]) (clk+1)))(b:Qft l.length bs clk)(n:Int):
 entryStoreV g (.map nf ns) (.int .i64 clk) (.int .i64 n)=some (.val .bad (some (nf,ns,.map (Xt (l++[(s,n)])) (bs++[clk]) (clk+1)))):=by
 simp only[entryStoreV,h];have:=Qn9 (.int .i64 n) (.str s) (.int .i64 0) clk (Xt l) bs (by simp only[Xt,Zgu];exact b.len.symm) b.lt;simp only[Xt,Zgw,Zfn,Zfo] at this⊢;rw[this];rfl
theorem Qp6(L:Qe):∀(k i:Nat),i+k<=16->i<=Yy L.objs k i/\Yy L.objs k i<=i+k
 |0,i,_=>by simp[Yy]
 |k+1,i,h=>by
  unfold Yy;split
  . omega
  . have:=Qp6 L k (i+1) (by omega);omega
theorem Q4i(H:Qg)(a:Loc)(L:Qe)(ok:Q5 L)(l:List Ob)(bs:List Nat)(clk:Nat)(hL:Xi H a L l bs clk)(name:Qq)(o:Bw)(v:V)(hv:Qx v o.data):
 CR Tryz.prog Qv 63 [.ptr a.f a.s 0,.str name,.agg [.int .u8 o.kind,.int .i64 o.links,v]] H fun r H' =>Y4 r (L.add name o).2/\Yn H' a (L.add name o).1/\Qhn H H' a:=by
 refine Y2 Tryz.func63 rfl ?_;intro n K hn F;have A:=F.at_ hn hL.cells;have B:=F.at_ hn hL.names;have sv:=Ql.scalar hv;have cv:=Ql.cells hv;have bad:∀(K2:Qg) (x:Int),x≠0->Qp2 L name=x->Ch H K2 []->Y4 (Q7 x) (L.add name o).2/\Yn K2 a (L.add name o).1/\Qhn H K2 a:=by
  intro K2 x hx he hch;have:L.add name o=(L,Zl x):=by rw[Qe.add,he,if_neg hx]
  rw[this];exact⟨Zk x,Bf hL hch⟩
 simp only[wA,↓Qc,simprocAttr,Tryz.ntmps63,ta,new,Qb,Qa,and_false,false_and,and_true,true_and,and_self,eq_self,Zfg,Zhc,wB,F.own,F.lt,sv];refine W.call (Qzd _ a L l bs clk (hL.low (by rw[<-hn];exact(fun f s h=>by simp only[Qb,Qa,F.lt,Zfc h,false_and,if_false];exact F.low f s h))) name) rfl rfl rfl rfl rfl ?_;rintro _ J ⟨rfl,cj⟩;have lj:n<J.length:=cj.lt (by simp only[Qa];exact F.lt);have lowj:∀f s,f<n->Qd J f s=Qd H f s:=fun f s h=>by rw[cj.get f s (by simp only[Qa];have:=F.lt;omega)];simp only[Qb,Qa,F.lt,Zfc h,false_and,if_false,lk];exact F.low f s h
 have j5:Qd J n 5=some (.cells [.int .u8 o.kind,.int .i64 o.links,v]):=(cj.own (by simp only[Qa];exact F.lt) (by simp)).trans (by simp only[Qb,Qa,F.lt,and_self,and_true,and_false,true_and,eq_self,if_true,if_false,Nat.reduceEqDiff,Qf];try rfl);have j6:Qd J n 6=_:=(cj.own (by simp only[Qa];exact F.lt) (by simp)).trans (Qm (by simp only[Qa];exact F.lt));have chj:∀v x,Ch H (Yb n v (Qs J n 6 x)) []:=fun v x=>Ch.fin hn lowj lj (Ch.refl J);have aj:Qd J a.f a.s=_:=(lowj _ _ A.lt).trans hL.cells;have bj:Qd J a.nf a.ns=_:=(lowj _ _ B.lt).trans hL.names;have al:a.f<J.length:=by have:=A.lt;omega
 have bl:a.nf<J.length:=by have:=B.lt;omega
 clear cj;generalize hr:Kj L.names name=r at*;simp only[wA,↓Qc,simprocAttr,ta];refine W.ul ?_;refine W.loopS (kt:=[0,1,5,6,7,8]) rfl (fun i:Nat=>Q3d (.ptr a.f a.s 0) (.str name) (.ptr n 5 0) (.ptr n 6 0) (.int .i64 r) (.int .i64 i)) (fun _=>J) (fun i=>1<=i/\i<=16/\Yy L.objs (16-i) i=L.free) (fun i=>16-i) ?_ 1 ⟨by omega,by omega,rfl⟩ rfl rfl;rintro i ⟨hi1,hi2,hg⟩;simp only[Q3d];have tail:i=L.free->True:=fun _=>trivial;by_cases h:i<16
 . have c1:decide ((i:Int)<16)=true:=Zig (by omega);have w1:(IntKind.i64).wrap ((i:Int)+1)=((i+1:Nat):Int):=by rw[wrap_i64]<;>omega
   obtain⟨o2,ho2,hk2,_,_⟩:=hL.obs.at_ (ok.at_ (i:=(i:Int)) (by omega) (by omega));obtain⟨j,hj⟩:∃j,16-i=j+1:=⟨15-i,by omega⟩;have hob:(L.objs[i]?).getD Qc2=L.ob (i:Int):=rfl;rw[hj,Yy,hob] at hg;simp only[wA,↓Qc,simprocAttr,c1,ta,A.get,A.ltK,B.get,B.ltK,Jn,Jr,Jo,J8,J0,Zhd,Zff,Qf,aj,Qcb (show(0:Int)<=(i:Int) by omega) (show(i:Int)<16 by omega),Qtd ho2,hk2];refine W.ite (fun h2=>?_) (fun h2=>?_)
   . have h3:¬(L.ob i).kind=0:=by simpa using h2
     rw[if_neg h3] at hg;simp only[wA,↓Qc,simprocAttr,w1];exact W.done ⟨i+1,rfl,rfl,⟨by omega,by omega,by rw[show 16-(i+1)=j by omega];exact hg⟩,by omega⟩
   . have h3:(L.ob i).kind=0:=by simpa using h2
     rw[if_pos h3] at hg;simp only[wA,↓Qc,simprocAttr];refine W.done ?_;simp only[wA,↓Qc,simprocAttr];refine W.ite (fun h4=>?_) (fun h4=>?_)
     . have hr0:r≠0:=by simpa using h4
       simp only[wA,↓Qc,simprocAttr];refine W.pcall (Zz r) rfl rfl rfl ?_;rintro _ rfl;simp only[wA,↓Qc,simprocAttr,Q7,ta,new,Qb,Qa,and_false,false_and,and_true,true_and,and_self,eq_self,Zfg,Zhc,lj,j6,splice,wZ];exact W.done (Z2.ret (Q1 rfl rfl (Qm (by first|exact F.lt|assumption|(simp only[Qa];first|exact F.lt|assumption))) (by rw[Jp];rfl)) (bad _ r hr0 (by rw[Qp2,hr,if_pos hr0]) (chj _ _)))
     . have hr0:¬(r≠0):=by simpa using h4
       have f16:¬L.free=16:=by omega
       have c16:((i:Int)==16)=false:=by simp;omega
       simp only[wA,↓Qc,simprocAttr,c16,ta,A.get,A.ltK,B.get,B.ltK,Jn,Jr,Jo,J8,J0,Zhd,Zff,Qf,aj];refine W.ite (fun h5=>?_) (fun h5=>?_)
       . simp only[wA,↓Qc,simprocAttr];refine W.pcall (Zz 202) rfl rfl rfl ?_;rintro _ rfl;simp only[wA,↓Qc,simprocAttr,Q7,ta,new,Qb,Qa,and_false,false_and,and_true,true_and,and_self,eq_self,Zfg,Zhc,lj,j6,splice,wZ];exact W.done (Z2.ret (Q1 rfl rfl (Qm (by first|exact F.lt|assumption|(simp only[Qa];first|exact F.lt|assumption))) (by rw[Jp];rfl)) (bad _ 202 (by decide) (by rw[Qp2,hr,if_neg hr0,if_neg f16,h5];rfl) (chj _ _)))
       . have hn0:Zb L.names name=none:=by
          simp only[ne_eq,Decidable.not_not] at hr0;rw[hr0,Kj] at hr;cases hq:Zb L.names name with
          |none=>rfl
          |some x=>rw[hq] at hr;simp at hr
         have hE:Qp2 L name=0:=by rw[Qp2,hr,if_neg hr0,if_neg f16,h5];rfl
         have ne1:=hL.ne1;have ne2:=hL.ne2;have an:¬n=a.f:=fun e=>A.ne e.symm;have bn:¬n=a.nf:=fun e=>B.ne e.symm;have me1:=Q5m (g:=Qd (Qs J a.f a.s (.cells (Zd a L.snap L.owner L.prev (l.set (i:Int).toNat ⟨o.kind,o.links,v⟩))))) (by rw[Ks al ne2];exact bj) hn0;have es1:=Q5a (g:=Qd (Qs (Qs J a.f a.s (.cells (Zd a L.snap L.owner L.prev (l.set (i:Int).toNat ⟨o.kind,o.links,v⟩)))) a.nf a.ns (.map (Xt (L.names++[(name,0)])) (bs++[clk]) (clk+1)))) (Qm (by simp only[Qa];exact bl)) hL.born (i:Int);simp only[wA,↓Qc,simprocAttr,ta,new,Qb,Qa,and_false,false_and,and_true,true_and,and_self,eq_self,Zfg,Zhc,wZ,A.get,A.ltK,B.get,B.ltK,Jn,Jr,Jo,J8,J0,Zhd,Zff,Qf,aj,bj,j5,sv,al,bl,an,bn,ne1,ne2,Qcb (show(0:Int)<=(i:Int) by omega) (show(i:Int)<16 by omega),st_ob ho2,↓me1,↓es1];refine W.opsK (by kernel_rfl) ?_;simp only[wA,↓Qc,simprocAttr,ta,new,Qb,Qa,and_false,false_and,and_true,true_and,and_self,eq_self,Zfg,Zhc,wB,lj,j6,al,bl,an,bn];refine W.done (Z2.ret (Q1 rfl rfl (Qm (by first|exact F.lt|assumption|(simp only[Qa];first|exact F.lt|assumption))) (by rw[Jp];rfl)) ?_);have hadd:L.add name o=({L with objs:=L.objs.set i o,names:=L.names++[(name,(i:Int))]},Zl 0):=by rw[Qe.add,hE,if_pos rfl,<-hg]
         rw[hadd];refine⟨Zk 0,line_upd (w:=[(a.nf,a.ns,.map (Xt (L.names++[(name,(i:Int))])) (bs++[clk]) (clk+1)),(a.f,a.s,.cells (Zd a L.snap L.owner L.prev (l.set (i:Int).toNat ⟨o.kind,o.links,v⟩)))]) (Q9 hL.cells) (Q9 hL.names) ?_ ?_ (l' :=l.set i ⟨o.kind,o.links,v⟩) (bs' :=bs++[clk]) (clk' :=clk+1) ?_ ?_ ?_ ?_⟩
         . subst hn;refine⟨Qbc (by simp only[Qa];omega),fun f' s' h=>?_⟩;rw[Xm h];simp only[Qb,Qa,lj,al,bl,Zfc h,false_and,if_false,AM.lk,lowj f' s' h];split<;>rfl
         . intro x hx;simp only[Zfi,Zgm,or_false] at hx;rcases hx with rfl|rfl<;>simp
         . simp only[AM.lk,ne1,and_self,if_true,if_false];rfl
         . simp only[AM.lk,and_self,if_true]
         . exact hL.obs.set _ ⟨rfl,rfl,hv⟩
         . simp only[Zfv,Zgz,Zg2];exact hL.born.add
 . have e:i=16:=by omega
   subst e;have c1:decide (((16:Nat):Int)<16)=false:=rfl;have f16:L.free=16:=by rw[<-hg];rfl
   simp only[wA,↓Qc,simprocAttr,c1];refine W.done ?_;simp only[wA,↓Qc,simprocAttr];refine W.ite (fun h4=>?_) (fun h4=>?_)
   . have hr0:r≠0:=by simpa using h4
     simp only[wA,↓Qc,simprocAttr];refine W.pcall (Zz r) rfl rfl rfl ?_;rintro _ rfl;simp only[wA,↓Qc,simprocAttr,Q7,ta,new,Qb,Qa,and_false,false_and,and_true,true_and,and_self,eq_self,Zfg,Zhc,lj,j6,splice,wZ];exact W.done (Z2.ret (Q1 rfl rfl (Qm (by first|exact F.lt|assumption|(simp only[Qa];first|exact F.lt|assumption))) (by rw[Jp];rfl)) (bad _ r hr0 (by rw[Qp2,hr,if_pos hr0]) (chj _ _)))
   . have hr0:¬(r≠0):=by simpa using h4
     have c16:(((16:Nat):Int)==16)=true:=rfl;simp only[wA,↓Qc,simprocAttr,c16];refine W.pcall (Zz 9) rfl rfl rfl ?_;rintro _ rfl;simp only[wA,↓Qc,simprocAttr,Q7,ta,new,Qb,Qa,and_false,false_and,and_true,true_and,and_self,eq_self,Zfg,Zhc,lj,j6,splice,wZ];exact W.done (Z2.ret (Q1 rfl rfl (Qm (by first|exact F.lt|assumption|(simp only[Qa];first|exact F.lt|assumption))) (by rw[Jp];rfl)) (bad _ 9 (by decide) (by rw[Qp2,hr,if_neg hr0,if_pos f16]) (chj _ _)))
end
end Go.Proofs.YtmapmgfiamfocaaGreat
