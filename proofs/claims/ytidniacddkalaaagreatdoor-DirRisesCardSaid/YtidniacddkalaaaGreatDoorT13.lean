/- This file holds in one the texts An23, An24; each says at its head what it proves. -/
import Derived.Test.YtidniacddkalaaaGreatDoorT12
import Derived.Lib.BytesEntry
import Derived.Lib.MakeNoZero
set_option linter.unusedSimpArgs false
set_option linter.unusedVariables false
section
namespace Go.AM
def BLe(b b' :Kw):Prop:=∀t H r,b t H=some r->b' t H=some r
def CLe(C C' :Call):Prop:=∀f a H r,C f a H=some r->C' f a H=some r
inductive Qv7{α β:Type}(R:α->β->Prop):List α->List β->Prop where
 |nil:Qv7 R [] []
 |cons {x y l m}:R x y->Qv7 R l m->Qv7 R (x::l) (y::m)
def OLe(x y:Out):Prop:=∀r,x=some r->y=some r
def MLe(b b' :Ka):Prop:=∀t H,Qv7 OLe (b t H) (b' t H)
def LLe(L L' :Ka->Kw):Prop:=∀b b',MLe b b' ->BLe (L b) (L' b')
theorem OLe.refl(x:Out):OLe x x:=fun _ h=>h
theorem MLe.refl(b:Ka):MLe b b:=fun t H=>by
 induction b t H with
 |nil=>exact .nil
 |cons x l ih=>exact .cons (OLe.refl x) ih
theorem Q0e{l l' :List Out}(h:Qv7 OLe l l'):∀y∈l',∃x∈l,OLe x y:=by
 induction h with
 |nil=>intro y hy;cases hy
 |cons h1 _ ih=>
  intro y hy;rcases Zrx.1 hy with rfl|hy
  . exact⟨_,Zry,h1⟩
  . obtain⟨x,hx,hxy⟩:=ih y hy;exact⟨x,Zrz _ hx,hxy⟩
theorem Qoc{l l' :List Out}(h:Qv7 OLe l l'):OLe (Qed l) (Qed l'):=by
 intro r hr;obtain⟨hne,hall⟩:=Qmb.1 hr;refine Qe5 ?_ fun y hy=>?_
 . rintro rfl;cases h;exact hne rfl
 . obtain⟨x,hx,hxy⟩:=Q0e h y hy;exact hxy _ (hall x hx)
theorem Qpa{k k' :List V->Heap->Out}(hk:∀t H,OLe (k t H) (k' t H)){x y:Out}(h:OLe x y):OLe (after k x) (after k' y):=by
 intro r hr;unfold after at hr;split at hr
 . rename_i t H;rw[h _ rfl];exact hk t H r hr
 . rename_i hne;have hy:=h r hr;subst hr hy;unfold after;split
   . exact(hne _ _ (by assumption)).elim
   . rfl
theorem Qp6{f g:Out->Out}{l l' :List Out}(hf:∀x y,OLe x y->OLe (f x) (g y))(h:Qv7 OLe l l'):Qv7 OLe (l.map f) (l'.map g):=by
 induction h with
 |nil=>exact .nil
 |cons h1 _ ih=>exact .cons (hf _ _ h1) ih
theorem Qwz{α:Type}{f g:α->Out}{l:List α}(hf:∀x,OLe (f x) (g x)):Qv7 OLe (l.map f) (l.map g):=by
 induction l with
 |nil=>exact .nil
 |cons x l ih=>exact .cons (hf x) ih
theorem most{α:Type}{l:List α}{p:α->Nat->Prop}(h:∀x∈l,∃n,∀m,n<=m->p x m):∃n,∀m,n<=m->∀x∈l,p x m:=by
 induction l with
 |nil=>exact⟨0,fun _ _ _ h=>by cases h⟩
 |cons a l ih=>
  obtain⟨n,hn⟩:=h a Zry;obtain⟨k,hk⟩:=ih fun x hx=>h x (Zrz _ hx);refine⟨max n k,fun m hm x hx=>?_⟩;rcases Zrx.1 hx with rfl|hx
  . exact hn m (by omega)
  . exact hk m (by omega) x hx
section
variable {P : Program} {pol : Pol} {C C' : Call} {L L' : Ka -> Kw} {fn fr : Nat}
theorem Qeg(hC:CLe C C'){dst:Option Nat}{f:FuncId}{args:List V}{H:Heap}{r:Rt×Heap}(h:callOp pol C fn fr dst f args H=some r):callOp pol C' fn fr dst f args H=some r:=by
 unfold callOp at h⊢;split
 . rename_i g hg;rw[hg] at h;exact h
 . rename_i hg;rw[hg] at h;simp only at h;split
   . rename_i hp;rw[if_pos hp] at h;split
     . rename_i ys hys;rw[hys] at h;simp only at h;cases hc:C f ys [] with
       |none=>rw[hc] at h;cases h
       |some x=>rw[hc] at h;rw[hC _ _ _ _ hc];exact h
     . rename_i hys;rw[hys] at h;exact h
   . rename_i hp;rw[if_neg hp] at h;by_cases hl:pol.lift fn f=true
     . rw[if_pos hl] at h⊢;cases hys:Qt (frz (fun _ _=>none) depth) args with
       |none=>rw[hys] at h;cases h
       |some ys=>
        rw[hys] at h;simp only at h⊢;cases hc:C f ys [] with
        |none=>rw[hc] at h;cases h
        |some x=>rw[hc] at h;rw[hC _ _ _ _ hc];exact h
     . rw[if_neg hl] at h⊢;by_cases hk:pol.look fn f=true
       . rw[if_pos hk] at h⊢;cases hys:Qt (frz (Qd H) depth) args with
         |none=>rw[hys] at h;cases h
         |some ys=>
          rw[hys] at h;simp only at h⊢;cases hc:C f ys [] with
          |none=>rw[hc] at h;cases h
          |some x=>rw[hc] at h;rw[hC _ _ _ _ hc];exact h
       . rw[if_neg hk] at h⊢;cases ht:Qfg pol fn f args with
         |none=>rw[ht] at h;cases h
         |some ys=>rw[ht] at h;exact hC _ _ _ _ h
theorem Xq(hC:CLe C C'){t:List V}{H:Heap}{o:Oper}{r:Ex×List V×Heap}(h:Q7 P pol C fn fr t H o=some r):Q7 P pol C' fn fr t H o=some r:=by
 unfold Q7 at h⊢;cases hev:Zr P (pol.mt fn) fr (Qd H) (rho t) o with
 |none=>rw[hev] at h;cases h
 |some st=>
  rw[hev] at h;cases st with
  |val v w=>exact h
  |panic v=>exact h
  |call f args=>
   simp only at h⊢;cases hc:callOp pol C fn fr o.dst f args H with
   |none=>rw[hc] at h;cases h
   |some x=>rw[hc] at h;rw[Qeg hC hc];exact h
  |round f s args=>
   simp only at h⊢;cases hc:C none (.yield f s::args) H with
   |none=>rw[hc] at h;cases h
   |some x=>rw[hc] at h;rw[hC _ _ _ _ hc];exact h
theorem Yk(hC:CLe C C'){ops:Array Oper}:∀(l:List Oper) (t:List V) (H:Heap) (r:Ex×List V×Heap),Zi P pol C fn fr ops l t H=some r->Zi P pol C' fn fr ops l t H=some r
 |[],_,_,_,h=>h
 |o::l,t,H,r,h=>by
  simp only[Zi] at h⊢;split
  . rename_i hw;rw[hw] at h;cases h
  . rename_i hw;rw[hw] at h;exact Yk hC l _ _ _ h
  . rename_i hw;rw[hw] at h;simp only at h;cases hop:Q7 P pol C fn fr t H o with
    |none=>rw[hop] at h;cases h
    |some x=>
     rw[hop] at h;rw[Xq hC hop];obtain⟨e,t1,H1⟩:=x;cases e with
     |normal=>exact Yk hC l _ _ _ h
     |exit i=>exact h
     |ret=>exact h
     |panic v=>exact h
theorem Kj(hC:CLe C C'){ops:Array Oper}:∀(l:List Oper) (t:List V) (H:Heap) (r:List V×Heap×List FP),Q3 P pol C fn fr ops l t H=some r->Q3 P pol C' fn fr ops l t H=some r
 |[],_,_,_,h=>h
 |o::l,t,H,r,h=>by
  simp only[Q3] at h⊢;split
  . rename_i hw;rw[hw] at h;cases h
  . rename_i hw;rw[hw] at h;simp only at h;cases hr:Q3 P pol C fn fr ops l (Qu t o.dst nov) H with
    |none=>rw[hr] at h;cases h
    |some x=>rw[hr] at h;rw[Kj hC l _ _ _ hr];exact h
  . rename_i hw;rw[hw] at h;simp only at h;cases hop:Q7 P pol C fn fr t H o with
    |none=>rw[hop] at h;cases h
    |some x=>
     rw[hop] at h;rw[Xq hC hop];obtain⟨e,t1,H1⟩:=x;cases e with
     |normal=>
      simp only at h⊢;cases hr:Q3 P pol C fn fr ops l t1 H1 with
      |none=>rw[hr] at h;cases h
      |some y=>rw[hr] at h;rw[Kj hC l _ _ _ hr];exact h
     |exit i=>exact h
     |ret=>exact h
     |panic v=>exact h
theorem Y8(hC:CLe C C')(hL:LLe L L'):∀c:Code,BLe (Q5 P pol C L fn fr c) (Q5 P pol C' L' fn fr c)/\∀v w,BLe (Z5 P pol C L fn fr c v w) (Z5 P pol C' L' fn fr c v w):=by
 intro c;have no:∀{c:Code},(∀v w t H,Z5 P pol C L fn fr c v w t H=none)->∀v w,BLe (Z5 P pol C L fn fr c v w) (Z5 P pol C' L' fn fr c v w):=fun h v w t H r hr=>by rw[h] at hr;cases hr
 induction c with
 |skip=>exact⟨fun _ _ _ h=>h,no fun _ _ _ _=>rfl⟩
 |region id ops draw=>
  refine⟨fun t H r h=>?_,fun v w t H r h=>?_⟩
  . cases draw with
    |true=>
     simp only[Q5,if_true] at h⊢;cases hr:Q3 P pol C fn fr ops ops.toList t H with
     |none=>rw[hr] at h;cases h
     |some x=>rw[hr] at h;rw[Kj hC _ _ _ _ hr];exact h
    |false=>
     simp only[Q5,Zre,if_false] at h⊢;exact Yk hC _ _ _ _ h
  . simp only[Z5] at h⊢;split
    . rename_i o l ho;rw[ho] at h;exact Yk hC _ _ _ _ h
    . rename_i ho;rw[ho] at h;cases h
 |seq a b iha ihb=>
  refine⟨fun t H r h=>?_,fun v w t H r h=>?_⟩
  . simp only[Q5] at h⊢;cases hx:Q5 P pol C L fn fr a t H with
    |none=>rw[hx] at h;cases h
    |some x=>
     rw[hx] at h;rw[iha.1 _ _ _ hx];obtain⟨e,t1,H1⟩:=x;cases e with
     |normal=>exact ihb.1 _ _ _ h
     |exit i=>exact h
     |ret=>exact h
     |panic v=>exact h
  . simp only[Z5] at h⊢;cases hx:Z5 P pol C L fn fr a v w t H with
    |none=>rw[hx] at h;cases h
    |some x=>
     rw[hx] at h;rw[iha.2 v w _ _ _ hx];obtain⟨e,t1,H1⟩:=x;cases e with
     |normal=>exact ihb.1 _ _ _ h
     |exit i=>exact h
     |ret=>exact h
     |panic v=>exact h
 |cond c x y ihx ihy=>
  refine⟨fun t H r h=>?_,no fun _ _ _ _=>rfl⟩;simp only[Q5] at h⊢;cases hc:rho t c with
  |bool b=>
   rw[hc] at h;cases b with
   |true=>exact ihx.1 _ _ _ h
   |false=>exact ihy.1 _ _ _ h
  |_=>rw[hc] at h;cases h
 |block id b ih=>
  refine⟨fun t H r h=>?_,no fun _ _ _ _=>rfl⟩;simp only[Q5] at h⊢;cases hx:Q5 P pol C L fn fr b t H with
  |none=>rw[hx] at h;cases h
  |some x=>rw[hx] at h;rw[ih.1 _ _ _ hx];exact h
 |loop b ih=>
  refine⟨fun t H r h=>?_,no fun _ _ _ _=>rfl⟩;simp only[Q5] at h⊢;refine hL _ _ ?_ _ _ _ h;intro t H;simp only;split
  . split
    . exact .cons (fun r h=>ih.1 _ _ _ h) .nil
    . split
      . exact Qwz fun c r h=>ih.2 c.1 c.2 _ _ _ h
      . exact .cons (OLe.refl _) .nil
  . exact .cons (OLe.refl _) .nil
 |rangeFunc g ps a b iha ihb=>
  refine⟨fun t H r h=>?_,no fun _ _ _ _=>rfl⟩;simp only[Q5] at h⊢;split at h
  case h_2=>cases h
  rename_i f first cap hg
  split at h
  case h_2=>cases h
  rename_i hn;split at h
  case h_2=>cases h
  rename_i v H2 hc;rw[hC _ _ _ _ hc];exact h
 |_=>exact⟨fun _ _ _ h=>h,no fun _ _ _ _=>rfl⟩
theorem Qc5(hC:CLe C C')(hL:LLe L L')(c:Code):BLe (Q5 P pol C L fn fr c) (Q5 P pol C' L' fn fr c):=(Y8 hC hL c).1
theorem Q18(hC:CLe C C')(hL:LLe L L'):∀f args H r,Qbc P pol C L f args H=some r->Qbc P pol C' L' f args H=some r:=by
 intro f args H r h;unfold Qbc at h⊢;cases hF:P.funcs[f]? with
 |none=>rw[hF] at h;cases h
 |some F=>
  rw[hF] at h;simp only at h⊢;cases hb:F.body with
  |none=>rw[hb] at h;cases h
  |some c=>
   rw[hb] at h;simp only at h⊢;cases hx:Q5 P pol C L f H.length c (args++List.replicate (F.ntmps-args.length) .bad) (H++[[]]) with
   |none=>rw[hx] at h;cases h
   |some x=>rw[hx] at h;rw[Qc5 hC hL c _ _ _ hx];exact h
theorem Q1k(hC:CLe C C')(hL:LLe L L'):∀fo so args H r,Qa0 P pol C L fo so args H=some r->Qa0 P pol C' L' fo so args H=some r:=by
 intro fo so args H r h;unfold Qa0 at h⊢;split at h
 case h_2=>cases h
 rename_i pend fL rid t0 hg;split at h
 case h_2=>cases h
 rename_i ps a b hl;split at h
 case isFalse=>cases h
 rename_i hlen;rw[if_pos hlen];split at h
 case h_2=>cases h
 rename_i t1 H1 hx1;rw[Qc5 hC hL _ _ _ _ hx1];simp only;split at h
 case h_2=>cases h
 rename_i pend1 fL1 rid1 t01 hg1;split at h
 case h_2=>cases h
 rename_i e t2 H2 hx2;rw[Qc5 hC hL _ _ _ _ hx2];exact h
theorem Qjz(hC:CLe C C')(hL:LLe L L'):CLe (Qd6 P pol C L) (Qd6 P pol C' L'):=by
 intro f args H r h;cases f with
 |some f=>exact Q18 hC hL f args H r h
 |none=>
  simp only[Qd6] at h⊢;split at h
  . exact Q1k hC hL _ _ _ _ _ h
  . cases h
theorem Yt{b b' :Ka}(hb:MLe b b'):∀(n m:Nat),n<=m->BLe (Zw b n) (Zw b' m)
 |0,_,_=>fun _ _ _ h=>by cases h
 |n+1,0,hm=>by omega
 |n+1,m+1,hm=>by
  intro t H r h;simp only[Zw] at h⊢;exact Qoc (Qp6 (fun x y hxy=>Qpa (fun t H r h=>Yt hb n m (by omega) t H r h) hxy) (hb t H)) r h
theorem J5:∀(n m:Nat),n<=m->CLe (Ye P pol n) (Ye P pol m)
 |0,_,_=>fun _ _ _ _ h=>by cases h
 |n+1,0,hm=>by omega
 |n+1,m+1,hm=>Qjz (J5 n m (by omega)) fun b b' hb=>Yt hb n m (by omega)
end
open Classical in
noncomputable def lim{α:Type}(f:Nat->Option α):Option α:=if h:∃r n,f n=some r then some h.choose else none
theorem Qyl{α:Type}{f:Nat->Option α}{r:α}(hm:∀n m a,n<=m->f n=some a->f m=some a):lim f=some r↔∃n,f n=some r:=by
 unfold lim;constructor
 . intro h;split at h
   . rename_i hx;cases h;exact hx.choose_spec
   . cases h
 . rintro⟨n,hn⟩;have hx:∃r n,f n=some r:=⟨r,n,hn⟩;rw[dif_pos hx];obtain⟨k,hk⟩:=hx.choose_spec;have h1:=hm _ (max n k) _ (Zsa _ _) hn;have h2:=hm _ (max n k) _ (Zsb _ _) hk;rw[h1] at h2;exact congrArg some (Option.some.inj h2).symm
noncomputable def Zz(b:Ka):Kw:=fun t H=>lim fun n=>Zw b n t H
noncomputable def Qp(P:Program)(pol:Pol):Call:=fun f args H=>lim fun n=>Ye P pol n f args H
theorem Qfq{b:Ka}{t:List V}{H:Heap}{r:Ex×List V×Heap}:Zz b t H=some r↔∃n,Zw b n t H=some r:=
 Qyl fun n m _ hn h=>Yt (MLe.refl b) n m hn _ _ _ h
theorem Qwp(b:Ka)(t:List V)(H:Heap):Zz b t H=Qed ((b t H).map (after (Zz b))):=by
 have hiff:∀r,Zz b t H=some r↔Qed ((b t H).map (after (Zz b)))=some r:=by
  intro r;rw[Qfq];constructor
  . rintro⟨n,hn⟩;cases n with
    |zero=>cases hn
    |succ n=>
     simp only[Zw] at hn;exact Qoc (Qp6 (fun x y hxy=>Qpa (fun t H r h=>Qfq.2 ⟨n,h⟩) hxy) (MLe.refl b t H)) r hn
  . intro h;obtain⟨hne,hall⟩:=Qmb.1 h;have:∀x∈b t H,∃n,∀m,n<=m->after (Zw b m) x=some r:=by
     intro x hx;have h1:=hall _ (Zr3.2 ⟨x,hx,rfl⟩);unfold after at h1;split at h1
     . rename_i t1 H1;obtain⟨n,hn⟩:=Qfq.1 h1;exact⟨n,fun m hm=>Yt (MLe.refl b) n m hm _ _ _ hn⟩
     . rename_i hne1;refine⟨0,fun m _=>?_⟩;unfold after;split
       . exact absurd rfl (hne1 _ _)
       . exact h1
    obtain⟨n,hn⟩:=most this;refine⟨n+1,?_⟩;simp only[Zw];refine Qe5 (by simpa using hne) fun y hy=>?_;obtain⟨x,hx,rfl⟩:=Zr3.1 hy;exact hn n (Zrf n) x hx
 cases h1:Zz b t H with
 |some r=>exact((hiff r).1 h1).symm
 |none=>
  cases h2:Qed ((b t H).map (after (Zz b))) with
  |none=>rfl
  |some r=>rw[(hiff r).2 h2] at h1;cases h1
theorem Q6h{b:Ka}{t:List V}{H:Heap}{x:Out}(h:b t H=[x]):Zz b t H=after (Zz b) x:=by rw[Qwp,h];rfl
section
variable {P : Program} {pol : Pol} {fn fr : Nat}
theorem Y6{f:Option FuncId}{args:List V}{H:Heap}{r:Rt×Heap}:Qp P pol f args H=some r↔∃n,Ye P pol n f args H=some r:=
 Qyl fun n m _ hn h=>J5 n m hn _ _ _ _ h
theorem Qd9(ok:Okay P pol):Z8 P (Qp P pol):=by
 refine⟨fun f args H r H' h=>?_,fun fo so rest H r H' h=>?_⟩
 . obtain⟨n,hn⟩:=Y6.1 h;exact(Qat ok n).1 f args H r H' hn
 . obtain⟨n,hn⟩:=Y6.1 h;exact(Qat ok n).2 fo so rest H r H' hn
theorem Qw7{dst:Option Nat}{f:FuncId}{args:List V}{H:Heap}{r:Rt×Heap}(h:callOp pol (Qp P pol) fn fr dst f args H=some r):∃n,callOp pol (Ye P pol n) fn fr dst f args H=some r:=by
 unfold callOp at h;split at h
 . rename_i g hg;exact⟨0,by simp only[callOp,hg];exact h⟩
 . rename_i hg;split at h
   . rename_i hp;split at h
     . rename_i ys hys;cases hc:Qp P pol f ys [] with
       |none=>rw[hc] at h;cases h
       |some x=>
        obtain⟨n,hn⟩:=Y6.1 hc;rw[hc] at h;exact⟨n,by simp only[callOp,hg,hp,if_true,hys,hn];exact h⟩
     . cases h
   . rename_i hp;by_cases hl:pol.lift fn f=true
     . rw[if_pos hl] at h;cases hys:Qt (frz (fun _ _=>none) depth) args with
       |none=>rw[hys] at h;cases h
       |some ys=>
        rw[hys] at h;simp only at h;cases hc:Qp P pol f ys [] with
        |none=>rw[hc] at h;cases h
        |some x=>
         obtain⟨n,hn⟩:=Y6.1 hc;rw[hc] at h;exact⟨n,by simp only[callOp,hg,hp,Zre,if_false,hl,if_true,hys,hn];exact h⟩
     . rw[if_neg hl] at h;by_cases hk:pol.look fn f=true
       . rw[if_pos hk] at h;cases hys:Qt (frz (Qd H) depth) args with
         |none=>rw[hys] at h;cases h
         |some ys=>
          rw[hys] at h;simp only at h;cases hc:Qp P pol f ys [] with
          |none=>rw[hc] at h;cases h
          |some x=>
           obtain⟨n,hn⟩:=Y6.1 hc;rw[hc] at h;exact⟨n,by simp only[callOp,hg,hp,Zre,if_false,hl,hk,if_true,hys,hn];exact h⟩
       . rw[if_neg hk] at h;cases ht:Qfg pol fn f args with
         |none=>rw[ht] at h;cases h
         |some ys=>
          rw[ht] at h;obtain⟨n,hn⟩:=Y6.1 h;exact⟨n,by simp only[callOp,hg,hp,Zre,if_false,hl,hk,ht,hn]⟩
theorem Qpg{t:List V}{H:Heap}{o:Oper}{r:Ex×List V×Heap}(h:Q7 P pol (Qp P pol) fn fr t H o=some r):∃n,Q7 P pol (Ye P pol n) fn fr t H o=some r:=by
 unfold Q7 at h;cases hev:Zr P (pol.mt fn) fr (Qd H) (rho t) o with
 |none=>rw[hev] at h;cases h
 |some st=>
  rw[hev] at h;cases st with
  |val v w=>exact⟨0,by simp only[Q7,hev];exact h⟩
  |panic v=>exact⟨0,by simp only[Q7,hev];exact h⟩
  |call f args=>
   simp only at h;cases hc:callOp pol (Qp P pol) fn fr o.dst f args H with
   |none=>rw[hc] at h;cases h
   |some x=>
    obtain⟨n,hn⟩:=Qw7 hc;rw[hc] at h;exact⟨n,by simp only[Q7,hev,hn];exact h⟩
  |round f s args=>
   simp only at h;cases hc:Qp P pol none (.yield f s::args) H with
   |none=>rw[hc] at h;cases h
   |some x=>
    obtain⟨n,hn⟩:=Y6.1 hc;rw[hc] at h;exact⟨n,by simp only[Q7,hev,hn];exact h⟩
theorem Qdy{ops:Array Oper}:∀(l:List Oper) (t:List V) (H:Heap) (r:Ex×List V×Heap),Zi P pol (Qp P pol) fn fr ops l t H=some r->∃n,Zi P pol (Ye P pol n) fn fr ops l t H=some r
 |[],_,_,_,h=>⟨0,h⟩
 |o::l,t,H,r,h=>by
  simp only[Zi] at h;split at h
  . cases h
  . rename_i hw;obtain⟨n,hn⟩:=Qdy l _ _ _ h;exact⟨n,by simp only[Zi,hw];exact hn⟩
  . rename_i hw;cases hop:Q7 P pol (Qp P pol) fn fr t H o with
    |none=>rw[hop] at h;cases h
    |some x=>
     rw[hop] at h;obtain⟨n,hn⟩:=Qpg hop;obtain⟨e,t1,H1⟩:=x;cases e with
     |normal=>
      simp only at h;obtain⟨m,hm⟩:=Qdy l _ _ _ h;refine⟨max n m,?_⟩;simp only[Zi,hw];rw[Xq (J5 n (max n m) (Zsa _ _)) hn];exact Yk (J5 m (max n m) (Zsb _ _)) l _ _ _ hm
     |exit i=>exact⟨n,by simp only[Zi,hw,hn];exact h⟩
     |ret=>exact⟨n,by simp only[Zi,hw,hn];exact h⟩
     |panic v=>exact⟨n,by simp only[Zi,hw,hn];exact h⟩
theorem Qfr{ops:Array Oper}:∀(l:List Oper) (t:List V) (H:Heap) (r:List V×Heap×List FP),Q3 P pol (Qp P pol) fn fr ops l t H=some r->∃n,Q3 P pol (Ye P pol n) fn fr ops l t H=some r
 |[],_,_,_,h=>⟨0,h⟩
 |o::l,t,H,r,h=>by
  simp only[Q3] at h;split at h
  . cases h
  . rename_i hw;cases hr:Q3 P pol (Qp P pol) fn fr ops l (Qu t o.dst nov) H with
    |none=>rw[hr] at h;cases h
    |some x=>
     rw[hr] at h;obtain⟨n,hn⟩:=Qfr l _ _ _ hr;exact⟨n,by simp only[Q3,hw,hn];exact h⟩
  . rename_i hw;cases hop:Q7 P pol (Qp P pol) fn fr t H o with
    |none=>rw[hop] at h;cases h
    |some x=>
     rw[hop] at h;obtain⟨n,hn⟩:=Qpg hop;obtain⟨e,t1,H1⟩:=x;cases e with
     |normal=>
      simp only at h;cases hr:Q3 P pol (Qp P pol) fn fr ops l t1 H1 with
      |none=>rw[hr] at h;cases h
      |some y=>
       rw[hr] at h;obtain⟨m,hm⟩:=Qfr l _ _ _ hr;refine⟨max n m,?_⟩;simp only[Q3,hw];rw[Xq (J5 n (max n m) (Zsa _ _)) hn];simp only;rw[Kj (J5 m (max n m) (Zsb _ _)) l _ _ _ hm];exact h
     |exit i=>cases h
     |ret=>cases h
     |panic v=>cases h
theorem Q21:∀(c:Code),(∀(t:List V) (H:Heap) (r:Ex×List V×Heap),Q5 P pol (Qp P pol) Zz fn fr c t H=some r->
 ∃n,Q5 P pol (Ye P pol n) (fun b=>Zw b n) fn fr c t H=some r)/\
 ∀v w (t:List V) (H:Heap) (r:Ex×List V×Heap),Z5 P pol (Qp P pol) Zz fn fr c v w t H=some r->∃n,Z5 P pol (Ye P pol n) (fun b=>Zw b n) fn fr c v w t H=some r:=by
 have up:∀(c:Code) (n m:Nat),n<=m->BLe (Q5 P pol (Ye P pol n) (fun b=>Zw b n) fn fr c) (Q5 P pol (Ye P pol m) (fun b=>Zw b m) fn fr c):=
  fun c n m hn=>Qc5 (J5 n m hn) (fun b b' hb=>Yt hb n m hn) c
 have upF:∀(c:Code) (n m:Nat) v w,n<=m->BLe (Z5 P pol (Ye P pol n) (fun b=>Zw b n) fn fr c v w) (Z5 P pol (Ye P pol m) (fun b=>Zw b m) fn fr c v w):=
  fun c n m v w hn=>(Y8 (J5 n m hn) (fun b b' hb=>Yt hb n m hn) c).2 v w
 have no:∀{c:Code},(∀v w t H,Z5 P pol (Qp P pol) Zz fn fr c v w t H=none)->∀v w (t:List V) (H:Heap) (r:Ex×List V×Heap),Z5 P pol (Qp P pol) Zz fn fr c v w t H=some r->
  ∃n,Z5 P pol (Ye P pol n) (fun b=>Zw b n) fn fr c v w t H=some r:=fun h v w t H r hr=>by rw[h] at hr;cases hr
 intro c
 induction c with
 |skip=>exact⟨fun _ _ _ h=>⟨0,h⟩,no fun _ _ _ _=>rfl⟩
 |region id ops draw=>
  refine⟨fun t H r h=>?_,fun v w t H r h=>?_⟩
  . cases draw with
    |true=>
     simp only[Q5,if_true] at h⊢;cases hr:Q3 P pol (Qp P pol) fn fr ops ops.toList t H with
     |none=>rw[hr] at h;cases h
     |some x=>
      rw[hr] at h;obtain⟨n,hn⟩:=Qfr _ _ _ _ hr;exact⟨n,by rw[hn];exact h⟩
    |false=>
     simp only[Q5,Zre,if_false] at h⊢;exact Qdy _ _ _ _ h
  . simp only[Z5] at h⊢;cases ho:ops.toList with
    |nil=>rw[ho] at h;cases h
    |cons o l=>rw[ho] at h;exact Qdy _ _ _ _ h
 |seq a b iha ihb=>
  refine⟨fun t H r h=>?_,fun v w t H r h=>?_⟩
  . simp only[Q5] at h⊢;cases hx:Q5 P pol (Qp P pol) Zz fn fr a t H with
    |none=>rw[hx] at h;cases h
    |some x=>
     rw[hx] at h;obtain⟨n,hn⟩:=iha.1 _ _ _ hx;obtain⟨e,t1,H1⟩:=x;cases e with
     |normal=>
      obtain⟨m,hm⟩:=ihb.1 _ _ _ h;refine⟨max n m,?_⟩;rw[up a n (max n m) (Zsa _ _) _ _ _ hn];exact up b m (max n m) (Zsb _ _) _ _ _ hm
     |exit i=>exact⟨n,by rw[hn];exact h⟩
     |ret=>exact⟨n,by rw[hn];exact h⟩
     |panic v=>exact⟨n,by rw[hn];exact h⟩
  . simp only[Z5] at h⊢;cases hx:Z5 P pol (Qp P pol) Zz fn fr a v w t H with
    |none=>rw[hx] at h;cases h
    |some x=>
     rw[hx] at h;obtain⟨n,hn⟩:=iha.2 v w _ _ _ hx;obtain⟨e,t1,H1⟩:=x;cases e with
     |normal=>
      obtain⟨m,hm⟩:=ihb.1 _ _ _ h;refine⟨max n m,?_⟩;rw[upF a n (max n m) v w (Zsa _ _) _ _ _ hn];exact up b m (max n m) (Zsb _ _) _ _ _ hm
     |exit i=>exact⟨n,by rw[hn];exact h⟩
     |ret=>exact⟨n,by rw[hn];exact h⟩
     |panic v=>exact⟨n,by rw[hn];exact h⟩
 |cond c x y ihx ihy=>
  refine⟨fun t H r h=>?_,no fun _ _ _ _=>rfl⟩;simp only[Q5] at h⊢;cases hc:rho t c with
  |bool b=>
   rw[hc] at h;cases b with
   |true=>exact ihx.1 _ _ _ h
   |false=>exact ihy.1 _ _ _ h
  |_=>rw[hc] at h;cases h
 |block id b ih=>
  refine⟨fun t H r h=>?_,no fun _ _ _ _=>rfl⟩;simp only[Q5] at h⊢;cases hx:Q5 P pol (Qp P pol) Zz fn fr b t H with
  |none=>rw[hx] at h;cases h
  |some x=>
   rw[hx] at h;obtain⟨n,hn⟩:=ih.1 _ _ _ hx;exact⟨n,by rw[hn];exact h⟩
 |loop b ih=>
  refine⟨fun t H r h=>?_,no fun _ _ _ _=>rfl⟩;simp only[Q5] at h⊢;obtain⟨k,hk⟩:=Qfq.1 h;have:∀(k:Nat) t H r,Zw (fun t H=>match forget pol fn fr (Zn b) t H with
   |some (t,H)=>(match Zx b with
    |none=>[Q5 P pol (Qp P pol) Zz fn fr b t H]
    |some x=>(match Y5 (Qd H) (rho t x) with
     |some cs=>cs.map fun c=>Z5 P pol (Qp P pol) Zz fn fr b c.1 c.2 t H
     |none=>[none]))
   |none=>[none]) k t H=some r->∃n,∀m,n<=m->Zw (fun t H=>match forget pol fn fr (Zn b) t H with
   |some (t,H)=>(match Zx b with
    |none=>[Q5 P pol (Ye P pol m) (fun b=>Zw b m) fn fr b t H]
    |some x=>(match Y5 (Qd H) (rho t x) with
     |some cs=>cs.map fun c=>Z5 P pol (Ye P pol m) (fun b=>Zw b m) fn fr b c.1 c.2 t H
     |none=>[none]))
   |none=>[none]) k t H=some r:=by
   intro k
   induction k with
   |zero=>intro t H r h;cases h
   |succ k ihk=>
    intro t H r h;simp only[Zw] at h⊢;have one:∀(W:Out) (N:Nat->Out),(∀y,W=some y->∃n,∀m,n<=m->N m=some y)->after (Zw (fun t H=>match forget pol fn fr (Zn b) t H with
     |some (t,H)=>(match Zx b with
      |none=>[Q5 P pol (Qp P pol) Zz fn fr b t H]
      |some x=>(match Y5 (Qd H) (rho t x) with
       |some cs=>cs.map fun c=>Z5 P pol (Qp P pol) Zz fn fr b c.1 c.2 t H
       |none=>[none]))
     |none=>[none]) k) W=some r->∃n,∀m,n<=m->after (Zw (fun t H=>match forget pol fn fr (Zn b) t H with
     |some (t,H)=>(match Zx b with
      |none=>[Q5 P pol (Ye P pol m) (fun b=>Zw b m) fn fr b t H]
      |some x=>(match Y5 (Qd H) (rho t x) with
       |some cs=>cs.map fun c=>Z5 P pol (Ye P pol m) (fun b=>Zw b m) fn fr b c.1 c.2 t H
       |none=>[none]))
     |none=>[none]) k) (N m)=some r:=by
     intro W N hWN hW;cases W with
     |none=>cases hW
     |some y=>
      obtain⟨n,hn⟩:=hWN y rfl;obtain⟨e,t1,H1⟩:=y;cases e with
      |normal=>
       obtain⟨m,hm⟩:=ihk _ _ _ hW;refine⟨max n m,fun q hq=>?_⟩;rw[hn q (by omega)];exact hm q (by omega)
      |exit i=>exact⟨n,fun q hq=>by rw[hn q hq];exact hW⟩
      |ret=>exact⟨n,fun q hq=>by rw[hn q hq];exact hW⟩
      |panic v=>exact⟨n,fun q hq=>by rw[hn q hq];exact hW⟩
    cases hf:forget pol fn fr (Zn b) t H with
    |none=>rw[hf] at h;cases h
    |some x=>
     rw[hf] at h;simp only at h⊢;cases hd:Zx b with
     |none=>
      rw[hd] at h one;simp only[Zrw,Zsc,Q6n] at h⊢;exact one _ (fun m=>Q5 P pol (Ye P pol m) (fun b=>Zw b m) fn fr b x.1 x.2) (fun y hy=>by
       obtain⟨n,hn⟩:=ih.1 _ _ _ hy
       exact⟨n,fun m hm=>up b n m hm _ _ _ hn⟩) h
     |some z=>
      rw[hd] at h one;simp only at h⊢;cases hc:Y5 (Qd x.2) (rho x.1 z) with
      |none=>rw[hc] at h;cases h
      |some cs=>
       rw[hc] at h;simp only[List.map_map] at h⊢;obtain⟨hne,hall⟩:=Qmb.1 h;obtain⟨n,hn⟩:=most (l:=cs) (p:=fun c m=>after _ (Z5 P pol (Ye P pol m) (fun b=>Zw b m) fn fr b c.1 c.2 x.1 x.2)=some r) (fun c hc' =>by
        exact one _ (fun m=>Z5 P pol (Ye P pol m) (fun b=>Zw b m) fn fr b c.1 c.2 x.1 x.2) (fun y hy=>by
         obtain⟨n,hn⟩:=ih.2 _ _ _ _ _ hy
         exact⟨n,fun m hm=>upF b n m _ _ hm _ _ _ hn⟩) (hall _ (Zr3.2 ⟨c,hc',rfl⟩)))
       refine⟨n,fun m hm=>Qe5 (by simpa using hne) fun y hy=>?_⟩;obtain⟨c,hc',rfl⟩:=Zr3.1 hy;exact hn m hm c hc'
  obtain⟨n,hn⟩:=this k t H r hk;refine⟨max n k,?_⟩;exact Yt (MLe.refl _) k (max n k) (Zsb _ _) _ _ _ (hn (max n k) (Zsa _ _))
 |rangeFunc g ps a b iha ihb=>
  refine⟨?_,no fun _ _ _ _=>rfl⟩;intro t H r h;simp only[Q5] at h;split at h
  case h_2=>cases h
  rename_i f first cap hg
  split at h
  case h_2=>cases h
  rename_i hn;split at h
  case h_2=>cases h
  rename_i v H2 hc;obtain⟨n,hn'⟩:=Y6.1 hc;refine⟨n,?_⟩;simp only[Q5,hg,hn,hn'];exact h
 |_=>
  refine⟨?_,no fun _ _ _ _=>rfl⟩;intro t H r h;cases h<;>exact⟨0,rfl⟩
theorem Qmm(c:Code)(t:List V)(H:Heap)(r:Ex×List V×Heap)(h:Q5 P pol (Qp P pol) Zz fn fr c t H=some r):
 ∃n,Q5 P pol (Ye P pol n) (fun b=>Zw b n) fn fr c t H=some r:=(Q21 c).1 t H r h
theorem Zba{f:FuncId}{args:List V}{H:Heap}{r:Rt×Heap}(h:Qd6 P pol (Qp P pol) Zz f args H=some r):Qp P pol f args H=some r:=by
 have:∃n,Qd6 P pol (Ye P pol n) (fun b=>Zw b n) f args H=some r:=by
  simp only[Qd6] at h⊢;unfold Qbc at h⊢;cases hF:P.funcs[f]? with
  |none=>rw[hF] at h;cases h
  |some F=>
   rw[hF] at h;simp only at h⊢;cases hb:F.body with
   |none=>rw[hb] at h;cases h
   |some c=>
    rw[hb] at h;simp only at h⊢;cases hx:Q5 P pol (Qp P pol) Zz f H.length c (args++List.replicate (F.ntmps-args.length) .bad) (H++[[]]) with
    |none=>rw[hx] at h;cases h
    |some x=>
     rw[hx] at h;obtain⟨n,hn⟩:=Qmm c _ _ _ hx;exact⟨n,by rw[hn];exact h⟩
 obtain⟨n,hn⟩:=this;exact Y6.2 ⟨n+1,hn⟩
theorem Qzd{fo so:Nat}{args:List V}{H:Heap}{r:Rt×Heap}(h:Qa0 P pol (Qp P pol) Zz fo so args H=some r):Qp P pol none (.yield fo so::args) H=some r:=by
 have:∃n,Qa0 P pol (Ye P pol n) (fun b=>Zw b n) fo so args H=some r:=by
  unfold Qa0 at h;split at h
  case h_2=>cases h
  rename_i pend fL rid t0 hg;split at h
  case h_2=>cases h
  rename_i ps a b hl;split at h
  case isFalse=>cases h
  rename_i hlen;split at h
  case h_2=>cases h
  rename_i t1 H1 hx1;split at h
  case h_2=>cases h
  rename_i pend1 fL1 rid1 t01 hg1;split at h
  case h_2=>cases h
  rename_i e t2 H2 hx2;obtain⟨n1,h1⟩:=Qmm _ _ _ _ hx1;obtain⟨n2,h2⟩:=Qmm _ _ _ _ hx2;have m1:=Qc5 (J5 (P:=P) (pol:=pol) n1 (max n1 n2) (Zsa _ _)) (fun b b' hb=>Yt hb n1 (max n1 n2) (Zsa _ _)) _ _ _ _ h1;have m2:=Qc5 (J5 (P:=P) (pol:=pol) n2 (max n1 n2) (Zsb _ _)) (fun b b' hb=>Yt hb n2 (max n1 n2) (Zsb _ _)) _ _ _ _ h2;refine⟨max n1 n2,?_⟩;unfold Qa0;simp only[hg,hl,if_pos hlen,m1,hg1,m2];exact h
 obtain⟨n,hn⟩:=this;exact Y6.2 ⟨n+1,hn⟩
end
def bytesV(g:Get):V->Option (List UInt8)
 | .str s=>some s
 |x=>match Ql g 1 x with
  |some (cs,_)=>bytesOf cs
  |none=>none
abbrev Prim:=Nat->Option Nat->Get->List V->Option (V×Option (Nat×Nat×O))
def Xa:Prim:=fun _ _ g as=>match as with
 |[x,.int .u8 c]=>(match bytesV g x with
  |some l=>some (.int .i64 (Lib.countByte l c.toNat.toUInt8:Nat),none)
  |none=>none)
 |_=>none
def Kq:Prim:=fun _ _ g as=>match as with
 |[x,.int .u8 c]=>(match bytesV g x with
  |some l=>some (.int .i64 (Lib.indexByte l c.toNat.toUInt8),none)
  |none=>none)
 |_=>none
def Yl:Prim:=fun _ _ g as=>match as with
 |[x,y]=>(match bytesV g x,bytesV g y with
  |some l,some r=>some (.int .i64 (Lib.compareBytes l r),none)
  |_,_=>none)
 |_=>none
def Qdi:Prim:=fun fr dst g as=>match as,dst with
 |[.int .i64 n],some d=>(match g fr d with
  |none=>if 0<=n/\n<=281474976710656 then some (.mS fr d 0 n.toNat none 1,some (fr,d,.cells (List.replicate n.toNat .byte))) else none
  |some _=>none)
 |_,_=>none
section
variable {P : Program} {E : Env} {B : Nat} {F : Nat -> Nat -> Prop} {H : Heap}
structure Kl(P:Program)(f:FuncId)(e:Array Value->Sem Value):Prop where
 at_:∃fn,P.funcs[f]?=some fn/\(fn.name== "runtime.NumGoroutine")=false/\fn.body.isNone=true/\Extern.findNext fn=none/\Extern.find fn=some e
theorem Kl.run{f:FuncId}{e:Array Value->Sem Value}(h:Kl P f e){args:Array Value}{w w' :World}{v:Value}(hr:(e args).run P w= .ok v w'):
 (callFunc f args).run P w= .ok (.value v) w' :=by
 obtain⟨fn,h1,h2,h3,h4,h5⟩:=h.at_;rw[run_callFunc_extern h1 h2 h3 h4 h5,hr];rfl
theorem Kl.plain{f:FuncId}{e:Array Value->Sem Value}(h:Kl P f e)(S:Sim B F H E){cargs:List Value}{v:V}{c:Value}(hr:(e ⟨cargs⟩).run P E.w= .ok c E.w)(hv:Rel E v c):
 Invokes P f ⟨cargs⟩ E.w (Answer B F H E (.ret v) H):=
 .inl ⟨c,E.w,h.run hr,E,rfl,⟨c,rfl,hv⟩,S,Ext.refl _ _ _,Zrf _⟩
theorem Qro(S:Sim B F H E){esz n:Nat}{x:V}{cs:List V}{c:Value}(h:Ql (Qd H) esz x=some (cs,n))(hr:Rel E x c):
 ∃a cap vs,c= .slice a n cap/\Qe E cs vs/\vs.length=n*esz/\(vs=[]\/∃b off,a=some ⟨b,off,none⟩/\Qeq E.w b off vs):=by
 unfold Ql at h;split at h
 . cases h;simp only[Rel] at hr;subst hr;exact⟨none,0,[],rfl,.nil,by simp,.inl rfl⟩
 . split at h
   . rename_i hl;cases h;simp only[Rel] at hr;obtain⟨a,cap,vs,rfl,h1,_,h3,h4,_⟩:=hr;refine⟨some a,cap,vs,rfl,h4,by rw[<-h4.length];exact hl,?_⟩;rcases h3 with rfl|⟨h3,h5⟩
     . exact .inl rfl
     . obtain⟨b,off,sp⟩:=a;simp only at h3;subst h3;exact .inr ⟨b,off,rfl,h5.lies⟩
   . cases h
 . split at h
   . rename_i he;cases h;subst he;simp only[Rel] at hr;obtain⟨b,off,cap,vs,rfl,h1,h3,h4,h5,_⟩:=hr;exact⟨_,cap,vs,rfl,h4,h4.length.symm.trans h5,.inr ⟨b,off,rfl,h3.lies⟩⟩
   . cases h
 . rename_i f s o n' cap e;split at h
   . rename_i xs hg;split at h
     . rename_i hh;obtain⟨rfl,hle⟩:=hh;cases h;simp only[Rel] at hr;obtain⟨b,c',T,sz',hmu,rfl,h1,_,_,_⟩:=hr;obtain⟨b2,cc,T2,vs,rest,g1,_,_,_,g5,_,_,g8⟩:=S.lies hg;rw[hmu] at g1;cases g1;have hvl:((vs.drop o).take (n*e)).length=n*e:=by
        have:=g5.length;simp;omega
       exact⟨_,c',_,rfl,(g5.drop o).take _,hvl,.inr ⟨b,o,rfl,g8.from o _⟩⟩
     . cases h
   . cases h
 . cases h
theorem Qmx:∀{cs:List V} {l:List UInt8} {vs:List Value},bytesOf cs=some l->Qe E cs vs->∃xs:List Int,vs=xs.map (fun x=> .int .u8 x)/\Lib.bytesOf xs=l
 |[],l,vs,h,hr=>by
  cases h;rw[Qe.nil_iff] at hr;subst hr;exact⟨[],rfl,rfl⟩
 |c::cs,l,vs,h,hr=>by
  obtain⟨v,r,rfl,h1,h2⟩:=Qe.cons_iff.1 hr;unfold bytesOf at h;split at h
  . rename_i heq;cases heq
  . rename_i n r' heq;cases heq;cases hb:bytesOf cs with
    |none=>rw[hb] at h;cases h
    |some l' =>
     rw[hb] at h;cases h;obtain⟨xs,rfl,rfl⟩:=Qmx hb h2;simp only[Rel] at h1;subst h1;exact⟨n::xs,rfl,rfl⟩
  . cases h
theorem Qcu(S:Sim B F H E){x:V}{l:List UInt8}{c:Value}(h:bytesV (Qd H) x=some l)(hr:Rel E x c):∃s:ByteArray,s.data.toList=l/\(Extern.Bytes.bytesOf c).run P E.w= .ok s E.w:=by
 unfold bytesV at h;split at h
 . cases h;simp only[Rel] at hr;subst hr;exact⟨_,rfl,rfl⟩
 . split at h
   case h_2=>cases h
   rename_i cs n hs;obtain⟨a,cap,vs,rfl,h1,h2,h3⟩:=Qro S hs hr;obtain⟨xs,rfl,rfl⟩:=Qmx h h1;simp only[List.length_map,Zsd] at h2;subst h2;cases a with
   |none=>
    refine⟨.empty,?_,rfl⟩;rcases h3 with h3|⟨b,off,h3,_⟩
    . simp only[List.map_eq_nil_iff] at h3;subst h3;rfl
    . cases h3
   |some a=>
    have hc:∀j x,xs[j]?=some x->E.w.cell? (a.add j)=some (.int .u8 x):=by
     intro j x hj;rcases h3 with h3|⟨b,off,h3,h4⟩
     . simp only[List.map_eq_nil_iff] at h3;subst h3;cases hj
     . cases h3;have e:(⟨b,off,none⟩:Addr).add j=⟨b,off+j,none⟩:=by unfold Addr.add;split<;>simp_all
       rw[e];exact h4 j (.int .u8 x) (by simp[hj])
    refine⟨_,?_,Lib.run_loadBytesX (P:=P) E.w xs a .empty hc⟩;simp
theorem sound_count{f:FuncId}(hx:Kl P f Extern.BytealgCount.count)(S:Sim B F H E){fr:Nat}{dst:Option Nat}{args:List V}{cargs:List Value}{v:V}{x:Option (Nat×Nat×O)}
 (hr:Qe E args cargs)(h:Xa fr dst (Qd H) args=some (v,x)):Invokes P f ⟨cargs⟩ E.w (Answer B F H E (.ret v) (wr H x)):=by
 unfold Xa at h;split at h
 case h_2=>cases h
 rename_i y c;split at h
 case h_2=>cases h
 rename_i l hl;cases h;obtain⟨cy,r1,rfl,h1,h2⟩:=Qe.cons_iff.1 hr;obtain⟨cc,r2,rfl,h3,h4⟩:=Qe.cons_iff.1 h2;rw[Qe.nil_iff] at h4;subst h4;simp only[Rel] at h3;subst h3;obtain⟨s,rfl,hb⟩:=Qcu (P:=P) S hl h1;refine hx.plain S (c:= .int .i64 (Lib.countByte s.data.toList c.toNat.toUInt8:Nat)) ?_ (by simp[Rel]);rw[<-Lib.run_countString (P:=P) s c E.w];have hdef:∀b c,Extern.BytealgCount.count #[b,c]=(do
  let b<-Extern.Bytes.bytesOf b
  let c<-Extern.Bytes.asByte c
  pure (goInt (b.foldl (fun n x=>if x==c then n+1 else n) (0:Nat)))):=fun _ _=>rfl
 show Sem.run P (Extern.BytealgCount.count #[cy,.int .u8 c]) E.w=_;rw[hdef,hdef,Zuk,hb,Zuk];rfl
theorem sound_indexByte{f:FuncId}(hx:Kl P f Extern.BytealgIndexByte.indexByte)(S:Sim B F H E){fr:Nat}{dst:Option Nat}{args:List V}{cargs:List Value}{v:V}{x:Option (Nat×Nat×O)}
 (hr:Qe E args cargs)(h:Kq fr dst (Qd H) args=some (v,x)):Invokes P f ⟨cargs⟩ E.w (Answer B F H E (.ret v) (wr H x)):=by
 unfold Kq at h;split at h
 case h_2=>cases h
 rename_i y c;split at h
 case h_2=>cases h
 rename_i l hl;cases h;obtain⟨cy,r1,rfl,h1,h2⟩:=Qe.cons_iff.1 hr;obtain⟨cc,r2,rfl,h3,h4⟩:=Qe.cons_iff.1 h2;rw[Qe.nil_iff] at h4;subst h4;simp only[Rel] at h3;subst h3;obtain⟨s,rfl,hb⟩:=Qcu (P:=P) S hl h1;refine hx.plain S (c:= .int .i64 (Lib.indexByte s.data.toList c.toNat.toUInt8)) ?_ (by simp[Rel]);rw[<-Lib.run_indexByteString (P:=P) s c E.w];have hdef:∀b c,Extern.BytealgIndexByte.indexByte #[b,c]=(do
  let b<-Extern.Bytes.bytesOf b
  let c<-Extern.Bytes.asByte c
  match(List.range b.size).find? fun i=>b[i]! ==c with
  |some i=>pure (goInt i)
  |none=>pure (goInt (-1))):=fun _ _=>rfl
 show Sem.run P (Extern.BytealgIndexByte.indexByte #[cy,.int .u8 c]) E.w=_;rw[hdef,hdef,Zuk,hb,Zuk];rfl
theorem sound_compare{f:FuncId}(hx:Kl P f Extern.BytealgCompare.compare)(S:Sim B F H E){fr:Nat}{dst:Option Nat}{args:List V}{cargs:List Value}{v:V}{x:Option (Nat×Nat×O)}
 (hr:Qe E args cargs)(h:Yl fr dst (Qd H) args=some (v,x)):Invokes P f ⟨cargs⟩ E.w (Answer B F H E (.ret v) (wr H x)):=by
 unfold Yl at h;split at h
 case h_2=>cases h
 rename_i y z;split at h
 case h_2=>cases h
 rename_i l r hl hr';cases h;obtain⟨cy,r1,rfl,h1,h2⟩:=Qe.cons_iff.1 hr;obtain⟨cz,r2,rfl,h3,h4⟩:=Qe.cons_iff.1 h2;rw[Qe.nil_iff] at h4;subst h4;obtain⟨s,rfl,hb⟩:=Qcu (P:=P) S hl h1;obtain⟨s',rfl,hb'⟩:=Qcu (P:=P) S hr' h3;refine hx.plain S (c:= .int .i64 (Lib.compareBytes s.data.toList s'.data.toList)) ?_ (by simp[Rel]);rw[<-Lib.run_compareString (P:=P) s s' E.w];have hdef:∀a b,Extern.BytealgCompare.compare #[a,b]=(do pure (goInt (Extern.BytealgCompare.cmp (<-Extern.Bytes.bytesOf a) (<-Extern.Bytes.bytesOf b)))):=fun _ _=>rfl;show Sem.run P (Extern.BytealgCompare.compare #[cy,cz]) E.w=_;rw[hdef,hdef,Zuk,hb,Zuj,Zuk,hb',Zuk];rfl
theorem Qle:∀(n t:Nat) (acc:Array Value),(∀v∈acc.toList,∃m,v= .int .u8 m)->∀v∈(Extern.BytealgMakeNoZero.digits n t acc).toList,∃m,v= .int .u8 m
 |0,_,_,h=>h
 |n+1,t,acc,h=>by
  rw[Extern.BytealgMakeNoZero.digits];refine Qle n _ _ fun v hv=>?_;rw[Array.toList_push,Zr5,Zr0] at hv;rcases hv with hv|rfl
  . exact h v hv
  . exact⟨_,rfl⟩
theorem Zb8{w:World}{ps:Array TypeId}{t e:TypeId}(ht:P.underlying t=some (.slice e)){n:Nat}(hn:n<=281474976710656):
 ∃cs:Array Value,(Extern.BytealgMakeNoZero.makeNoZero ps #[t] #[.int .i64 n]).run P w= .ok (.slice (some ⟨w.heap.size,0,none⟩) n cs.size) (w.drew.drew.alloc (.cells cs e))/\n<=cs.size/\
  ∀v∈cs.toList,∃m,v= .int .u8 m:=by
 have hdef:Extern.BytealgMakeNoZero.makeNoZero ps #[t] #[.int .i64 n]=
  (do
    let .slice elem<-underlying t|stuck "bytealg.MakeNoZero: slice type expected"
    if(n:Int)<0||(n:Int)>2^48 then runtimePanic (.error "makeslice: len out of range")
    let cap<-choose (.appendCap (n:Int).toNat 0 elem)
    askRoom cap
    let bytes<-choose (.extern "internal/bytealg.MakeNoZero.bytes" 0)
    let a<-newRow elem (Extern.BytealgMakeNoZero.digits cap bytes #[])
    pure (.slice (some a) (n:Int).toNat cap)):=rfl
 refine⟨Extern.BytealgMakeNoZero.digits (grownCap w n 0 e) ((Question.extern "internal/bytealg.MakeNoZero.bytes" 0).cut (w.tape (w.drawn+1) (.extern "internal/bytealg.MakeNoZero.bytes" 0))) #[],?_,?_,?_⟩
 . rw[hdef];have h1:¬(n:Int)<0:=by omega
   have h2:¬(281474976710656:Int)<(n:Int):=by omega
   simp[run_underlying ht,h1,h2,Question.forced,newRow,Lib.size_digits,grownCap]
 . rw[Lib.size_digits];simpa using grownCap_ge w n 0 e
 . exact Qle _ _ _ (by simp)
theorem sound_make{f:FuncId}{ps:Array TypeId}{t e:TypeId}(hx:Kl P f (Extern.BytealgMakeNoZero.makeNoZero ps #[t]))(ht:P.underlying t=some (.slice e))(S:Sim B F H E){fr:Nat}(hlt:fr<H.length){dst:Option Nat}
 {args:List V}{cargs:List Value}{v:V}{x:Option (Nat×Nat×O)}
 (hr:Qe E args cargs)(h:Qdi fr dst (Qd H) args=some (v,x)):Invokes P f ⟨cargs⟩ E.w (Answer B F H E (.ret v) (wr H x)):=by
 unfold Qdi at h;split at h
 case h_2=>cases h
 rename_i n d;split at h
 case h_2=>cases h
 rename_i hn;split at h
 case isFalse=>cases h
 rename_i hle;cases h;obtain⟨cy,r1,rfl,h1,h2⟩:=Qe.cons_iff.1 hr;rw[Qe.nil_iff] at h2;subst h2;simp only[Rel] at h1;subst h1;obtain⟨k,rfl⟩:=Int.eq_ofNat_of_zero_le hle.1;have hk:k<=281474976710656:=by have:=hle.2;omega
 obtain⟨cs,hrun,hcs,hbytes⟩:=Zb8 (P:=P) (w:=E.w) (ps:=ps) ht hk;have hlen:cs.toList=cs.toList.take k++cs.toList.drop k:=(Zse _ _).symm;obtain⟨X,S'⟩:=S.newCells hlt hn (List.replicate k .byte) (cs.toList.take k) (cs.toList.drop k) e (E.w.drawn+1+1) (by
  have hl:(cs.toList.take k).length=k:=by simp;omega
  have:∀(l:List Value),(∀v∈l,∃n,v= .int .u8 n)->Qe E (List.replicate l.length .byte) l:=by
   intro l
   induction l with
   |nil=>intro _;exact .nil
   |cons a l ih=>intro hl;exact .cons (by simp only[Rel];exact hl a (by simp)) (ih fun v hv=>hl v (by simp[hv]))
  have:=this (cs.toList.take k) (fun v hv=>hbytes v (Zsf hv))
  rwa[hl] at this) (by simp[V.scalar])
 refine .inl ⟨_,_,hx.run hrun,E.newCells fr d (cs.toList.take k++cs.toList.drop k) e (E.w.drawn+1+1),?_,⟨_,rfl,?_⟩,S',X,by rw[wr_length];exact Zrf _⟩
 . rw[<-hlen];rfl
 . have hsh:((E.newCells fr d (cs.toList.take k++cs.toList.drop k) e (E.w.drawn+1+1)).w.heap)[E.w.heap.size]?=some (.cells ⟨cs.toList.take k++cs.toList.drop k⟩ e (0,0)):=by
    simp[Env.newCells,Env.push]
   simp only[Rel];refine⟨E.w.heap.size,cs.size,e,cs.size,by simp[Env.newCells,upd],rfl,hcs,(fun k h=>by cases h),?_,(by omega),(fun _=>by omega)⟩;simp only[World.shape?,hsh];rw[<-hlen]
end
end Go.AM
end
