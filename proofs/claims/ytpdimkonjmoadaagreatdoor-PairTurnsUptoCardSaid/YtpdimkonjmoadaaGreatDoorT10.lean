/- This file holds in one the texts An23, An24, An25, An26, An27, An28; each says at its head what it proves. -/
import Derived.Test.YtpdimkonjmoadaaGreatDoorT9
import Derived.Lib.BytesEntry
import Derived.Lib.MakeNoZero
import Derived.ProofKit
import Derived.OpenShut
set_option linter.unusedSimpArgs false
set_option linter.unusedVariables false
section
namespace Go.AM
def BLe(b b' :Kv):Prop:=∀t H r,b t H=some r->b' t H=some r
def CLe(C C' :Call):Prop:=∀f a H r,C f a H=some r->C' f a H=some r
inductive Qwz{α β:Type}(R:α->β->Prop):List α->List β->Prop where
 |nil:Qwz R [] []
 |cons {x y l m}:R x y->Qwz R l m->Qwz R (x::l) (y::m)
def OLe(x y:Out):Prop:=∀r,x=some r->y=some r
def MLe(b b' :Kc):Prop:=∀t H,Qwz OLe (b t H) (b' t H)
def LLe(L L' :Kc->Kv):Prop:=∀b b',MLe b b' ->BLe (L b) (L' b')
theorem OLe.refl(x:Out):OLe x x:=fun _ h=>h
theorem MLe.refl(b:Kc):MLe b b:=fun t H=>by
 induction b t H with
 |nil=>exact .nil
 |cons x l ih=>exact .cons (OLe.refl x) ih
theorem Q0n{l l' :List Out}(h:Qwz OLe l l'):∀y∈l',∃x∈l,OLe x y:=by
 induction h with
 |nil=>intro y hy;cases hy
 |cons h1 _ ih=>
  intro y hy;rcases Zpy.1 hy with rfl|hy
  . exact⟨_,Zpz,h1⟩
  . obtain⟨x,hx,hxy⟩:=ih y hy;exact⟨x,Zp0 _ hx,hxy⟩
theorem Qqr{l l' :List Out}(h:Qwz OLe l l'):OLe (Qel l) (Qel l'):=by
 intro r hr;obtain⟨hne,hall⟩:=Qmf.1 hr;refine Qey ?_ fun y hy=>?_
 . rintro rfl;cases h;exact hne rfl
 . obtain⟨x,hx,hxy⟩:=Q0n h y hy;exact hxy _ (hall x hx)
theorem Qqc{k k' :List V->Heap->Out}(hk:∀t H,OLe (k t H) (k' t H)){x y:Out}(h:OLe x y):OLe (after k x) (after k' y):=by
 intro r hr;unfold after at hr;split at hr
 . rename_i t H;rw[h _ rfl];exact hk t H r hr
 . rename_i hne;have hy:=h r hr;subst hr hy;unfold after;split
   . exact(hne _ _ (by assumption)).elim
   . rfl
theorem Qpr{f g:Out->Out}{l l' :List Out}(hf:∀x y,OLe x y->OLe (f x) (g y))(h:Qwz OLe l l'):Qwz OLe (l.map f) (l'.map g):=by
 induction h with
 |nil=>exact .nil
 |cons h1 _ ih=>exact .cons (hf _ _ h1) ih
theorem Qzl{α:Type}{f g:α->Out}{l:List α}(hf:∀x,OLe (f x) (g x)):Qwz OLe (l.map f) (l.map g):=by
 induction l with
 |nil=>exact .nil
 |cons x l ih=>exact .cons (hf x) ih
theorem most{α:Type}{l:List α}{p:α->Nat->Prop}(h:∀x∈l,∃n,∀m,n<=m->p x m):∃n,∀m,n<=m->∀x∈l,p x m:=by
 induction l with
 |nil=>exact⟨0,fun _ _ _ h=>by cases h⟩
 |cons a l ih=>
  obtain⟨n,hn⟩:=h a Zpz;obtain⟨k,hk⟩:=ih fun x hx=>h x (Zp0 _ hx);refine⟨max n k,fun m hm x hx=>?_⟩;rcases Zpy.1 hx with rfl|hx
  . exact hn m (by omega)
  . exact hk m (by omega) x hx
section
variable {P : Program} {pol : Pol} {C C' : Call} {L L' : Kc -> Kv} {fn fr : Nat}
theorem Qd3(hC:CLe C C'){dst:Option Nat}{f:FuncId}{args:List V}{H:Heap}{r:Rt×Heap}(h:callOp pol C fn fr dst f args H=some r):callOp pol C' fn fr dst f args H=some r:=by
 unfold callOp at h⊢;split
 . rename_i g hg;rw[hg] at h;exact h
 . rename_i hg;rw[hg] at h;simp only at h;split
   . rename_i hp;rw[if_pos hp] at h;split
     . rename_i ys hys;rw[hys] at h;simp only at h;cases hc:C f ys [] with
       |none=>rw[hc] at h;cases h
       |some x=>rw[hc] at h;rw[hC _ _ _ _ hc];exact h
     . rename_i hys;rw[hys] at h;exact h
   . rename_i hp;rw[if_neg hp] at h;by_cases hl:pol.lift fn f=true
     . rw[if_pos hl] at h⊢;cases hys:Qx (frz (fun _ _=>none) depth) args with
       |none=>rw[hys] at h;cases h
       |some ys=>
        rw[hys] at h;simp only at h⊢;cases hc:C f ys [] with
        |none=>rw[hc] at h;cases h
        |some x=>rw[hc] at h;rw[hC _ _ _ _ hc];exact h
     . rw[if_neg hl] at h⊢;by_cases hk:pol.look fn f=true
       . rw[if_pos hk] at h⊢;cases hys:Qx (frz (Qd H) depth) args with
         |none=>rw[hys] at h;cases h
         |some ys=>
          rw[hys] at h;simp only at h⊢;cases hc:C f ys [] with
          |none=>rw[hc] at h;cases h
          |some x=>rw[hc] at h;rw[hC _ _ _ _ hc];exact h
       . rw[if_neg hk] at h⊢;cases ht:Qa0 pol fn f args with
         |none=>rw[ht] at h;cases h
         |some ys=>
          rw[ht] at h;simp only at h⊢;refine Q0y fr (fun H r h=>?_) h;have e:=Qj1 h;rw[e] at h;rw[hC _ _ _ _ e];exact h
theorem Xl(hC:CLe C C'){t:List V}{H:Heap}{o:Oper}{r:Ex×List V×Heap}(h:Q1 P pol C fn fr t H o=some r):Q1 P pol C' fn fr t H o=some r:=by
 unfold Q1 at h⊢;cases hev:Zm P (pol.mt fn) fr (Qd H) (rho t) o with
 |none=>rw[hev] at h;cases h
 |some st=>
  rw[hev] at h;cases st with
  |val v w=>exact h
  |panic v=>exact h
  |call f args=>
   simp only at h⊢;cases hc:callOp pol C fn fr o.dst f args H with
   |none=>rw[hc] at h;cases h
   |some x=>rw[hc] at h;rw[Qd3 hC hc];exact h
  |round f s args=>
   simp only at h⊢;cases hc:C none (.yield f s::args) H with
   |none=>rw[hc] at h;cases h
   |some x=>rw[hc] at h;rw[hC _ _ _ _ hc];exact h
theorem Yf(hC:CLe C C'){ops:Array Oper}:∀(l:List Oper) (t:List V) (H:Heap) (r:Ex×List V×Heap),Zf P pol C fn fr ops l t H=some r->Zf P pol C' fn fr ops l t H=some r
 |[],_,_,_,h=>h
 |o::l,t,H,r,h=>by
  simp only[Zf] at h⊢;split
  . rename_i hw;rw[hw] at h;cases h
  . rename_i hw;rw[hw] at h;exact Yf hC l _ _ _ h
  . rename_i hw;rw[hw] at h;simp only at h;cases hop:Q1 P pol C fn fr t H o with
    |none=>rw[hop] at h;cases h
    |some x=>
     rw[hop] at h;rw[Xl hC hop];obtain⟨e,t1,H1⟩:=x;cases e with
     |normal=>exact Yf hC l _ _ _ h
     |exit i=>exact h
     |ret=>exact h
     |panic v=>exact h
theorem Km(hC:CLe C C'){ops:Array Oper}:∀(l:List Oper) (t:List V) (H:Heap) (r:List V×Heap×List FP),Q4 P pol C fn fr ops l t H=some r->Q4 P pol C' fn fr ops l t H=some r
 |[],_,_,_,h=>h
 |o::l,t,H,r,h=>by
  simp only[Q4] at h⊢;split
  . rename_i hw;rw[hw] at h;cases h
  . rename_i hw;rw[hw] at h;simp only at h;cases hr:Q4 P pol C fn fr ops l (Qs t o.dst nov) H with
    |none=>rw[hr] at h;cases h
    |some x=>rw[hr] at h;rw[Km hC l _ _ _ hr];exact h
  . rename_i hw;rw[hw] at h;simp only at h;cases hop:Q1 P pol C fn fr t H o with
    |none=>rw[hop] at h;cases h
    |some x=>
     rw[hop] at h;rw[Xl hC hop];obtain⟨e,t1,H1⟩:=x;cases e with
     |normal=>
      simp only at h⊢;cases hr:Q4 P pol C fn fr ops l t1 H1 with
      |none=>rw[hr] at h;cases h
      |some y=>rw[hr] at h;rw[Km hC l _ _ _ hr];exact h
     |exit i=>exact h
     |ret=>exact h
     |panic v=>exact h
theorem Y4(hC:CLe C C')(hL:LLe L L'):∀c:Code,BLe (Q6 P pol C L fn fr c) (Q6 P pol C' L' fn fr c)/\∀v w,BLe (Z7 P pol C L fn fr c v w) (Z7 P pol C' L' fn fr c v w):=by
 intro c;have no:∀{c:Code},(∀v w t H,Z7 P pol C L fn fr c v w t H=none)->∀v w,BLe (Z7 P pol C L fn fr c v w) (Z7 P pol C' L' fn fr c v w):=fun h v w t H r hr=>by rw[h] at hr;cases hr
 induction c with
 |skip=>exact⟨fun _ _ _ h=>h,no fun _ _ _ _=>rfl⟩
 |region id ops draw=>
  refine⟨fun t H r h=>?_,fun v w t H r h=>?_⟩
  . cases draw with
    |true=>
     simp only[Q6,if_true] at h⊢;cases hr:Q4 P pol C fn fr ops ops.toList t H with
     |none=>rw[hr] at h;cases h
     |some x=>rw[hr] at h;rw[Km hC _ _ _ _ hr];exact h
    |false=>
     simp only[Q6,Zpo,if_false] at h⊢;exact Yf hC _ _ _ _ h
  . simp only[Z7] at h⊢;split
    . rename_i o l ho;rw[ho] at h;exact Yf hC _ _ _ _ h
    . rename_i ho;rw[ho] at h;cases h
 |seq a b iha ihb=>
  refine⟨fun t H r h=>?_,fun v w t H r h=>?_⟩
  . simp only[Q6] at h⊢;cases hx:Q6 P pol C L fn fr a t H with
    |none=>rw[hx] at h;cases h
    |some x=>
     rw[hx] at h;rw[iha.1 _ _ _ hx];obtain⟨e,t1,H1⟩:=x;cases e with
     |normal=>exact ihb.1 _ _ _ h
     |exit i=>exact h
     |ret=>exact h
     |panic v=>exact h
  . simp only[Z7] at h⊢;cases hx:Z7 P pol C L fn fr a v w t H with
    |none=>rw[hx] at h;cases h
    |some x=>
     rw[hx] at h;rw[iha.2 v w _ _ _ hx];obtain⟨e,t1,H1⟩:=x;cases e with
     |normal=>exact ihb.1 _ _ _ h
     |exit i=>exact h
     |ret=>exact h
     |panic v=>exact h
 |cond c x y ihx ihy=>
  refine⟨fun t H r h=>?_,no fun _ _ _ _=>rfl⟩;simp only[Q6] at h⊢;cases hc:rho t c with
  |bool b=>
   rw[hc] at h;cases b with
   |true=>exact ihx.1 _ _ _ h
   |false=>exact ihy.1 _ _ _ h
  |_=>rw[hc] at h;cases h
 |block id b ih=>
  refine⟨fun t H r h=>?_,no fun _ _ _ _=>rfl⟩;simp only[Q6] at h⊢;cases hx:Q6 P pol C L fn fr b t H with
  |none=>rw[hx] at h;cases h
  |some x=>rw[hx] at h;rw[ih.1 _ _ _ hx];exact h
 |loop b ih=>
  refine⟨fun t H r h=>?_,no fun _ _ _ _=>rfl⟩;simp only[Q6] at h⊢;refine hL _ _ ?_ _ _ _ h;intro t H;simp only;split
  . split
    . exact .cons (fun r h=>ih.1 _ _ _ h) .nil
    . split
      . exact Qzl fun c r h=>ih.2 c.1 c.2 _ _ _ h
      . exact .cons (OLe.refl _) .nil
  . exact .cons (OLe.refl _) .nil
 |rangeFunc g ps a b iha ihb=>
  refine⟨fun t H r h=>?_,no fun _ _ _ _=>rfl⟩;simp only[Q6] at h⊢;split at h
  case h_2=>cases h
  rename_i f first cap hg
  split at h
  case h_2=>cases h
  rename_i hn;split at h
  case h_2=>cases h
  rename_i v H2 hc;rw[hC _ _ _ _ hc];exact h
 |_=>exact⟨fun _ _ _ h=>h,no fun _ _ _ _=>rfl⟩
theorem Qcv(hC:CLe C C')(hL:LLe L L')(c:Code):BLe (Q6 P pol C L fn fr c) (Q6 P pol C' L' fn fr c):=(Y4 hC hL c).1
theorem Q05(hC:CLe C C')(hL:LLe L L'):∀f args H r,Qbi P pol C L f args H=some r->Qbi P pol C' L' f args H=some r:=by
 intro f args H r h;unfold Qbi at h⊢;cases hF:P.funcs[f]? with
 |none=>rw[hF] at h;cases h
 |some F=>
  rw[hF] at h;simp only at h⊢;cases hb:F.body with
  |none=>rw[hb] at h;cases h
  |some c=>
   rw[hb] at h;simp only at h⊢;cases hx:Q6 P pol C L f H.length c (args++List.replicate (F.ntmps-args.length) .bad) (H++[[]]) with
   |none=>rw[hx] at h;cases h
   |some x=>rw[hx] at h;rw[Qcv hC hL c _ _ _ hx];exact h
theorem Q1n(hC:CLe C C')(hL:LLe L L'):∀fo so args H r,Qba P pol C L fo so args H=some r->Qba P pol C' L' fo so args H=some r:=by
 intro fo so args H r h;unfold Qba at h⊢;split at h
 case h_2=>cases h
 rename_i pend fL rid t0 hg;split at h
 case h_2=>cases h
 rename_i ps a b hl;split at h
 case isFalse=>cases h
 rename_i hlen;rw[if_pos hlen];split at h
 case h_2=>cases h
 rename_i t1 H1 hx1;rw[Qcv hC hL _ _ _ _ hx1];simp only;split at h
 case h_2=>cases h
 rename_i pend1 fL1 rid1 t01 hg1;split at h
 case h_2=>cases h
 rename_i e t2 H2 hx2;rw[Qcv hC hL _ _ _ _ hx2];exact h
theorem Qj7(hC:CLe C C')(hL:LLe L L'):CLe (Qd4 P pol C L) (Qd4 P pol C' L'):=by
 intro f args H r h;cases f with
 |some f=>exact Q05 hC hL f args H r h
 |none=>
  simp only[Qd4] at h⊢;split at h
  . exact Q1n hC hL _ _ _ _ _ h
  . cases h
theorem Yk{b b' :Kc}(hb:MLe b b'):∀(n m:Nat),n<=m->BLe (Zu b n) (Zu b' m)
 |0,_,_=>fun _ _ _ h=>by cases h
 |n+1,0,hm=>by omega
 |n+1,m+1,hm=>by
  intro t H r h;simp only[Zu] at h⊢;exact Qqr (Qpr (fun x y hxy=>Qqc (fun t H r h=>Yk hb n m (by omega) t H r h) hxy) (hb t H)) r h
theorem Js:∀(n m:Nat),n<=m->CLe (J0 P pol n) (J0 P pol m)
 |0,_,_=>fun _ _ _ _ h=>by cases h
 |n+1,0,hm=>by omega
 |n+1,m+1,hm=>Qj7 (Js n m (by omega)) fun b b' hb=>Yk hb n m (by omega)
end
open Classical in
noncomputable def lim{α:Type}(f:Nat->Option α):Option α:=if h:∃r n,f n=some r then some h.choose else none
theorem Qxx{α:Type}{f:Nat->Option α}{r:α}(hm:∀n m a,n<=m->f n=some a->f m=some a):lim f=some r↔∃n,f n=some r:=by
 unfold lim;constructor
 . intro h;split at h
   . rename_i hx;cases h;exact hx.choose_spec
   . cases h
 . rintro⟨n,hn⟩;have hx:∃r n,f n=some r:=⟨r,n,hn⟩;rw[dif_pos hx];obtain⟨k,hk⟩:=hx.choose_spec;have h1:=hm _ (max n k) _ (Zp1 _ _) hn;have h2:=hm _ (max n k) _ (Zp2 _ _) hk;rw[h1] at h2;exact congrArg some (Option.some.inj h2).symm
noncomputable def Z1(b:Kc):Kv:=fun t H=>lim fun n=>Zu b n t H
noncomputable def Qq(P:Program)(pol:Pol):Call:=fun f args H=>lim fun n=>J0 P pol n f args H
theorem Qfv{b:Kc}{t:List V}{H:Heap}{r:Ex×List V×Heap}:Z1 b t H=some r↔∃n,Zu b n t H=some r:=
 Qxx fun n m _ hn h=>Yk (MLe.refl b) n m hn _ _ _ h
theorem Qzr(b:Kc)(t:List V)(H:Heap):Z1 b t H=Qel ((b t H).map (after (Z1 b))):=by
 have hiff:∀r,Z1 b t H=some r↔Qel ((b t H).map (after (Z1 b)))=some r:=by
  intro r;rw[Qfv];constructor
  . rintro⟨n,hn⟩;cases n with
    |zero=>cases hn
    |succ n=>
     simp only[Zu] at hn;exact Qqr (Qpr (fun x y hxy=>Qqc (fun t H r h=>Qfv.2 ⟨n,h⟩) hxy) (MLe.refl b t H)) r hn
  . intro h;obtain⟨hne,hall⟩:=Qmf.1 h;have:∀x∈b t H,∃n,∀m,n<=m->after (Zu b m) x=some r:=by
     intro x hx;have h1:=hall _ (Zp3.2 ⟨x,hx,rfl⟩);unfold after at h1;split at h1
     . rename_i t1 H1;obtain⟨n,hn⟩:=Qfv.1 h1;exact⟨n,fun m hm=>Yk (MLe.refl b) n m hm _ _ _ hn⟩
     . rename_i hne1;refine⟨0,fun m _=>?_⟩;unfold after;split
       . exact absurd rfl (hne1 _ _)
       . exact h1
    obtain⟨n,hn⟩:=most this;refine⟨n+1,?_⟩;simp only[Zu];refine Qey (by simpa using hne) fun y hy=>?_;obtain⟨x,hx,rfl⟩:=Zp3.1 hy;exact hn n (Zpp n) x hx
 cases h1:Z1 b t H with
 |some r=>exact((hiff r).1 h1).symm
 |none=>
  cases h2:Qel ((b t H).map (after (Z1 b))) with
  |none=>rfl
  |some r=>rw[(hiff r).2 h2] at h1;cases h1
theorem Q56{b:Kc}{t:List V}{H:Heap}{x:Out}(h:b t H=[x]):Z1 b t H=after (Z1 b) x:=by rw[Qzr,h];rfl
section
variable {P : Program} {pol : Pol} {fn fr : Nat}
theorem Y9{f:Option FuncId}{args:List V}{H:Heap}{r:Rt×Heap}:Qq P pol f args H=some r↔∃n,J0 P pol n f args H=some r:=
 Qxx fun n m _ hn h=>Js n m hn _ _ _ _ h
theorem Qd8(ok:Okay P pol):Jc P (Qq P pol):=by
 refine⟨fun f args H r H' h=>?_,fun fo so rest H r H' h=>?_⟩
 . obtain⟨n,hn⟩:=Y9.1 h;exact(Qao ok n).1 f args H r H' hn
 . obtain⟨n,hn⟩:=Y9.1 h;exact(Qao ok n).2 fo so rest H r H' hn
theorem Qzn{dst:Option Nat}{f:FuncId}{args:List V}{H:Heap}{r:Rt×Heap}(h:callOp pol (Qq P pol) fn fr dst f args H=some r):∃n,callOp pol (J0 P pol n) fn fr dst f args H=some r:=by
 unfold callOp at h;split at h
 . rename_i g hg;exact⟨0,by simp only[callOp,hg];exact h⟩
 . rename_i hg;split at h
   . rename_i hp;split at h
     . rename_i ys hys;cases hc:Qq P pol f ys [] with
       |none=>rw[hc] at h;cases h
       |some x=>
        obtain⟨n,hn⟩:=Y9.1 hc;rw[hc] at h;exact⟨n,by simp only[callOp,hg,hp,if_true,hys,hn];exact h⟩
     . cases h
   . rename_i hp;by_cases hl:pol.lift fn f=true
     . rw[if_pos hl] at h;cases hys:Qx (frz (fun _ _=>none) depth) args with
       |none=>rw[hys] at h;cases h
       |some ys=>
        rw[hys] at h;simp only at h;cases hc:Qq P pol f ys [] with
        |none=>rw[hc] at h;cases h
        |some x=>
         obtain⟨n,hn⟩:=Y9.1 hc;rw[hc] at h;exact⟨n,by simp only[callOp,hg,hp,Zpo,if_false,hl,if_true,hys,hn];exact h⟩
     . rw[if_neg hl] at h;by_cases hk:pol.look fn f=true
       . rw[if_pos hk] at h;cases hys:Qx (frz (Qd H) depth) args with
         |none=>rw[hys] at h;cases h
         |some ys=>
          rw[hys] at h;simp only at h;cases hc:Qq P pol f ys [] with
          |none=>rw[hc] at h;cases h
          |some x=>
           obtain⟨n,hn⟩:=Y9.1 hc;rw[hc] at h;exact⟨n,by simp only[callOp,hg,hp,Zpo,if_false,hl,hk,if_true,hys,hn];exact h⟩
       . rw[if_neg hk] at h;cases ht:Qa0 pol fn f args with
         |none=>rw[ht] at h;cases h
         |some ys=>
          rw[ht] at h;simp only at h;have one:∀H r,Qge (pol.peek fn f) H (Qq P pol f ys H)=some r->∃n,∀m,n<=m->Qge (pol.peek fn f) H (J0 P pol m f ys H)=some r:=fun H r h=>by have e:=Qj1 h;rw[e] at h;obtain⟨n,hn⟩:=Y9.1 e;exact⟨n,fun m hm=>by rw[Js n m hm _ _ _ _ hn];exact h⟩
          have all:∃n,Qe6 fr (pol.side fn f) (pol.news fn) (fun H=>Qge (pol.peek fn f) H (J0 P pol n f ys H)) H=some r:=by
           cases hs:pol.side fn f with
           |none=>
            rw[hs] at h;obtain⟨n,hn⟩:=one _ _ h;exact⟨n,hn n (Zpp _)⟩
           |some y=>
            obtain⟨ks,x⟩:=y;rw[hs] at h;obtain⟨v,h1,h2,h3,h4⟩:=Qiq fr h;obtain⟨q,H1⟩:=r;simp only at h1 h3 h4;subst h1;obtain⟨n,hn⟩:=one _ _ h2;cases x with
            |none=>exact⟨n,Qe9 fr (hn n (Zpp _)) h3 (fun d hd=>by cases hd)⟩
            |some d=>
             obtain⟨g1,g2⟩:=Qmm fr h4;cases hg0:Qd H fr d with
             |some o=>
              refine⟨n,Qe9 fr (hn n (Zpp _)) h3 (fun d' hd=>?_)⟩;cases hd;exact⟨g1,fun cs h8=>by rw[hg0] at h8;cases h8⟩
             |none=>
              cases hc0:pol.news fn d with
              |none=>
               refine⟨n,Qe9 fr (hn n (Zpp _)) h3 (fun d' hd=>?_)⟩;cases hd;exact⟨g1,fun cs _ h8=>by rw[hc0] at h8;cases h8⟩
              |some cs=>
               obtain⟨m,hm⟩:=one _ _ (g2 cs hg0 hc0);refine⟨max n m,Qe9 fr (hn _ (Zp1 _ _)) h3 (fun d' hd=>?_)⟩;cases hd;refine⟨g1,fun cs' _ h8=>?_⟩;rw[hc0] at h8;cases h8;exact hm _ (Zp2 _ _)
          obtain⟨n,hn⟩:=all;exact⟨n,by simp only[callOp,hg,hp,Zpo,if_false,hl,hk,ht];exact hn⟩
theorem Qqp{t:List V}{H:Heap}{o:Oper}{r:Ex×List V×Heap}(h:Q1 P pol (Qq P pol) fn fr t H o=some r):∃n,Q1 P pol (J0 P pol n) fn fr t H o=some r:=by
 unfold Q1 at h;cases hev:Zm P (pol.mt fn) fr (Qd H) (rho t) o with
 |none=>rw[hev] at h;cases h
 |some st=>
  rw[hev] at h;cases st with
  |val v w=>exact⟨0,by simp only[Q1,hev];exact h⟩
  |panic v=>exact⟨0,by simp only[Q1,hev];exact h⟩
  |call f args=>
   simp only at h;cases hc:callOp pol (Qq P pol) fn fr o.dst f args H with
   |none=>rw[hc] at h;cases h
   |some x=>
    obtain⟨n,hn⟩:=Qzn hc;rw[hc] at h;exact⟨n,by simp only[Q1,hev,hn];exact h⟩
  |round f s args=>
   simp only at h;cases hc:Qq P pol none (.yield f s::args) H with
   |none=>rw[hc] at h;cases h
   |some x=>
    obtain⟨n,hn⟩:=Y9.1 hc;rw[hc] at h;exact⟨n,by simp only[Q1,hev,hn];exact h⟩
theorem Qdx{ops:Array Oper}:∀(l:List Oper) (t:List V) (H:Heap) (r:Ex×List V×Heap),Zf P pol (Qq P pol) fn fr ops l t H=some r->∃n,Zf P pol (J0 P pol n) fn fr ops l t H=some r
 |[],_,_,_,h=>⟨0,h⟩
 |o::l,t,H,r,h=>by
  simp only[Zf] at h;split at h
  . cases h
  . rename_i hw;obtain⟨n,hn⟩:=Qdx l _ _ _ h;exact⟨n,by simp only[Zf,hw];exact hn⟩
  . rename_i hw;cases hop:Q1 P pol (Qq P pol) fn fr t H o with
    |none=>rw[hop] at h;cases h
    |some x=>
     rw[hop] at h;obtain⟨n,hn⟩:=Qqp hop;obtain⟨e,t1,H1⟩:=x;cases e with
     |normal=>
      simp only at h;obtain⟨m,hm⟩:=Qdx l _ _ _ h;refine⟨max n m,?_⟩;simp only[Zf,hw];rw[Xl (Js n (max n m) (Zp1 _ _)) hn];exact Yf (Js m (max n m) (Zp2 _ _)) l _ _ _ hm
     |exit i=>exact⟨n,by simp only[Zf,hw,hn];exact h⟩
     |ret=>exact⟨n,by simp only[Zf,hw,hn];exact h⟩
     |panic v=>exact⟨n,by simp only[Zf,hw,hn];exact h⟩
theorem Qfp{ops:Array Oper}:∀(l:List Oper) (t:List V) (H:Heap) (r:List V×Heap×List FP),Q4 P pol (Qq P pol) fn fr ops l t H=some r->∃n,Q4 P pol (J0 P pol n) fn fr ops l t H=some r
 |[],_,_,_,h=>⟨0,h⟩
 |o::l,t,H,r,h=>by
  simp only[Q4] at h;split at h
  . cases h
  . rename_i hw;cases hr:Q4 P pol (Qq P pol) fn fr ops l (Qs t o.dst nov) H with
    |none=>rw[hr] at h;cases h
    |some x=>
     rw[hr] at h;obtain⟨n,hn⟩:=Qfp l _ _ _ hr;exact⟨n,by simp only[Q4,hw,hn];exact h⟩
  . rename_i hw;cases hop:Q1 P pol (Qq P pol) fn fr t H o with
    |none=>rw[hop] at h;cases h
    |some x=>
     rw[hop] at h;obtain⟨n,hn⟩:=Qqp hop;obtain⟨e,t1,H1⟩:=x;cases e with
     |normal=>
      simp only at h;cases hr:Q4 P pol (Qq P pol) fn fr ops l t1 H1 with
      |none=>rw[hr] at h;cases h
      |some y=>
       rw[hr] at h;obtain⟨m,hm⟩:=Qfp l _ _ _ hr;refine⟨max n m,?_⟩;simp only[Q4,hw];rw[Xl (Js n (max n m) (Zp1 _ _)) hn];simp only;rw[Km (Js m (max n m) (Zp2 _ _)) l _ _ _ hm];exact h
     |exit i=>cases h
     |ret=>cases h
     |panic v=>cases h
theorem Q2n:∀(c:Code),(∀(t:List V) (H:Heap) (r:Ex×List V×Heap),Q6 P pol (Qq P pol) Z1 fn fr c t H=some r->
 ∃n,Q6 P pol (J0 P pol n) (fun b=>Zu b n) fn fr c t H=some r)/\
 ∀v w (t:List V) (H:Heap) (r:Ex×List V×Heap),Z7 P pol (Qq P pol) Z1 fn fr c v w t H=some r->∃n,Z7 P pol (J0 P pol n) (fun b=>Zu b n) fn fr c v w t H=some r:=by
 have up:∀(c:Code) (n m:Nat),n<=m->BLe (Q6 P pol (J0 P pol n) (fun b=>Zu b n) fn fr c) (Q6 P pol (J0 P pol m) (fun b=>Zu b m) fn fr c):=
  fun c n m hn=>Qcv (Js n m hn) (fun b b' hb=>Yk hb n m hn) c
 have upF:∀(c:Code) (n m:Nat) v w,n<=m->BLe (Z7 P pol (J0 P pol n) (fun b=>Zu b n) fn fr c v w) (Z7 P pol (J0 P pol m) (fun b=>Zu b m) fn fr c v w):=
  fun c n m v w hn=>(Y4 (Js n m hn) (fun b b' hb=>Yk hb n m hn) c).2 v w
 have no:∀{c:Code},(∀v w t H,Z7 P pol (Qq P pol) Z1 fn fr c v w t H=none)->∀v w (t:List V) (H:Heap) (r:Ex×List V×Heap),Z7 P pol (Qq P pol) Z1 fn fr c v w t H=some r->
  ∃n,Z7 P pol (J0 P pol n) (fun b=>Zu b n) fn fr c v w t H=some r:=fun h v w t H r hr=>by rw[h] at hr;cases hr
 intro c
 induction c with
 |skip=>exact⟨fun _ _ _ h=>⟨0,h⟩,no fun _ _ _ _=>rfl⟩
 |region id ops draw=>
  refine⟨fun t H r h=>?_,fun v w t H r h=>?_⟩
  . cases draw with
    |true=>
     simp only[Q6,if_true] at h⊢;cases hr:Q4 P pol (Qq P pol) fn fr ops ops.toList t H with
     |none=>rw[hr] at h;cases h
     |some x=>
      rw[hr] at h;obtain⟨n,hn⟩:=Qfp _ _ _ _ hr;exact⟨n,by rw[hn];exact h⟩
    |false=>
     simp only[Q6,Zpo,if_false] at h⊢;exact Qdx _ _ _ _ h
  . simp only[Z7] at h⊢;cases ho:ops.toList with
    |nil=>rw[ho] at h;cases h
    |cons o l=>rw[ho] at h;exact Qdx _ _ _ _ h
 |seq a b iha ihb=>
  refine⟨fun t H r h=>?_,fun v w t H r h=>?_⟩
  . simp only[Q6] at h⊢;cases hx:Q6 P pol (Qq P pol) Z1 fn fr a t H with
    |none=>rw[hx] at h;cases h
    |some x=>
     rw[hx] at h;obtain⟨n,hn⟩:=iha.1 _ _ _ hx;obtain⟨e,t1,H1⟩:=x;cases e with
     |normal=>
      obtain⟨m,hm⟩:=ihb.1 _ _ _ h;refine⟨max n m,?_⟩;rw[up a n (max n m) (Zp1 _ _) _ _ _ hn];exact up b m (max n m) (Zp2 _ _) _ _ _ hm
     |exit i=>exact⟨n,by rw[hn];exact h⟩
     |ret=>exact⟨n,by rw[hn];exact h⟩
     |panic v=>exact⟨n,by rw[hn];exact h⟩
  . simp only[Z7] at h⊢;cases hx:Z7 P pol (Qq P pol) Z1 fn fr a v w t H with
    |none=>rw[hx] at h;cases h
    |some x=>
     rw[hx] at h;obtain⟨n,hn⟩:=iha.2 v w _ _ _ hx;obtain⟨e,t1,H1⟩:=x;cases e with
     |normal=>
      obtain⟨m,hm⟩:=ihb.1 _ _ _ h;refine⟨max n m,?_⟩;rw[upF a n (max n m) v w (Zp1 _ _) _ _ _ hn];exact up b m (max n m) (Zp2 _ _) _ _ _ hm
     |exit i=>exact⟨n,by rw[hn];exact h⟩
     |ret=>exact⟨n,by rw[hn];exact h⟩
     |panic v=>exact⟨n,by rw[hn];exact h⟩
 |cond c x y ihx ihy=>
  refine⟨fun t H r h=>?_,no fun _ _ _ _=>rfl⟩;simp only[Q6] at h⊢;cases hc:rho t c with
  |bool b=>
   rw[hc] at h;cases b with
   |true=>exact ihx.1 _ _ _ h
   |false=>exact ihy.1 _ _ _ h
  |_=>rw[hc] at h;cases h
 |block id b ih=>
  refine⟨fun t H r h=>?_,no fun _ _ _ _=>rfl⟩;simp only[Q6] at h⊢;cases hx:Q6 P pol (Qq P pol) Z1 fn fr b t H with
  |none=>rw[hx] at h;cases h
  |some x=>
   rw[hx] at h;obtain⟨n,hn⟩:=ih.1 _ _ _ hx;exact⟨n,by rw[hn];exact h⟩
 |loop b ih=>
  refine⟨fun t H r h=>?_,no fun _ _ _ _=>rfl⟩;simp only[Q6] at h⊢;obtain⟨k,hk⟩:=Qfv.1 h;have:∀(k:Nat) t H r,Zu (fun t H=>match forget pol fn fr (Zn b) t H with
   |some (t,H)=>(match Zt b with
    |none=>[Q6 P pol (Qq P pol) Z1 fn fr b t H]
    |some x=>(match Y3 (Qd H) (rho t x) with
     |some cs=>cs.map fun c=>Z7 P pol (Qq P pol) Z1 fn fr b c.1 c.2 t H
     |none=>[none]))
   |none=>[none]) k t H=some r->∃n,∀m,n<=m->Zu (fun t H=>match forget pol fn fr (Zn b) t H with
   |some (t,H)=>(match Zt b with
    |none=>[Q6 P pol (J0 P pol m) (fun b=>Zu b m) fn fr b t H]
    |some x=>(match Y3 (Qd H) (rho t x) with
     |some cs=>cs.map fun c=>Z7 P pol (J0 P pol m) (fun b=>Zu b m) fn fr b c.1 c.2 t H
     |none=>[none]))
   |none=>[none]) k t H=some r:=by
   intro k
   induction k with
   |zero=>intro t H r h;cases h
   |succ k ihk=>
    intro t H r h;simp only[Zu] at h⊢;have one:∀(W:Out) (N:Nat->Out),(∀y,W=some y->∃n,∀m,n<=m->N m=some y)->after (Zu (fun t H=>match forget pol fn fr (Zn b) t H with
     |some (t,H)=>(match Zt b with
      |none=>[Q6 P pol (Qq P pol) Z1 fn fr b t H]
      |some x=>(match Y3 (Qd H) (rho t x) with
       |some cs=>cs.map fun c=>Z7 P pol (Qq P pol) Z1 fn fr b c.1 c.2 t H
       |none=>[none]))
     |none=>[none]) k) W=some r->∃n,∀m,n<=m->after (Zu (fun t H=>match forget pol fn fr (Zn b) t H with
     |some (t,H)=>(match Zt b with
      |none=>[Q6 P pol (J0 P pol m) (fun b=>Zu b m) fn fr b t H]
      |some x=>(match Y3 (Qd H) (rho t x) with
       |some cs=>cs.map fun c=>Z7 P pol (J0 P pol m) (fun b=>Zu b m) fn fr b c.1 c.2 t H
       |none=>[none]))
     |none=>[none]) k) (N m)=some r:=by
     intro W N hWN hW;cases W with
     |none=>cases hW
     |some y=>
      obtain⟨n,hn⟩:=hWN y rfl;obtain⟨e,t1,H1⟩:=y;cases e with
      |normal=>
       obtain⟨m,hm⟩:=ihk _ _ _ hW;refine⟨max n m,fun q hq=>?_⟩;rw[hn q (by omega)];exact hm q (by omega)
      |exit i=>exact⟨n,fun q hq=>by rw[hn q hq];exact hW⟩
      |ret=>exact⟨n,fun q hq=>by rw[hn q hq];exact hW⟩
      |panic v=>exact⟨n,fun q hq=>by rw[hn q hq];exact hW⟩
    cases hf:forget pol fn fr (Zn b) t H with
    |none=>rw[hf] at h;cases h
    |some x=>
     rw[hf] at h;simp only at h⊢;cases hd:Zt b with
     |none=>
      rw[hd] at h one;simp only[Zp4,Zp5,Q5r] at h⊢;exact one _ (fun m=>Q6 P pol (J0 P pol m) (fun b=>Zu b m) fn fr b x.1 x.2) (fun y hy=>by
       obtain⟨n,hn⟩:=ih.1 _ _ _ hy
       exact⟨n,fun m hm=>up b n m hm _ _ _ hn⟩) h
     |some z=>
      rw[hd] at h one;simp only at h⊢;cases hc:Y3 (Qd x.2) (rho x.1 z) with
      |none=>rw[hc] at h;cases h
      |some cs=>
       rw[hc] at h;simp only[List.map_map] at h⊢;obtain⟨hne,hall⟩:=Qmf.1 h;obtain⟨n,hn⟩:=most (l:=cs) (p:=fun c m=>after _ (Z7 P pol (J0 P pol m) (fun b=>Zu b m) fn fr b c.1 c.2 x.1 x.2)=some r) (fun c hc' =>by
        exact one _ (fun m=>Z7 P pol (J0 P pol m) (fun b=>Zu b m) fn fr b c.1 c.2 x.1 x.2) (fun y hy=>by
         obtain⟨n,hn⟩:=ih.2 _ _ _ _ _ hy
         exact⟨n,fun m hm=>upF b n m _ _ hm _ _ _ hn⟩) (hall _ (Zp3.2 ⟨c,hc',rfl⟩)))
       refine⟨n,fun m hm=>Qey (by simpa using hne) fun y hy=>?_⟩;obtain⟨c,hc',rfl⟩:=Zp3.1 hy;exact hn m hm c hc'
  obtain⟨n,hn⟩:=this k t H r hk;refine⟨max n k,?_⟩;exact Yk (MLe.refl _) k (max n k) (Zp2 _ _) _ _ _ (hn (max n k) (Zp1 _ _))
 |rangeFunc g ps a b iha ihb=>
  refine⟨?_,no fun _ _ _ _=>rfl⟩;intro t H r h;simp only[Q6] at h;split at h
  case h_2=>cases h
  rename_i f first cap hg
  split at h
  case h_2=>cases h
  rename_i hn;split at h
  case h_2=>cases h
  rename_i v H2 hc;obtain⟨n,hn'⟩:=Y9.1 hc;refine⟨n,?_⟩;simp only[Q6,hg,hn,hn'];exact h
 |_=>
  refine⟨?_,no fun _ _ _ _=>rfl⟩;intro t H r h;cases h<;>exact⟨0,rfl⟩
theorem Qmy(c:Code)(t:List V)(H:Heap)(r:Ex×List V×Heap)(h:Q6 P pol (Qq P pol) Z1 fn fr c t H=some r):
 ∃n,Q6 P pol (J0 P pol n) (fun b=>Zu b n) fn fr c t H=some r:=(Q2n c).1 t H r h
theorem Q9p{f:FuncId}{args:List V}{H:Heap}{r:Rt×Heap}(h:Qd4 P pol (Qq P pol) Z1 f args H=some r):Qq P pol f args H=some r:=by
 have:∃n,Qd4 P pol (J0 P pol n) (fun b=>Zu b n) f args H=some r:=by
  simp only[Qd4] at h⊢;unfold Qbi at h⊢;cases hF:P.funcs[f]? with
  |none=>rw[hF] at h;cases h
  |some F=>
   rw[hF] at h;simp only at h⊢;cases hb:F.body with
   |none=>rw[hb] at h;cases h
   |some c=>
    rw[hb] at h;simp only at h⊢;cases hx:Q6 P pol (Qq P pol) Z1 f H.length c (args++List.replicate (F.ntmps-args.length) .bad) (H++[[]]) with
    |none=>rw[hx] at h;cases h
    |some x=>
     rw[hx] at h;obtain⟨n,hn⟩:=Qmy c _ _ _ hx;exact⟨n,by rw[hn];exact h⟩
 obtain⟨n,hn⟩:=this;exact Y9.2 ⟨n+1,hn⟩
theorem Qxz{fo so:Nat}{args:List V}{H:Heap}{r:Rt×Heap}(h:Qba P pol (Qq P pol) Z1 fo so args H=some r):Qq P pol none (.yield fo so::args) H=some r:=by
 have:∃n,Qba P pol (J0 P pol n) (fun b=>Zu b n) fo so args H=some r:=by
  unfold Qba at h;split at h
  case h_2=>cases h
  rename_i pend fL rid t0 hg;split at h
  case h_2=>cases h
  rename_i ps a b hl;split at h
  case isFalse=>cases h
  rename_i hlen;split at h
  case h_2=>cases h
  rename_i t1 H1 hx1;split at h
  case h_2=>cases h
  rename_i pend1 fL1 rid1 t01 hg1;split at h
  case h_2=>cases h
  rename_i e t2 H2 hx2;obtain⟨n1,h1⟩:=Qmy _ _ _ _ hx1;obtain⟨n2,h2⟩:=Qmy _ _ _ _ hx2;have m1:=Qcv (Js (P:=P) (pol:=pol) n1 (max n1 n2) (Zp1 _ _)) (fun b b' hb=>Yk hb n1 (max n1 n2) (Zp1 _ _)) _ _ _ _ h1;have m2:=Qcv (Js (P:=P) (pol:=pol) n2 (max n1 n2) (Zp2 _ _)) (fun b b' hb=>Yk hb n2 (max n1 n2) (Zp2 _ _)) _ _ _ _ h2;refine⟨max n1 n2,?_⟩;unfold Qba;simp only[hg,hl,if_pos hlen,m1,hg1,m2];exact h
 obtain⟨n,hn⟩:=this;exact Y9.2 ⟨n+1,hn⟩
end
def bytesV(g:Get):V->Option (List UInt8)
 | .str s=>some s
 |x=>match Qj g 1 x with
  |some (cs,_)=>bytesOf cs
  |none=>none
abbrev Prim:=Nat->Option Nat->Get->List V->Option (V×Option (Nat×Nat×O))
def K9:Prim:=fun _ _ g as=>match as with
 |[x,.int .u8 c]=>(match bytesV g x with
  |some l=>some (.int .i64 (Lib.countByte l c.toNat.toUInt8:Nat),none)
  |none=>none)
 |_=>none
def Ks:Prim:=fun _ _ g as=>match as with
 |[x,.int .u8 c]=>(match bytesV g x with
  |some l=>some (.int .i64 (Lib.indexByte l c.toNat.toUInt8),none)
  |none=>none)
 |_=>none
def Kq:Prim:=fun _ _ g as=>match as with
 |[x,y]=>(match bytesV g x,bytesV g y with
  |some l,some r=>some (.int .i64 (Lib.compareBytes l r),none)
  |_,_=>none)
 |_=>none
def Qc7:Prim:=fun fr dst g as=>match as,dst with
 |[.int .i64 n],some d=>(match g fr d with
  |none=>if 0<=n/\n<=281474976710656 then some (.mS fr d 0 n.toNat none 1,some (fr,d,.cells (List.replicate n.toNat .byte))) else none
  |some _=>none)
 |_,_=>none
section
variable {P : Program} {E : Env} {B : Nat} {F : Nat -> Nat -> Prop} {H : Heap}
structure Kk(P:Program)(f:FuncId)(e:Array Value->Sem Value):Prop where
 at_:∃fn,P.funcs[f]?=some fn/\(fn.name== "runtime.NumGoroutine")=false/\fn.body.isNone=true/\Extern.findNext fn=none/\Extern.find fn=some e
theorem Kk.run{f:FuncId}{e:Array Value->Sem Value}(h:Kk P f e){args:Array Value}{w w' :World}{v:Value}(hr:(e args).run P w= .ok v w'):
 (callFunc f args).run P w= .ok (.value v) w' :=by
 obtain⟨fn,h1,h2,h3,h4,h5⟩:=h.at_;rw[run_callFunc_extern h1 h2 h3 h4 h5,hr];rfl
theorem Kk.plain{f:FuncId}{e:Array Value->Sem Value}(h:Kk P f e)(S:Sim B F H E){cargs:List Value}{v:V}{c:Value}(hr:(e ⟨cargs⟩).run P E.w= .ok c E.w)(hv:Rel E v c):
 Invokes P f ⟨cargs⟩ E.w (Answer B F H E (.ret v) H):=
 .inl ⟨c,E.w,h.run hr,E,rfl,⟨c,rfl,hv⟩,S,Ext.refl _ _ _,Zpp _⟩
theorem Qs3(S:Sim B F H E){esz n:Nat}{x:V}{cs:List V}{c:Value}(h:Qj (Qd H) esz x=some (cs,n))(hr:Rel E x c):
 ∃a cap vs,c= .slice a n cap/\Qe E cs vs/\vs.length=n*esz/\(vs=[]\/∃b off,a=some ⟨b,off,none⟩/\Qgl E.w b off vs):=by
 unfold Qj at h;split at h
 . cases h;simp only[Rel] at hr;subst hr;exact⟨none,0,[],rfl,.nil,by simp,.inl rfl⟩
 . split at h
   . rename_i hl;cases h;simp only[Rel] at hr;obtain⟨a,cap,vs,rfl,h1,_,h3,h4,_⟩:=hr;refine⟨some a,cap,vs,rfl,h4,by rw[<-h4.length];exact hl,?_⟩;rcases h3 with rfl|⟨h3,h5⟩
     . exact .inl rfl
     . obtain⟨b,off,sp⟩:=a;simp only at h3;subst h3;exact .inr ⟨b,off,rfl,h5.lies⟩
   . cases h
 . split at h
   . rename_i he;cases h;subst he;simp only[Rel] at hr;obtain⟨b,off,cap,vs,rfl,h1,h3,h4,h5,_⟩:=hr;exact⟨_,cap,vs,rfl,h4,h4.length.symm.trans h5,.inr ⟨b,off,rfl,h3.lies⟩⟩
   . cases h
 . rename_i f s o n' cap e;split at h
   . rename_i xs hg;split at h
     . rename_i hh;obtain⟨rfl,hle⟩:=hh;cases h;simp only[Rel] at hr;obtain⟨b,c',T,sz',hmu,rfl,h1,_,_,_⟩:=hr;obtain⟨b2,cc,T2,vs,rest,g1,_,_,_,g5,_,_,g8⟩:=S.lies hg;rw[hmu] at g1;cases g1;have hvl:((vs.drop o).take (n*e)).length=n*e:=by
        have:=g5.length;simp;omega
       exact⟨_,c',_,rfl,(g5.drop o).take _,hvl,.inr ⟨b,o,rfl,g8.from o _⟩⟩
     . cases h
   . cases h
 . cases h
theorem Qn0:∀{cs:List V} {l:List UInt8} {vs:List Value},bytesOf cs=some l->Qe E cs vs->∃xs:List Int,vs=xs.map (fun x=> .int .u8 x)/\Lib.bytesOf xs=l
 |[],l,vs,h,hr=>by
  cases h;rw[Qe.nil_iff] at hr;subst hr;exact⟨[],rfl,rfl⟩
 |c::cs,l,vs,h,hr=>by
  obtain⟨v,r,rfl,h1,h2⟩:=Qe.cons_iff.1 hr;unfold bytesOf at h;split at h
  . rename_i heq;cases heq
  . rename_i n r' heq;cases heq;cases hb:bytesOf cs with
    |none=>rw[hb] at h;cases h
    |some l' =>
     rw[hb] at h;cases h;obtain⟨xs,rfl,rfl⟩:=Qn0 hb h2;simp only[Rel] at h1;subst h1;exact⟨n::xs,rfl,rfl⟩
  . cases h
theorem Qcn(S:Sim B F H E){x:V}{l:List UInt8}{c:Value}(h:bytesV (Qd H) x=some l)(hr:Rel E x c):∃s:ByteArray,s.data.toList=l/\(Extern.Bytes.bytesOf c).run P E.w= .ok s E.w:=by
 unfold bytesV at h;split at h
 . cases h;simp only[Rel] at hr;subst hr;exact⟨_,rfl,rfl⟩
 . split at h
   case h_2=>cases h
   rename_i cs n hs;obtain⟨a,cap,vs,rfl,h1,h2,h3⟩:=Qs3 S hs hr;obtain⟨xs,rfl,rfl⟩:=Qn0 h h1;simp only[Zp6,Zp7] at h2;subst h2;cases a with
   |none=>
    refine⟨.empty,?_,rfl⟩;rcases h3 with h3|⟨b,off,h3,_⟩
    . simp only[List.map_eq_nil_iff] at h3;subst h3;rfl
    . cases h3
   |some a=>
    have hc:∀j x,xs[j]?=some x->E.w.cell? (a.add j)=some (.int .u8 x):=by
     intro j x hj;rcases h3 with h3|⟨b,off,h3,h4⟩
     . simp only[List.map_eq_nil_iff] at h3;subst h3;cases hj
     . cases h3;have e:(⟨b,off,none⟩:Addr).add j=⟨b,off+j,none⟩:=by unfold Addr.add;split<;>simp_all
       rw[e];exact h4 j (.int .u8 x) (by simp[hj])
    refine⟨_,?_,Lib.run_loadBytesX (P:=P) E.w xs a .empty hc⟩;simp
theorem sound_count{f:FuncId}(hx:Kk P f Extern.BytealgCount.count)(S:Sim B F H E){fr:Nat}{dst:Option Nat}{args:List V}{cargs:List Value}{v:V}{x:Option (Nat×Nat×O)}
 (hr:Qe E args cargs)(h:K9 fr dst (Qd H) args=some (v,x)):Invokes P f ⟨cargs⟩ E.w (Answer B F H E (.ret v) (wr H x)):=by
 unfold K9 at h;split at h
 case h_2=>cases h
 rename_i y c;split at h
 case h_2=>cases h
 rename_i l hl;cases h;obtain⟨cy,r1,rfl,h1,h2⟩:=Qe.cons_iff.1 hr;obtain⟨cc,r2,rfl,h3,h4⟩:=Qe.cons_iff.1 h2;rw[Qe.nil_iff] at h4;subst h4;simp only[Rel] at h3;subst h3;obtain⟨s,rfl,hb⟩:=Qcn (P:=P) S hl h1;refine hx.plain S (c:= .int .i64 (Lib.countByte s.data.toList c.toNat.toUInt8:Nat)) ?_ (by simp[Rel]);rw[<-Lib.run_countString (P:=P) s c E.w];have hdef:∀b c,Extern.BytealgCount.count #[b,c]=(do
  let b<-Extern.Bytes.bytesOf b
  let c<-Extern.Bytes.asByte c
  pure (goInt (b.foldl (fun n x=>if x==c then n+1 else n) (0:Nat)))):=fun _ _=>rfl
 show Sem.run P (Extern.BytealgCount.count #[cy,.int .u8 c]) E.w=_;rw[hdef,hdef,Zsu,hb,Zsu];rfl
theorem sound_indexByte{f:FuncId}(hx:Kk P f Extern.BytealgIndexByte.indexByte)(S:Sim B F H E){fr:Nat}{dst:Option Nat}{args:List V}{cargs:List Value}{v:V}{x:Option (Nat×Nat×O)}
 (hr:Qe E args cargs)(h:Ks fr dst (Qd H) args=some (v,x)):Invokes P f ⟨cargs⟩ E.w (Answer B F H E (.ret v) (wr H x)):=by
 unfold Ks at h;split at h
 case h_2=>cases h
 rename_i y c;split at h
 case h_2=>cases h
 rename_i l hl;cases h;obtain⟨cy,r1,rfl,h1,h2⟩:=Qe.cons_iff.1 hr;obtain⟨cc,r2,rfl,h3,h4⟩:=Qe.cons_iff.1 h2;rw[Qe.nil_iff] at h4;subst h4;simp only[Rel] at h3;subst h3;obtain⟨s,rfl,hb⟩:=Qcn (P:=P) S hl h1;refine hx.plain S (c:= .int .i64 (Lib.indexByte s.data.toList c.toNat.toUInt8)) ?_ (by simp[Rel]);rw[<-Lib.run_indexByteString (P:=P) s c E.w];have hdef:∀b c,Extern.BytealgIndexByte.indexByte #[b,c]=(do
  let b<-Extern.Bytes.bytesOf b
  let c<-Extern.Bytes.asByte c
  match(List.range b.size).find? fun i=>b[i]! ==c with
  |some i=>pure (goInt i)
  |none=>pure (goInt (-1))):=fun _ _=>rfl
 show Sem.run P (Extern.BytealgIndexByte.indexByte #[cy,.int .u8 c]) E.w=_;rw[hdef,hdef,Zsu,hb,Zsu];rfl
theorem sound_compare{f:FuncId}(hx:Kk P f Extern.BytealgCompare.compare)(S:Sim B F H E){fr:Nat}{dst:Option Nat}{args:List V}{cargs:List Value}{v:V}{x:Option (Nat×Nat×O)}
 (hr:Qe E args cargs)(h:Kq fr dst (Qd H) args=some (v,x)):Invokes P f ⟨cargs⟩ E.w (Answer B F H E (.ret v) (wr H x)):=by
 unfold Kq at h;split at h
 case h_2=>cases h
 rename_i y z;split at h
 case h_2=>cases h
 rename_i l r hl hr';cases h;obtain⟨cy,r1,rfl,h1,h2⟩:=Qe.cons_iff.1 hr;obtain⟨cz,r2,rfl,h3,h4⟩:=Qe.cons_iff.1 h2;rw[Qe.nil_iff] at h4;subst h4;obtain⟨s,rfl,hb⟩:=Qcn (P:=P) S hl h1;obtain⟨s',rfl,hb'⟩:=Qcn (P:=P) S hr' h3;refine hx.plain S (c:= .int .i64 (Lib.compareBytes s.data.toList s'.data.toList)) ?_ (by simp[Rel]);rw[<-Lib.run_compareString (P:=P) s s' E.w];have hdef:∀a b,Extern.BytealgCompare.compare #[a,b]=(do pure (goInt (Extern.BytealgCompare.cmp (<-Extern.Bytes.bytesOf a) (<-Extern.Bytes.bytesOf b)))):=fun _ _=>rfl;show Sem.run P (Extern.BytealgCompare.compare #[cy,cz]) E.w=_;rw[hdef,hdef,Zsu,hb,Zst,Zsu,hb',Zsu];rfl
theorem Qk3:∀(n t:Nat) (acc:Array Value),(∀v∈acc.toList,∃m,v= .int .u8 m)->∀v∈(Extern.BytealgMakeNoZero.digits n t acc).toList,∃m,v= .int .u8 m
 |0,_,_,h=>h
 |n+1,t,acc,h=>by
  rw[Extern.BytealgMakeNoZero.digits];refine Qk3 n _ _ fun v hv=>?_;rw[Array.toList_push,Zp8,Zp9] at hv;rcases hv with hv|rfl
  . exact h v hv
  . exact⟨_,rfl⟩
theorem Q9f{w:World}{ps:Array TypeId}{t e:TypeId}(ht:P.underlying t=some (.slice e)){n:Nat}(hn:n<=281474976710656):
 ∃cs:Array Value,(Extern.BytealgMakeNoZero.makeNoZero ps #[t] #[.int .i64 n]).run P w= .ok (.slice (some ⟨w.heap.size,0,none⟩) n cs.size) (w.drew.drew.alloc (.cells cs e))/\n<=cs.size/\
  ∀v∈cs.toList,∃m,v= .int .u8 m:=by
 have hdef:Extern.BytealgMakeNoZero.makeNoZero ps #[t] #[.int .i64 n]=
  (do
    let .slice elem<-underlying t|stuck "bytealg.MakeNoZero: slice type expected"
    if(n:Int)<0||(n:Int)>2^48 then runtimePanic (.error "makeslice: len out of range")
    let cap<-choose (.appendCap (n:Int).toNat 0 elem)
    askRoom cap
    let bytes<-choose (.extern "internal/bytealg.MakeNoZero.bytes" 0)
    let a<-newRow elem (Extern.BytealgMakeNoZero.digits cap bytes #[])
    pure (.slice (some a) (n:Int).toNat cap)):=rfl
 refine⟨Extern.BytealgMakeNoZero.digits (grownCap w n 0 e) ((Question.extern "internal/bytealg.MakeNoZero.bytes" 0).cut (w.tape (w.drawn+1) (.extern "internal/bytealg.MakeNoZero.bytes" 0))) #[],?_,?_,?_⟩
 . rw[hdef];have h1:¬(n:Int)<0:=by omega
   have h2:¬(281474976710656:Int)<(n:Int):=by omega
   simp[run_underlying ht,h1,h2,Question.forced,newRow,Lib.size_digits,grownCap]
 . rw[Lib.size_digits];simpa using grownCap_ge w n 0 e
 . exact Qk3 _ _ _ (by simp)
theorem sound_make{f:FuncId}{ps:Array TypeId}{t e:TypeId}(hx:Kk P f (Extern.BytealgMakeNoZero.makeNoZero ps #[t]))(ht:P.underlying t=some (.slice e))(S:Sim B F H E){fr:Nat}(hlt:fr<H.length){dst:Option Nat}
 {args:List V}{cargs:List Value}{v:V}{x:Option (Nat×Nat×O)}
 (hr:Qe E args cargs)(h:Qc7 fr dst (Qd H) args=some (v,x)):Invokes P f ⟨cargs⟩ E.w (Answer B F H E (.ret v) (wr H x)):=by
 unfold Qc7 at h;split at h
 case h_2=>cases h
 rename_i n d;split at h
 case h_2=>cases h
 rename_i hn;split at h
 case isFalse=>cases h
 rename_i hle;cases h;obtain⟨cy,r1,rfl,h1,h2⟩:=Qe.cons_iff.1 hr;rw[Qe.nil_iff] at h2;subst h2;simp only[Rel] at h1;subst h1;obtain⟨k,rfl⟩:=Int.eq_ofNat_of_zero_le hle.1;have hk:k<=281474976710656:=by have:=hle.2;omega
 obtain⟨cs,hrun,hcs,hbytes⟩:=Q9f (P:=P) (w:=E.w) (ps:=ps) ht hk;have hlen:cs.toList=cs.toList.take k++cs.toList.drop k:=(Zqa _ _).symm;obtain⟨X,S'⟩:=S.newCells hlt hn (List.replicate k .byte) (cs.toList.take k) (cs.toList.drop k) e (E.w.drawn+1+1) (by
  have hl:(cs.toList.take k).length=k:=by simp;omega
  have:∀(l:List Value),(∀v∈l,∃n,v= .int .u8 n)->Qe E (List.replicate l.length .byte) l:=by
   intro l
   induction l with
   |nil=>intro _;exact .nil
   |cons a l ih=>intro hl;exact .cons (by simp only[Rel];exact hl a (by simp)) (ih fun v hv=>hl v (by simp[hv]))
  have:=this (cs.toList.take k) (fun v hv=>hbytes v (List.mem_of_mem_take hv))
  rwa[hl] at this) (by simp[V.scalar])
 refine .inl ⟨_,_,hx.run hrun,E.newCells fr d (cs.toList.take k++cs.toList.drop k) e (E.w.drawn+1+1),?_,⟨_,rfl,?_⟩,S',X,by rw[wr_length];exact Zpp _⟩
 . rw[<-hlen];rfl
 . have hsh:((E.newCells fr d (cs.toList.take k++cs.toList.drop k) e (E.w.drawn+1+1)).w.heap)[E.w.heap.size]?=some (.cells ⟨cs.toList.take k++cs.toList.drop k⟩ e (0,0)):=by
    simp[Env.newCells,Env.push]
   simp only[Rel];refine⟨E.w.heap.size,cs.size,e,cs.size,by simp[Env.newCells,upd],rfl,hcs,(fun k h=>by cases h),?_,(by omega),(fun _=>by omega)⟩;simp only[World.shape?,hsh];rw[<-hlen]
end
def Kh(R:TypeId->List V->Prop):List TypeId->List V->Prop
 |[],xs=>xs=[]
 |t::ts,xs=>∃y r,R t y/\Kh R ts r/\xs=y++r
def Zz(P:Program):Nat->TypeId->List V->Prop
 |0,_,_=>False
 |n+1,t,xs=>match P.underlying t with
  |some .bool=>∃b,xs=[.bool b]
  |some (.int k)=>∃m,xs=[.int k m]/\(Lit.int k m).wf=true
  |some .string=>∃s:List UInt8,xs=[.str s]/\s.length<=maxLen
  |some (.slice e)=>xs=[.nS]\/∃ys:List (List V),xs=[.iS ys.flatten ys.length false]/\ys.length<=maxLen/\∀y∈ys,Zz P n e y
  |some (.struct fs)=>Kh (Zz P n) (fs.toList.map (·.type)) xs
  |some (.array k e)=>Kh (Zz P n) (List.replicate k e) xs
  |_=>False
def Qet(P:Program):Nat->List Field->Nat->Bool
 |o,[],n=>o==n
 |o,f::r,n=>f.offset==o&&Qet P (o+P.cellsOf f.type) r n
def Q2r(P:Program)(book:List TypeId):Bool:=
 book.all fun t=>match P.underlying t with
  |some .bool|some (.int _)|some .string=>true
  |some (.slice e)=>book.contains e
  |some (.struct fs)=>Qet P 0 fs.toList (P.cellsOf t)&&fs.toList.all fun f=>book.contains f.type
  |some (.array k e)=>P.cellsOf t==k*P.cellsOf e&&book.contains e
  |_=>false
abbrev Qle(P:Program)(W:World):Env:=bare (Qn P) W fun _ _=>False
theorem Zbu(a:Addr)(m j:Nat):(a.add m).add j=a.add (m+j):=by
 unfold Addr.add;by_cases hj:j=0
 . subst hj;simp
 . by_cases hm:m=0
   . subst hm;simp[hj]
   . have:m+j≠0:=by omega
     simp[hj,hm,Zqb]
section
variable {H : Type} {enc : TypeId × Value -> H} {P : Program} {W : World} {book : List TypeId}
theorem Q9t{a:Addr}{vs:List Value}(h:∀i v,vs[i]?=some v->W.cell? (a.add i)=some v):Qfa (Qle P W) a vs:=by
 cases vs with
 |nil=>exact .inl rfl
 |cons v r=>
  right;have h0:=h 0 v rfl;have hs:a.spot=none:=by
   have e:a.add 0=a:=by simp[Addr.add]
   rw[e] at h0;unfold World.cell? at h0;split at h0
   . cases hs:a.spot with
     |none=>rfl
     |some s=>simp[hs] at h0
   . cases h0
  refine⟨hs,fun i v hv=>⟨?_,fun hm=>hm⟩⟩;have:=h i v hv;have e:a.add i=⟨a.block,a.off+i,none⟩:=by obtain⟨b,o,s⟩:=a;simp only at hs;subst hs;unfold Addr.add;split<;>simp_all
  rw[e] at this;exact this
def Qfs(P:Program)(n:Nat)(t:TypeId)(x:V):Prop:=
 match P.underlying t with
 |some (.struct _)|some (.array _ _)=>∃cs,x= .agg cs/\Zz P n t cs
 |_=>Zz P n t [x]
def Qlg(P:Program):List TypeId->List V->Prop
 |[],xs=>xs=[]
 |t::ts,xs=>∃n y r,Qfs P n t y/\Qlg P ts r/\xs=y::r
end
section
variable {P : Program} {pol : Pol}
theorem Sim.start(W:World):Sim W.heap.size (fun _ _=>False) [] (Qle P W) where
 dom:=fun f s=>rfl
 bsz:=Zpp _
 fb:=fun _ _ h=>h.elim
 fmod:=fun _ _ h=>h
 modsz:=fun _ _ h=>h.elim
 obj:=fun f s o h=>by simp[Qd] at h
 nreg:=fun f s n x h=>by cases h
 inj:=fun f s o _ _ _ _ h=>by simp[Qd] at h
theorem Qox(ok:Okay P pol){f:FuncId}{xs:List V}{args:Array Value}{W:World}{b:Bool}{H' :Heap}(h:Qq P pol f xs []=some (.ret (.bool b),H'))
 (hr:Qe (Qle P W) xs args.toList):Calls P f args W fun e W' =>e= .returned (.bool b)/\RowKit.Below W.heap.size W W' :=by
 have:=((Qd8 ok).1 f xs [] _ H' h).2 W.heap.size (fun _ _=>False) (Qle P W) args.toList (Sim.start W) rfl hr;refine this.mono ?_;rintro e w' ⟨E',rfl,⟨c,rfl,hc⟩,S',X,_⟩;simp only[Rel] at hc;subst hc;exact⟨rfl,X.rest.2.1,X.rest.1,X.rest.2.2,X.size,X.old⟩
theorem Qix{H:Type}{enc:TypeId×Value->H}(hl:laidOutB P=true){W W' :World}(hb:RowKit.Below W.heap.size W W'):∀{ts:List TypeId} {vs:List Value} {ds:List (DataW H)} {ps:List MemPlace},
 (∀t∈ts,P.readableRec t=true/\t<P.types.size)->DataW.TrodAll enc P W 0 (fun _=>true) true ts vs ds ps->(∀x∈ps,x.block<W.heap.size)->DataW.TrodAll enc P W' 0 (fun b=>decide (b<W.heap.size)) true ts vs ds ps
 |[],[],[],_,_,h,_=>h
 |[],_::_,_,_,_,h,_=>h.elim
 |[],[],_::_,_,_,h,_=>h.elim
 |_::_,[],_,_,_,h,_=>h.elim
 |_::_,_::_,[],_,_,h,_=>h.elim
 |t::ts,v::vs,d::ds,ps,ht,h,hlt=>by
  obtain⟨p,q,h1,h2,rfl⟩:=h;exact⟨p,q,RowKit.Below.trod hl (ht t (by simp)).1 (ht t (by simp)).2 h1 hb (fun x hx=>hlt x (by simp[hx])),Qix hl hb (fun u hu=>ht u (by simp[hu])) h2 (fun x hx=>hlt x (by simp[hx])),rfl⟩
theorem Qhj{H:Type}{enc:TypeId×Value->H}{W:World}{base:Nat}{sp:Nat->Bool}{hd:Bool}:∀{ts:List TypeId} {vs:List Value} {ds:List (DataW H)} {ps:List MemPlace},
 DataW.TrodAll enc P W base sp hd ts vs ds ps->ds.length=ts.length
 |[],[],[],_,_=>rfl
 |[],_::_,_,_,h=>h.elim
 |[],[],_::_,_,h=>h.elim
 |_::_,[],_,_,h=>h.elim
 |_::_,_::_,[],_,h=>h.elim
 |t::ts,v::vs,d::ds,ps,h=>by
  obtain⟨p,q,h1,h2,rfl⟩:=h;simp[Qhj h2]
end
section
variable {P : Program} {pol : Pol} {C : Call} {L : Kc -> Kv} {fn fr : Nat} {ops : Array Oper} {r : List Oper} {t : List V} {H : Heap} {d : Option Nat} {ty u : TypeId} {ps : String} {af : Array Edge} {x y z : Operand}
theorem Qk0{op:Op}{j:Nat}{want:Bool}:Zf P pol C fn fr ops ({dst:=d,op:=op,type:=ty,pos:=ps,after:=af,guard:=some (j,want)}::r) t H=
 match((ops[j]?).bind (·.dst)).bind (t[·]?) with
 |some (.bool b)=>if b==want then Zf P pol C fn fr ops ({dst:=d,op:=op,type:=ty,pos:=ps,after:=af,guard:=none}::r) t H else Zf P pol C fn fr ops r (Qs t d nov) H
 |some (.tuple [])=>Zf P pol C fn fr ops r (Qs t d nov) H
 |_=>none:=by
 have e:Zw ops t {dst:=d,op:=op,type:=ty,pos:=ps,after:=af,guard:=some (j,want)}=match((ops[j]?).bind (·.dst)).bind (t[·]?) with
  |some (.bool b)=>some (b==want)
  |some (.tuple [])=>some false
  |_=>none:=rfl
 simp only[Zf,e];generalize((ops[j]?).bind (·.dst)).bind (t[·]?)=s;cases s with
 |none=>rfl
 |some v=>
  cases v with
  |bool b=>cases b<;>cases want<;>rfl
  |tuple l=>cases l<;>rfl
  |_=>rfl
theorem Q7p{op:Op}:Zf P pol C fn fr ops ({dst:=d,op:=op,type:=ty,pos:=ps,after:=af,guard:=none}::r) t H=
 match Zm P (pol.mt fn) fr (Qd H) (rho t) {dst:=d,op:=op,type:=ty,pos:=ps,after:=af,guard:=none} with
 |some (.val v w)=>Zf P pol C fn fr ops r (Qs t d v) (wr H w)
 |some (.panic v)=>some (.panic v,t,H)
 |some (.call f args)=>(match callOp pol C fn fr d f args H with
  |some (.ret v,H')=>Zf P pol C fn fr ops r (Qs t d v) H'
  |some (.pan v,H')=>some (.panic v,t,H')
  |none=>none)
 |some (.round f s args)=>(match C none (.yield f s::args) H with
  |some (.ret v,H')=>Zf P pol C fn fr ops r (Qs t d v) H'
  |_=>none)
 |none=>none:=by
 simp only[Zf,Zw,Q1];cases Zm P (pol.mt fn) fr (Qd H) (rho t) {dst:=d,op:=op,type:=ty,pos:=ps,after:=af,guard:=none} with
 |none=>rfl
 |some s=>
  cases s with
  |val v w=>rfl
  |panic v=>rfl
  |call f args=>
   simp only;cases callOp pol C fn fr d f args H with
   |none=>rfl
   |some q=>obtain⟨q,H'⟩:=q;cases q<;>rfl
  |round f s args=>
   simp only;cases C none (.yield f s::args) H with
   |none=>rfl
   |some q=>obtain⟨q,H'⟩:=q;cases q<;>rfl
inductive It where
 |code(c:Code)
 |ops(a:Array Oper)(l:List Oper)
 |opsT(a:Array Oper)(l:List Oper)(T:List FP)
 |block(id:Nat)
def U(P:Program)(pol:Pol)(C:Call)(L:Kc->Kv)(fn fr:Nat):List It->Ex->List V->Heap->Out
 |[],e,t,H=>some (e,t,H)
 | .code c::k,e,t,H=>(match e with
   | .normal=>(Q6 P pol C L fn fr c t H).bind fun x=>U P pol C L fn fr k x.1 x.2.1 x.2.2
   |e=>U P pol C L fn fr k e t H)
 | .ops a l::k,e,t,H=>(match e with
   | .normal=>(Zf P pol C fn fr a l t H).bind fun x=>U P pol C L fn fr k x.1 x.2.1 x.2.2
   |e=>U P pol C L fn fr k e t H)
 | .opsT a l T::k,e,t,H=>(match e with
   | .normal=>(Q4 P pol C fn fr a l t H).bind fun x=>if okT (Region.before a) (loud (T.reverse++x.2.2)) then U P pol C L fn fr k .normal x.1 x.2.1 else none
   |e=>U P pol C L fn fr k e t H)
 | .block id::k,e,t,H=>(match e with
   | .exit i=>if i=id then U P pol C L fn fr k .normal t H else U P pol C L fn fr k (.exit i) t H
   |e=>U P pol C L fn fr k e t H)
section
variable {k : List It}
theorem Qwj(c:Code):Q6 P pol C L fn fr c t H=U P pol C L fn fr [.code c] .normal t H:=by
 simp only[U];cases Q6 P pol C L fn fr c t H with
 |none=>rfl
 |some x=>rfl
theorem u_nil{e:Ex}:U P pol C L fn fr [] e t H=some (e,t,H):=rfl
theorem u_seq{a b:Code}:U P pol C L fn fr (.code (.seq a b)::k) .normal t H=U P pol C L fn fr (.code a:: .code b::k) .normal t H:=by
 simp only[U,Q6];cases Q6 P pol C L fn fr a t H with
 |none=>rfl
 |some x=>obtain⟨e,t1,H1⟩:=x;cases e<;>rfl
theorem Zaa{id:Nat}{l:List Oper}:U P pol C L fn fr (.code (.region id l.toArray false)::k) .normal t H=U P pol C L fn fr (.ops l.toArray l::k) .normal t H:=by simp only[U,Q6,Zpo,if_false]
theorem u_draw{id:Nat}{l:List Oper}:U P pol C L fn fr (.code (.region id l.toArray true)::k) .normal t H=U P pol C L fn fr (.opsT l.toArray l []::k) .normal t H:=by
 simp only[U,Q6,if_true];cases Q4 P pol C fn fr l.toArray l t H with
 |none=>rfl
 |some x=>
  obtain⟨t1,H1,T1⟩:=x;by_cases h:okT (Region.before l.toArray) (loud T1)=true
  . simp[h]
  . simp[h]
theorem Q6v{a:Array Oper}:U P pol C L fn fr (.ops a []::k) .normal t H=U P pol C L fn fr k .normal t H:=rfl
theorem Q16{a:Array Oper}{T:List FP}:U P pol C L fn fr (.opsT a [] T::k) .normal t H=if okT (Region.before a) (loud T.reverse) then U P pol C L fn fr k .normal t H else none:=by simp only[U,Q4,Zqc,Zqd]
theorem u_skip:U P pol C L fn fr (.code .skip::k) .normal t H=U P pol C L fn fr k .normal t H:=rfl
theorem u_ret:U P pol C L fn fr (.code .ret::k) .normal t H=U P pol C L fn fr k .ret t H:=rfl
theorem u_exit{id:Nat}:U P pol C L fn fr (.code (.exit id)::k) .normal t H=U P pol C L fn fr k (.exit id) t H:=rfl
theorem Q14{c:Code}:U P pol C L fn fr (.code c::k) .ret t H=U P pol C L fn fr k .ret t H:=rfl
theorem Qz3{c:Code}{i:Nat}:U P pol C L fn fr (.code c::k) (.exit i) t H=U P pol C L fn fr k (.exit i) t H:=rfl
theorem Qvs{c:Code}{v:V}:U P pol C L fn fr (.code c::k) (.panic v) t H=U P pol C L fn fr k (.panic v) t H:=rfl
theorem Qpt{i:Nat}:U P pol C L fn fr (.block i::k) .normal t H=U P pol C L fn fr k .normal t H:=rfl
theorem Qxi{i:Nat}:U P pol C L fn fr (.block i::k) .ret t H=U P pol C L fn fr k .ret t H:=rfl
theorem Qsf{i:Nat}{v:V}:U P pol C L fn fr (.block i::k) (.panic v) t H=U P pol C L fn fr k (.panic v) t H:=rfl
theorem Qvu{i j:Nat}:U P pol C L fn fr (.block i::k) (.exit j) t H=if j=i then U P pol C L fn fr k .normal t H else U P pol C L fn fr k (.exit j) t H:=rfl
theorem Zdr{id:Nat}{b:Code}:U P pol C L fn fr (.code (.block id b)::k) .normal t H=U P pol C L fn fr (.code b:: .block id::k) .normal t H:=by
 simp only[U,Q6];cases Q6 P pol C L fn fr b t H with
 |none=>rfl
 |some x=>
  obtain⟨e,t1,H1⟩:=x;cases e<;>first|rfl|(simp only[Zqc];split<;>rfl)
def round(P:Program)(pol:Pol)(C:Call)(L:Kc->Kv)(fn fr:Nat)(b:Code):Kc:=fun t H=>match forget pol fn fr (Zn b) t H with
 |some (t,H)=>(match Zt b with
  |none=>[Q6 P pol C L fn fr b t H]
  |some x=>(match Y3 (Qd H) (rho t x) with
   |some cs=>cs.map fun c=>Z7 P pol C L fn fr b c.1 c.2 t H
   |none=>[none]))
 |none=>[none]
theorem Zdg{a:Array Oper}{op:Op}{j:Nat}{want b:Bool}(h:((a[j]?).bind (·.dst)).bind (t[·]?)=some (.bool b)):
 U P pol C L fn fr (.ops a ({dst:=d,op:=op,type:=ty,pos:=ps,after:=af,guard:=some (j,want)}::r)::k) .normal t H=
   if b=want then U P pol C L fn fr (.ops a ({dst:=d,op:=op,type:=ty,pos:=ps,after:=af,guard:=none}::r)::k) .normal t H else U P pol C L fn fr (.ops a r::k) .normal (Qs t d nov) H:=by
 simp only[U];rw[Qk0,h];simp only;cases b<;>cases want<;>rfl
theorem Zej{a:Array Oper}{op:Op}:U P pol C L fn fr (.ops a ({dst:=d,op:=op,type:=ty,pos:=ps,after:=af,guard:=none}::r)::k) .normal t H=
 match Zm P (pol.mt fn) fr (Qd H) (rho t) {dst:=d,op:=op,type:=ty,pos:=ps,after:=af,guard:=none} with
 |some (.val v w)=>U P pol C L fn fr (.ops a r::k) .normal (Qs t d v) (wr H w)
 |some (.panic v)=>U P pol C L fn fr k (.panic v) t H
 |some (.call f args)=>(match callOp pol C fn fr d f args H with
  |some (.ret v,H')=>U P pol C L fn fr (.ops a r::k) .normal (Qs t d v) H'
  |some (.pan v,H')=>U P pol C L fn fr k (.panic v) t H'
  |none=>none)
 |some (.round f s args)=>(match C none (.yield f s::args) H with
  |some (.ret v,H')=>U P pol C L fn fr (.ops a r::k) .normal (Qs t d v) H'
  |_=>none)
 |none=>none:=by
 simp only[U];rw[Q7p];cases Zm P (pol.mt fn) fr (Qd H) (rho t) {dst:=d,op:=op,type:=ty,pos:=ps,after:=af,guard:=none} with
 |none=>rfl
 |some s=>
  cases s with
  |val v w=>rfl
  |panic v=>rfl
  |call f args=>
   simp only;cases callOp pol C fn fr d f args H with
   |none=>rfl
   |some q=>obtain⟨q,H'⟩:=q;cases q<;>rfl
  |round f s args=>
   simp only;cases C none (.yield f s::args) H with
   |none=>rfl
   |some q=>obtain⟨q,H'⟩:=q;cases q<;>rfl
theorem u_if{c:Operand}{a b:Code}:U P pol C L fn fr (.code (.cond c a b)::k) .normal t H=
 match rho t c with
 | .bool v=>if v=true then U P pol C L fn fr (.code a::k) .normal t H else U P pol C L fn fr (.code b::k) .normal t H
 |_=>none:=by
 simp only[U,Q6];cases rho t c with
 |bool v=>cases v<;>rfl
 |_=>rfl
theorem u_when{a:Array Oper}{op:Op}{j:Nat}{want:Bool}:
 U P pol C L fn fr (.ops a ({dst:=d,op:=op,type:=ty,pos:=ps,after:=af,guard:=some (j,want)}::r)::k) .normal t H=
   match((a[j]?).bind (·.dst)).bind (t[·]?) with
   |some (.bool b)=>if b=want then U P pol C L fn fr (.ops a ({dst:=d,op:=op,type:=ty,pos:=ps,after:=af,guard:=none}::r)::k) .normal t H else U P pol C L fn fr (.ops a r::k) .normal (Qs t d nov) H
   |some (.tuple [])=>U P pol C L fn fr (.ops a r::k) .normal (Qs t d nov) H
   |_=>none:=by
 cases h:((a[j]?).bind (·.dst)).bind (t[·]?) with
 |none=>simp only[U];rw[Qk0,h];rfl
 |some v=>
  cases v with
  |bool b=>exact Zdg h
  |tuple l=>simp only[U];rw[Qk0,h];cases l<;>rfl
  |_=>simp only[U];rw[Qk0,h];rfl
end
end
section
variable {P : Program} {pol : Pol} {C : Call} {fn fr : Nat} {t : List V} {H : Heap} {u : TypeId} {x y : Operand} {k : IntKind} {m n : Int} {g : Get} {mt : Nat -> Bool}
theorem b_add:Zj P .add u x y (.int k m) (.int k n)=some (.int k (k.wrap (m+n))):=by simp only[Zj,Qc9,if_true]
theorem b_sub:Zj P .sub u x y (.int k m) (.int k n)=some (.int k (k.wrap (m-n))):=by simp only[Zj,Qc9,if_true]
theorem b_mul:Zj P .mul u x y (.int k m) (.int k n)=some (.int k (k.wrap (m*n))):=by simp only[Zj,Qc9,if_true]
theorem b_eql:Zj P .eql u x y (.int k m) (.int k n)=some (.bool (m==n)):=by simp only[Zj,Qc9,if_true]
theorem b_neq:Zj P .neq u x y (.int k m) (.int k n)=some (.bool (m !=n)):=by simp only[Zj,Qc9,if_true]
theorem b_lss:Zj P .lss u x y (.int k m) (.int k n)=some (.bool (decide (m<n))):=by simp only[Zj,Qc9,if_true]
theorem b_leq:Zj P .leq u x y (.int k m) (.int k n)=some (.bool (decide (m<=n))):=by simp only[Zj,Qc9,if_true]
theorem b_gtr:Zj P .gtr u x y (.int k m) (.int k n)=some (.bool (decide (m>n))):=by simp only[Zj,Qc9,if_true]
theorem b_geq:Zj P .geq u x y (.int k m) (.int k n)=some (.bool (decide (m>=n))):=by simp only[Zj,Qc9,if_true]
theorem b_rem:Zj P .rem u x y (.int k m) (.int k n)=Qc9 .rem k m n:=by simp only[Zj,if_true]
theorem b_sadd{a b:List UInt8}:Zj P .add u x y (.str a) (.str b)=binS .add a b:=rfl
theorem b_seql{a b:List UInt8}:Zj P .eql u x y (.str a) (.str b)=some (.bool (a==b)):=rfl
theorem b_sneq{a b:List UInt8}:Zj P .neq u x y (.str a) (.str b)=some (.bool (!(a==b))):=rfl
theorem oc_int:Z3 (.int k n)= .int k n:=rfl
theorem Zcz{b:Bool}:Z3 (.bool b)= .bool b:=rfl
theorem oc_str{s:ByteArray}:Z3 (.string s)= .str s.data.toList:=rfl
theorem Qw5:Z3 (.slice none 0 0)= .nS:=rfl
theorem Q4y:Z3 (.pointer none)= .nP:=rfl
theorem Q4t:Z3 (.map none)= .nM:=rfl
theorem Q1w:Z3 .nilFunc= .nF:=rfl
theorem Q2g:Z3 .nilIface= .nI:=rfl
theorem Qfb{d:TypeDesc}{q:Nat}(h:P.underlying u=some d)(hs:sz P u=some q)(ha:Qn8 d=false)(cs:List V)(o:Nat):Qr P u cs o=cs[o]?:=by simp only[Qr,h,hs,ha,Zpo,if_false]
theorem ia_of{e:TypeId}{q:Nat}(h:P.underlying u=some (.slice e))(hs:sz P e=some q)(cs:List V)(len:Nat)(full:Bool):
 Qu P u (.iS cs len full) (.int k n)=if 0<=n/\n<len/\cs.length=len*q/\0<q then some (.iptr cs (n.toNat*q)) else none:=by
 simp only[Qu,h,hs]
theorem Qio{e:TypeId}(h:P.underlying u=some (.slice e))(cs:List V)(len:Nat)(full:Bool):B0 P g u (.iS cs len full)=some (.int .i64 len):=by simp only[B0,h]
theorem Q1g{e:TypeId}(h:P.underlying u=some (.slice e)):B0 P g u .nS=some (.int .i64 0):=by simp only[B0,h]
theorem ln_str(h:P.underlying u=some .string)(s:List UInt8):B0 P g u (.str s)=some (.int .i64 s.length):=by simp only[B0,h]
theorem bi_len{ts:List TypeId}{d:Option Nat}{v:V}:builtinV P mt fr g d .len (u::ts).toArray [v]=(B0 P g u v).map fun v=> .val v none:=rfl
theorem bi_max{ts:Array TypeId}{d:Option Nat}{v:V}{l:List V}:builtinV P mt fr g d .max ts (v::l)=(Qit true v l).map fun v=> .val v none:=by cases l<;>rfl
theorem bi_min{ts:Array TypeId}{d:Option Nat}{v:V}{l:List V}:builtinV P mt fr g d .min ts (v::l)=(Qit false v l).map fun v=> .val v none:=by cases l<;>rfl
theorem mx_nil{v:V}{b:Bool}:Qit b v []=some v:=rfl
theorem mx_one{b:Bool}{l:List V}:Qit b (.int k m) (.int k n::l)=Qit b (.int k (if b then(if n>m then n else m) else(if n<m then n else m))) l:=rfl
theorem Qtk:∀(v:V),v.refs (fun _ _=>false)=false:=by intro v;refine V.rec (motive_1:=fun v=>v.refs (fun _ _=>false)=false) (motive_2:=fun l=>Qh (fun _ _=>false) l=false) ?_ ?_ ?_ ?_ ?_ ?_ ?_ ?_ ?_ ?_ ?_ ?_ ?_ ?_ ?_ ?_ ?_ ?_ ?_ ?_ ?_ ?_ ?_ ?_ v<;>intros<;>simp_all[V.refs,Qh]
end
theorem Qj5:∀(l:List V),Qh (fun _ _=>false) l=false
 |[]=>rfl
 |x::l=>by simp[Qh,Qtk x,Qj5 l]
theorem Qqk:∀(l:List (V×V)),Qhn (fun _ _=>false) l=false
 |[]=>rfl
 |(a,b)::l=>by simp[Qhn,Qtk,Qqk l]
theorem Q0x(o:O):o.refs (fun _ _=>false)=false:=by
 cases o with
 |iter m a b c=>cases m<;>rfl
 |_=>simp[O.refs,Qj5,Qqk]
theorem Qn4:∀(f:Frame),Q0 (fun _ _=>false) f=true
 |[]=>rfl
 |(a,o)::r=>by simp[Q0,Q0x,Qn4 r]
theorem Qm8:∀(H:Heap),Zb (fun _ _=>false) H=true
 |[]=>rfl
 |f::r=>by simp[Zb,Qn4,Qm8 r]
theorem Qtl:∀(f:Frame),Jk (fun _=>false) f=f
 |[]=>rfl
 |(a,o)::r=>by simp[Jk,Qtl r]
theorem Qng{α:Type}(f:α->α)(h:∀x,f x=x):∀(l:List α) (i:Nat),l.modify i f=l
 |[],i=>by simp
 |x::l,0=>by simp[h]
 |x::l,i+1=>by simp[Qng f h l i]
theorem Jl{pol:Pol}{fn fr r:Nat}{kt:List Nat}{t:List V}{H:Heap}(h:pol.keep fn r=some (kt,[]))(hm:pol.move fn r=none:=by rfl):forget pol fn fr r t H=some (Jj kt t 0,H):=by
 have e:(fun f s:Nat=>f==fr&&([]:List Nat).contains s)=fun _ _=>false:=by funext f s;simp
 have e2:(fun s:Nat=>([]:List Nat).contains s)=fun _=>false:=by funext s;simp
 unfold forget forgetK;rw[h];simp only[e,e2];rw[Qj5,Qng _ Qtl,Qm8];simp only[Zpo,if_false,if_true,hm]
theorem Zq{pol:Pol}{fn fr r:Nat}{kt ds:List Nat}{t:List V}{H:Heap}(hk:pol.keep fn r=some (kt,ds))(h1:Qh (fun f s=>f==fr&&ds.contains s) (Jj kt t 0)=false)(h2:Zb (fun f s=>f==fr&&ds.contains s) (H.modify fr (Jk fun s=>ds.contains s))=true)(hm:pol.move fn r=none:=by rfl):
 forget pol fn fr r t H=some (Jj kt t 0,H.modify fr (Jk fun s=>ds.contains s)):=by
 simp only[forget,forgetK,hk,h1,h2,if_true,Zpo,if_false,hm]
section
variable {P : Program} {pol : Pol} {C : Call} {L : Kc -> Kv} {fn fr : Nat} {t : List V} {H : Heap}
theorem Q7u{b:Code}{t1:List V}{H1:Heap}(hn:Zt b=none)(h:forget pol fn fr (Zn b) t H=some (t1,H1)):round P pol C L fn fr b t H=[U P pol C L fn fr [.code b] .normal t1 H1]:=by simp only[round,h,hn];rw[Qwj]
def Qov(P:Program)(F:Func)(b:Nat):Out->Option (Rt×Heap)
 |some (.normal,t,H)|some (.ret,t,H)=>(match Qa5 P F t H with
  |some v=>some (.ret v,Bs b v H)
  |none=>none)
 |some (.panic v,_,H)=>some (.pan v,Bs b v H)
 |_=>none
theorem Q7d{f:FuncId}{F:Func}{c:Code}{args:List V}{r:Rt×Heap}(hF:P.funcs[f]?=some F)(hc:F.body=some c)
 (h:Qov P F H.length (Qed (pol.settle f) (U P pol (Qq P pol) Z1 f H.length [.code c] .normal (args++List.replicate (F.ntmps-args.length) .bad) (H++[[]])))=some r):Qq P pol f args H=some r:=by
 refine Q9p ?_;show Qbi P pol (Qq P pol) Z1 f args H=some r;unfold Qbi;rw[hF];simp only[hc,Qwj];rw[<-h];rfl
theorem Zc2{f:FuncId}{F:Func}{c:Code}{args:List V}{r:Rt×Heap}(hF:P.funcs[f]?=some F)(hc:F.body=some c)
 (h:Qov P F H.length (U P pol (Qq P pol) Z1 f H.length [.code c] .normal (args++List.replicate (F.ntmps-args.length) .bad) (H++[[]]))=some r)(hs:pol.settle f=[]:=by rfl):Qq P pol f args H=some r:=
 Q7d hF hc (by rw[hs,Qyb];exact h)
theorem Q2o{g:Get}{cs:List V}{n:Nat}{b:Bool}:frz g depth (.iS cs n b)=some (.iS cs n b):=rfl
theorem Qwi{g:Get}:frz g depth .nS=some .nS:=rfl
theorem Zcy{g:Get}{k:IntKind}{n:Int}:frz g depth (.int k n)=some (.int k n):=rfl
theorem Q8f{g:Get}{b:Bool}:frz g depth (.bool b)=some (.bool b):=rfl
theorem Zdy{g:Get}{s:List UInt8}:frz g depth (.str s)=some (.str s):=rfl
theorem Qa{f:V->Option V}{x y:V}{l m:List V}(h:f x=some y)(h2:Qx f l=some m):Qx f (x::l)=some (y::m):=by simp only[Qx,h,h2]
theorem Qns{dst:Option Nat}{f:FuncId}{args args' :List V}{v v' :V}{H' :Heap}(hp:pol.prim f=none)(hq:pol.pure fn f=true)(ha:Qx (frz (fun _ _=>none) depth) args=some args')
 (h:C f args' []=some (.ret v,H'))(hv:frz (Qd H') depth v=some v'):callOp pol C fn fr dst f args H=some (.ret v',H):=by
 simp only[callOp,hp,hq,if_true,ha,h,hv,Zpl]
end
section
variable {P : Program} {pol : Pol} {C : Call} {L : Kc -> Kv} {fn fr : Nat} {t : List V} {H : Heap} {k : List It} {r : List Oper} {d : Option Nat} {ty : TypeId} {ps : String} {af : Array Edge} {x y : Operand}
def gd(a:Array Oper)(t:List V)(j:Nat):Option V:=((a[j]?).bind (·.dst)).bind (t[·]?)
end
end Go.AM
end
