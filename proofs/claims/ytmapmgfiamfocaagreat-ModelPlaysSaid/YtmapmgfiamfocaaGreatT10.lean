/- This file holds in one the texts An23, An24, An25, An26, An27, An28; each says at its head what it proves. -/
import Derived.Test.YtmapmgfiamfocaaGreatT9
import Derived.Lib.BytesEntry
import Derived.Lib.MakeNoZero
import Derived.ProofKit
import Derived.OpenShut
set_option linter.unusedSimpArgs false
set_option linter.unusedVariables false
section
namespace Go.AM
def BLe(b b' :Qas):Prop:=∀t H r,b t H=some r->b' t H=some r
def CLe(C C' :Call):Prop:=∀f a H r,C f a H=some r->C' f a H=some r
inductive Qs1{α β:Type}(R:α->β->Prop):List α->List β->Prop where
 |nil:Qs1 R [] []
 |cons {x y l m}:R x y->Qs1 R l m->Qs1 R (x::l) (y::m)
def OLe(x y:Out):Prop:=∀r,x=some r->y=some r
def MLe(b b' :Yu):Prop:=∀t H,Qs1 OLe (b t H) (b' t H)
def LLe(L L' :Yu->Qas):Prop:=∀b b',MLe b b' ->BLe (L b) (L' b')
theorem OLe.refl(x:Out):OLe x x:=fun _ h=>h
theorem MLe.refl(b:Yu):MLe b b:=fun t H=>by
 induction b t H with
 |nil=>exact .nil
 |cons x l ih=>exact .cons (OLe.refl x) ih
theorem Qxr{l l' :List Out}(h:Qs1 OLe l l'):∀y∈l',∃x∈l,OLe x y:=by
 induction h with
 |nil=>intro y hy;cases hy
 |cons h1 _ ih=>
  intro y hy;rcases Zfi.1 hy with rfl|hy
  . exact⟨_,List.mem_cons_self,h1⟩
  . obtain⟨x,hx,hxy⟩:=ih y hy;exact⟨x,Zfj _ hx,hxy⟩
theorem Qpx{l l' :List Out}(h:Qs1 OLe l l'):OLe (Qek l) (Qek l'):=by
 intro r hr;obtain⟨hne,hall⟩:=Qla.1 hr;refine Qfl ?_ fun y hy=>?_
 . rintro rfl;cases h;exact hne rfl
 . obtain⟨x,hx,hxy⟩:=Qxr h y hy;exact hxy _ (hall x hx)
theorem Qop{k k' :List V->Qg->Out}(hk:∀t H,OLe (k t H) (k' t H)){x y:Out}(h:OLe x y):OLe (after k x) (after k' y):=by
 intro r hr;unfold after at hr;split at hr
 . rename_i t H;rw[h _ rfl];exact hk t H r hr
 . rename_i hne;have hy:=h r hr;subst hr hy;unfold after;split
   . exact(hne _ _ (by assumption)).elim
   . rfl
theorem Qn8{f g:Out->Out}{l l' :List Out}(hf:∀x y,OLe x y->OLe (f x) (g y))(h:Qs1 OLe l l'):Qs1 OLe (l.map f) (l'.map g):=by
 induction h with
 |nil=>exact .nil
 |cons h1 _ ih=>exact .cons (hf _ _ h1) ih
theorem Quk{α:Type}{f g:α->Out}{l:List α}(hf:∀x,OLe (f x) (g x)):Qs1 OLe (l.map f) (l.map g):=by
 induction l with
 |nil=>exact .nil
 |cons x l ih=>exact .cons (hf x) ih
theorem Qdr{α:Type}{l:List α}{p:α->Nat->Prop}(h:∀x∈l,∃n,∀m,n<=m->p x m):∃n,∀m,n<=m->∀x∈l,p x m:=by
 induction l with
 |nil=>exact⟨0,fun _ _ _ h=>by cases h⟩
 |cons a l ih=>
  obtain⟨n,hn⟩:=h a List.mem_cons_self;obtain⟨k,hk⟩:=ih fun x hx=>h x (Zfj _ hx);refine⟨max n k,fun m hm x hx=>?_⟩;rcases Zfi.1 hx with rfl|hx
  . exact hn m (by omega)
  . exact hk m (by omega) x hx
section
variable {P : Program} {pol : Pol} {C C' : Call} {L L' : Yu -> Qas} {fn fr : Nat}
theorem Qvp(hC:CLe C C'){dst:Option Nat}{f:FuncId}{args:List V}{H:Qg}{r:Rt×Qg}(h:Zn pol C fn fr dst f args H=some r):Zn pol C' fn fr dst f args H=some r:=by
 unfold Zn at h⊢;split
 . rename_i g hg;rw[hg] at h;exact h
 . rename_i hg;rw[hg] at h;simp only at h;split
   . rename_i hp;rw[if_pos hp] at h;split
     . rename_i ys hys;rw[hys] at h;simp only at h;cases hc:C f ys [] with
       |none=>rw[hc] at h;cases h
       |some x=>rw[hc] at h;rw[hC _ _ _ _ hc];exact h
     . rename_i hys;rw[hys] at h;exact h
   . rename_i hp;rw[if_neg hp] at h;by_cases hl:pol.lift fn f=true
     . rw[if_pos hl] at h⊢;cases hys:frzL (frz (fun _ _=>none) depth) args with
       |none=>rw[hys] at h;cases h
       |some ys=>
        rw[hys] at h;simp only at h⊢;cases hc:C f ys [] with
        |none=>rw[hc] at h;cases h
        |some x=>rw[hc] at h;rw[hC _ _ _ _ hc];exact h
     . rw[if_neg hl] at h⊢;by_cases hk:pol.look fn f=true
       . rw[if_pos hk] at h⊢;cases hys:frzL (frz (Qd H) depth) args with
         |none=>rw[hys] at h;cases h
         |some ys=>
          rw[hys] at h;simp only at h⊢;cases hc:C f ys [] with
          |none=>rw[hc] at h;cases h
          |some x=>rw[hc] at h;rw[hC _ _ _ _ hc];exact h
       . rw[if_neg hk] at h⊢;cases ht:Qb0 pol fn f args with
         |none=>rw[ht] at h;cases h
         |some ys=>
          rw[ht] at h;simp only at h⊢;refine Qxf fr (fun H r h=>?_) h;have e:=Qf2 h;rw[e] at h;rw[hC _ _ _ _ e];exact h
theorem Qge(hC:CLe C C'){t:List V}{H:Qg}{o:Oper}{r:Ex×List V×Qg}(h:J5 P pol C fn fr t H o=some r):J5 P pol C' fn fr t H o=some r:=by
 unfold J5 at h⊢;cases hev:K0 P (pol.mt fn) fr (Qd H) (rho t) o with
 |none=>rw[hev] at h;cases h
 |some st=>
  rw[hev] at h;cases st with
  |val v w=>exact h
  |panic v=>exact h
  |call f args=>
   simp only at h⊢;cases hc:Zn pol C fn fr o.dst f args H with
   |none=>rw[hc] at h;cases h
   |some x=>rw[hc] at h;rw[Qvp hC hc];exact h
  |round f s args=>
   simp only at h⊢;cases hc:C none (.yield f s::args) H with
   |none=>rw[hc] at h;cases h
   |some x=>rw[hc] at h;rw[hC _ _ _ _ hc];exact h
theorem Qc7(hC:CLe C C'){ops:Array Oper}:∀(l:List Oper) (t:List V) (H:Qg) (r:Ex×List V×Qg),Yr P pol C fn fr ops l t H=some r->Yr P pol C' fn fr ops l t H=some r
 |[],_,_,_,h=>h
 |o::l,t,H,r,h=>by
  simp only[Yr] at h⊢;split
  . rename_i hw;rw[hw] at h;cases h
  . rename_i hw;rw[hw] at h;exact Qc7 hC l _ _ _ h
  . rename_i hw;rw[hw] at h;simp only at h;cases hop:J5 P pol C fn fr t H o with
    |none=>rw[hop] at h;cases h
    |some x=>
     rw[hop] at h;rw[Qge hC hop];obtain⟨e,t1,H1⟩:=x;cases e with
     |normal=>exact Qc7 hC l _ _ _ h
     |exit i=>exact h
     |ret=>exact h
     |panic v=>exact h
theorem Qdw(hC:CLe C C'){ops:Array Oper}:∀(l:List Oper) (t:List V) (H:Qg) (r:List V×Qg×List FP),Jc P pol C fn fr ops l t H=some r->Jc P pol C' fn fr ops l t H=some r
 |[],_,_,_,h=>h
 |o::l,t,H,r,h=>by
  simp only[Jc] at h⊢;split
  . rename_i hw;rw[hw] at h;cases h
  . rename_i hw;rw[hw] at h;simp only at h;cases hr:Jc P pol C fn fr ops l (Z5 t o.dst nov) H with
    |none=>rw[hr] at h;cases h
    |some x=>rw[hr] at h;rw[Qdw hC l _ _ _ hr];exact h
  . rename_i hw;rw[hw] at h;simp only at h;cases hop:J5 P pol C fn fr t H o with
    |none=>rw[hop] at h;cases h
    |some x=>
     rw[hop] at h;rw[Qge hC hop];obtain⟨e,t1,H1⟩:=x;cases e with
     |normal=>
      simp only at h⊢;cases hr:Jc P pol C fn fr ops l t1 H1 with
      |none=>rw[hr] at h;cases h
      |some y=>rw[hr] at h;rw[Qdw hC l _ _ _ hr];exact h
     |exit i=>exact h
     |ret=>exact h
     |panic v=>exact h
theorem Qn2(hC:CLe C C')(hL:LLe L L'):∀c:Code,BLe (Jh P pol C L fn fr c) (Jh P pol C' L' fn fr c)/\∀v w,BLe (J7 P pol C L fn fr c v w) (J7 P pol C' L' fn fr c v w):=by
 intro c;have no:∀{c:Code},(∀v w t H,J7 P pol C L fn fr c v w t H=none)->∀v w,BLe (J7 P pol C L fn fr c v w) (J7 P pol C' L' fn fr c v w):=fun h v w t H r hr=>by rw[h] at hr;cases hr
 induction c with
 |skip=>exact⟨fun _ _ _ h=>h,no fun _ _ _ _=>rfl⟩
 |region id ops draw=>
  refine⟨fun t H r h=>?_,fun v w t H r h=>?_⟩
  . cases draw with
    |true=>
     simp only[Jh,if_true] at h⊢;cases hr:Jc P pol C fn fr ops ops.toList t H with
     |none=>rw[hr] at h;cases h
     |some x=>rw[hr] at h;rw[Qdw hC _ _ _ _ hr];exact h
    |false=>
     simp only[Jh,Ze7,if_false] at h⊢;exact Qc7 hC _ _ _ _ h
  . simp only[J7] at h⊢;split
    . rename_i o l ho;rw[ho] at h;exact Qc7 hC _ _ _ _ h
    . rename_i ho;rw[ho] at h;cases h
 |seq a b iha ihb=>
  refine⟨fun t H r h=>?_,fun v w t H r h=>?_⟩
  . simp only[Jh] at h⊢;cases hx:Jh P pol C L fn fr a t H with
    |none=>rw[hx] at h;cases h
    |some x=>
     rw[hx] at h;rw[iha.1 _ _ _ hx];obtain⟨e,t1,H1⟩:=x;cases e with
     |normal=>exact ihb.1 _ _ _ h
     |exit i=>exact h
     |ret=>exact h
     |panic v=>exact h
  . simp only[J7] at h⊢;cases hx:J7 P pol C L fn fr a v w t H with
    |none=>rw[hx] at h;cases h
    |some x=>
     rw[hx] at h;rw[iha.2 v w _ _ _ hx];obtain⟨e,t1,H1⟩:=x;cases e with
     |normal=>exact ihb.1 _ _ _ h
     |exit i=>exact h
     |ret=>exact h
     |panic v=>exact h
 |cond c x y ihx ihy=>
  refine⟨fun t H r h=>?_,no fun _ _ _ _=>rfl⟩;simp only[Jh] at h⊢;cases hc:rho t c with
  |bool b=>
   rw[hc] at h;cases b with
   |true=>exact ihx.1 _ _ _ h
   |false=>exact ihy.1 _ _ _ h
  |_=>rw[hc] at h;cases h
 |block id b ih=>
  refine⟨fun t H r h=>?_,no fun _ _ _ _=>rfl⟩;simp only[Jh] at h⊢;cases hx:Jh P pol C L fn fr b t H with
  |none=>rw[hx] at h;cases h
  |some x=>rw[hx] at h;rw[ih.1 _ _ _ hx];exact h
 |loop b ih=>
  refine⟨fun t H r h=>?_,no fun _ _ _ _=>rfl⟩;simp only[Jh] at h⊢;refine hL _ _ ?_ _ _ _ h;intro t H;simp only;split
  . split
    . exact .cons (fun r h=>ih.1 _ _ _ h) .nil
    . split
      . exact Quk fun c r h=>ih.2 c.1 c.2 _ _ _ h
      . exact .cons (OLe.refl _) .nil
  . exact .cons (OLe.refl _) .nil
 |rangeFunc g ps a b iha ihb=>
  refine⟨fun t H r h=>?_,no fun _ _ _ _=>rfl⟩;simp only[Jh] at h⊢;split at h
  case h_2=>cases h
  rename_i f first cap hg
  split at h
  case h_2=>cases h
  rename_i hn;split at h
  case h_2=>cases h
  rename_i v H2 hc;rw[hC _ _ _ _ hc];exact h
 |_=>exact⟨fun _ _ _ h=>h,no fun _ _ _ _=>rfl⟩
theorem Qh3(hC:CLe C C')(hL:LLe L L')(c:Code):BLe (Jh P pol C L fn fr c) (Jh P pol C' L' fn fr c):=(Qn2 hC hL c).1
theorem Qyz(hC:CLe C C')(hL:LLe L L'):∀f args H r,Qhc P pol C L f args H=some r->Qhc P pol C' L' f args H=some r:=by
 intro f args H r h;unfold Qhc at h⊢;cases hF:P.funcs[f]? with
 |none=>rw[hF] at h;cases h
 |some F=>
  rw[hF] at h;simp only at h⊢;cases hb:F.body with
  |none=>rw[hb] at h;cases h
  |some c=>
   rw[hb] at h;simp only at h⊢;cases hx:Jh P pol C L f H.length c (args++List.replicate (F.ntmps-args.length) .bad) (H++[[]]) with
   |none=>rw[hx] at h;cases h
   |some x=>rw[hx] at h;rw[Qh3 hC hL c _ _ _ hx];exact h
theorem Qxv(hC:CLe C C')(hL:LLe L L'):∀fo so args H r,Qmm P pol C L fo so args H=some r->Qmm P pol C' L' fo so args H=some r:=by
 intro fo so args H r h;unfold Qmm at h⊢;split at h
 case h_2=>cases h
 rename_i pend fL rid t0 hg;split at h
 case h_2=>cases h
 rename_i ps a b hl;split at h
 case isFalse=>cases h
 rename_i hlen;rw[if_pos hlen];split at h
 case h_2=>cases h
 rename_i t1 H1 hx1;rw[Qh3 hC hL _ _ _ _ hx1];simp only;split at h
 case h_2=>cases h
 rename_i pend1 fL1 rid1 t01 hg1;split at h
 case h_2=>cases h
 rename_i e t2 H2 hx2;rw[Qh3 hC hL _ _ _ _ hx2];exact h
theorem Qw7(hC:CLe C C')(hL:LLe L L'):CLe (Qiw P pol C L) (Qiw P pol C' L'):=by
 intro f args H r h;cases f with
 |some f=>exact Qyz hC hL f args H r h
 |none=>
  simp only[Qiw] at h⊢;split at h
  . exact Qxv hC hL _ _ _ _ _ h
  . cases h
theorem Qbo{b b' :Yu}(hb:MLe b b'):∀(n m:Nat),n<=m->BLe (Kp b n) (Kp b' m)
 |0,_,_=>fun _ _ _ h=>by cases h
 |n+1,0,hm=>by omega
 |n+1,m+1,hm=>by
  intro t H r h;simp only[Kp] at h⊢;exact Qpx (Qn8 (fun x y hxy=>Qop (fun t H r h=>Qbo hb n m (by omega) t H r h) hxy) (hb t H)) r h
theorem Bv:∀(n m:Nat),n<=m->CLe (Xa P pol n) (Xa P pol m)
 |0,_,_=>fun _ _ _ _ h=>by cases h
 |n+1,0,hm=>by omega
 |n+1,m+1,hm=>Qw7 (Bv n m (by omega)) fun b b' hb=>Qbo hb n m (by omega)
end
open Classical in
noncomputable def lim{α:Type}(f:Nat->Option α):Option α:=if h:∃r n,f n=some r then some h.choose else none
theorem Quc{α:Type}{f:Nat->Option α}{r:α}(hm:∀n m a,n<=m->f n=some a->f m=some a):lim f=some r↔∃n,f n=some r:=by
 unfold lim;constructor
 . intro h;split at h
   . rename_i hx;cases h;exact hx.choose_spec
   . cases h
 . rintro⟨n,hn⟩;have hx:∃r n,f n=some r:=⟨r,n,hn⟩;rw[dif_pos hx];obtain⟨k,hk⟩:=hx.choose_spec;have h1:=hm _ (max n k) _ (Zfk _ _) hn;have h2:=hm _ (max n k) _ (Zfl _ _) hk;rw[h1] at h2;exact congrArg some (Option.some.inj h2).symm
noncomputable def Yc(b:Yu):Qas:=fun t H=>lim fun n=>Kp b n t H
noncomputable def Zx(P:Program)(pol:Pol):Call:=fun f args H=>lim fun n=>Xa P pol n f args H
theorem Qf3{b:Yu}{t:List V}{H:Qg}{r:Ex×List V×Qg}:Yc b t H=some r↔∃n,Kp b n t H=some r:=
 Quc fun n m _ hn h=>Qbo (MLe.refl b) n m hn _ _ _ h
theorem Quz(b:Yu)(t:List V)(H:Qg):Yc b t H=Qek ((b t H).map (after (Yc b))):=by
 have hiff:∀r,Yc b t H=some r↔Qek ((b t H).map (after (Yc b)))=some r:=by
  intro r;rw[Qf3];constructor
  . rintro⟨n,hn⟩;cases n with
    |zero=>cases hn
    |succ n=>
     simp only[Kp] at hn;exact Qpx (Qn8 (fun x y hxy=>Qop (fun t H r h=>Qf3.2 ⟨n,h⟩) hxy) (MLe.refl b t H)) r hn
  . intro h;obtain⟨hne,hall⟩:=Qla.1 h;have:∀x∈b t H,∃n,∀m,n<=m->after (Kp b m) x=some r:=by
     intro x hx;have h1:=hall _ (Zfm.2 ⟨x,hx,rfl⟩);unfold after at h1;split at h1
     . rename_i t1 H1;obtain⟨n,hn⟩:=Qf3.1 h1;exact⟨n,fun m hm=>Qbo (MLe.refl b) n m hm _ _ _ hn⟩
     . rename_i hne1;refine⟨0,fun m _=>?_⟩;unfold after;split
       . exact absurd rfl (hne1 _ _)
       . exact h1
    obtain⟨n,hn⟩:=Qdr this;refine⟨n+1,?_⟩;simp only[Kp];refine Qfl (by simpa using hne) fun y hy=>?_;obtain⟨x,hx,rfl⟩:=Zfm.1 hy;exact hn n (Ze8 n) x hx
 cases h1:Yc b t H with
 |some r=>exact((hiff r).1 h1).symm
 |none=>
  cases h2:Qek ((b t H).map (after (Yc b))) with
  |none=>rfl
  |some r=>rw[(hiff r).2 h2] at h1;cases h1
theorem Q2l{b:Yu}{t:List V}{H:Qg}{x:Out}(h:b t H=[x]):Yc b t H=after (Yc b) x:=by rw[Quz,h];rfl
section
variable {P : Program} {pol : Pol} {fn fr : Nat}
theorem Xl{f:Option FuncId}{args:List V}{H:Qg}{r:Rt×Qg}:Zx P pol f args H=some r↔∃n,Xa P pol n f args H=some r:=
 Quc fun n m _ hn h=>Bv n m hn _ _ _ _ h
theorem Qzp(n:Nat):CLe (Xa P pol n) (Zx P pol):=fun _ _ _ _ h=>Xl.2 ⟨n,h⟩
theorem Qu8(ok:Qe2 P pol):Qb8 P (Zx P pol):=by
 refine⟨fun f args H r H' h=>?_,fun fo so rest H r H' h=>?_⟩
 . obtain⟨n,hn⟩:=Xl.1 h;exact(Qgz ok n).1 f args H r H' hn
 . obtain⟨n,hn⟩:=Xl.1 h;exact(Qgz ok n).2 fo so rest H r H' hn
theorem Qul{dst:Option Nat}{f:FuncId}{args:List V}{H:Qg}{r:Rt×Qg}(h:Zn pol (Zx P pol) fn fr dst f args H=some r):∃n,Zn pol (Xa P pol n) fn fr dst f args H=some r:=by
 unfold Zn at h;split at h
 . rename_i g hg;exact⟨0,by simp only[Zn,hg];exact h⟩
 . rename_i hg;split at h
   . rename_i hp;split at h
     . rename_i ys hys;cases hc:Zx P pol f ys [] with
       |none=>rw[hc] at h;cases h
       |some x=>
        obtain⟨n,hn⟩:=Xl.1 hc;rw[hc] at h;exact⟨n,by simp only[Zn,hg,hp,if_true,hys,hn];exact h⟩
     . cases h
   . rename_i hp;by_cases hl:pol.lift fn f=true
     . rw[if_pos hl] at h;cases hys:frzL (frz (fun _ _=>none) depth) args with
       |none=>rw[hys] at h;cases h
       |some ys=>
        rw[hys] at h;simp only at h;cases hc:Zx P pol f ys [] with
        |none=>rw[hc] at h;cases h
        |some x=>
         obtain⟨n,hn⟩:=Xl.1 hc;rw[hc] at h;exact⟨n,by simp only[Zn,hg,hp,Ze7,if_false,hl,if_true,hys,hn];exact h⟩
     . rw[if_neg hl] at h;by_cases hk:pol.look fn f=true
       . rw[if_pos hk] at h;cases hys:frzL (frz (Qd H) depth) args with
         |none=>rw[hys] at h;cases h
         |some ys=>
          rw[hys] at h;simp only at h;cases hc:Zx P pol f ys [] with
          |none=>rw[hc] at h;cases h
          |some x=>
           obtain⟨n,hn⟩:=Xl.1 hc;rw[hc] at h;exact⟨n,by simp only[Zn,hg,hp,Ze7,if_false,hl,hk,if_true,hys,hn];exact h⟩
       . rw[if_neg hk] at h;cases ht:Qb0 pol fn f args with
         |none=>rw[ht] at h;cases h
         |some ys=>
          rw[ht] at h;simp only at h;have one:∀H r,Qgp (pol.peek fn f) H (Zx P pol f ys H)=some r->∃n,∀m,n<=m->Qgp (pol.peek fn f) H (Xa P pol m f ys H)=some r:=fun H r h=>by have e:=Qf2 h;rw[e] at h;obtain⟨n,hn⟩:=Xl.1 e;exact⟨n,fun m hm=>by rw[Bv n m hm _ _ _ _ hn];exact h⟩
          have all:∃n,Qgo fr (pol.side fn f) (pol.news fn) (fun H=>Qgp (pol.peek fn f) H (Xa P pol n f ys H)) H=some r:=by
           cases hs:pol.side fn f with
           |none=>
            rw[hs] at h;obtain⟨n,hn⟩:=one _ _ h;exact⟨n,hn n (Ze8 _)⟩
           |some y=>
            obtain⟨ks,x⟩:=y;rw[hs] at h;obtain⟨v,h1,h2,h3,h4⟩:=Qhz fr h;obtain⟨q,H1⟩:=r;simp only at h1 h3 h4;subst h1;obtain⟨n,hn⟩:=one _ _ h2;cases x with
            |none=>exact⟨n,Qfh fr (hn n (Ze8 _)) h3 (fun d hd=>by cases hd)⟩
            |some d=>
             obtain⟨g1,g2⟩:=Qlb fr h4;cases hg0:Qd H fr d with
             |some o=>
              refine⟨n,Qfh fr (hn n (Ze8 _)) h3 (fun d' hd=>?_)⟩;cases hd;exact⟨g1,fun cs h8=>by rw[hg0] at h8;cases h8⟩
             |none=>
              cases hc0:pol.news fn d with
              |none=>
               refine⟨n,Qfh fr (hn n (Ze8 _)) h3 (fun d' hd=>?_)⟩;cases hd;exact⟨g1,fun cs _ h8=>by rw[hc0] at h8;cases h8⟩
              |some cs=>
               obtain⟨m,hm⟩:=one _ _ (g2 cs hg0 hc0);refine⟨max n m,Qfh fr (hn _ (Zfk _ _)) h3 (fun d' hd=>?_)⟩;cases hd;refine⟨g1,fun cs' _ h8=>?_⟩;rw[hc0] at h8;cases h8;exact hm _ (Zfl _ _)
          obtain⟨n,hn⟩:=all;exact⟨n,by simp only[Zn,hg,hp,Ze7,if_false,hl,hk,ht];exact hn⟩
theorem Qot{t:List V}{H:Qg}{o:Oper}{r:Ex×List V×Qg}(h:J5 P pol (Zx P pol) fn fr t H o=some r):∃n,J5 P pol (Xa P pol n) fn fr t H o=some r:=by
 unfold J5 at h;cases hev:K0 P (pol.mt fn) fr (Qd H) (rho t) o with
 |none=>rw[hev] at h;cases h
 |some st=>
  rw[hev] at h;cases st with
  |val v w=>exact⟨0,by simp only[J5,hev];exact h⟩
  |panic v=>exact⟨0,by simp only[J5,hev];exact h⟩
  |call f args=>
   simp only at h;cases hc:Zn pol (Zx P pol) fn fr o.dst f args H with
   |none=>rw[hc] at h;cases h
   |some x=>
    obtain⟨n,hn⟩:=Qul hc;rw[hc] at h;exact⟨n,by simp only[J5,hev,hn];exact h⟩
  |round f s args=>
   simp only at h;cases hc:Zx P pol none (.yield f s::args) H with
   |none=>rw[hc] at h;cases h
   |some x=>
    obtain⟨n,hn⟩:=Xl.1 hc;rw[hc] at h;exact⟨n,by simp only[J5,hev,hn];exact h⟩
theorem Qet{ops:Array Oper}:∀(l:List Oper) (t:List V) (H:Qg) (r:Ex×List V×Qg),Yr P pol (Zx P pol) fn fr ops l t H=some r->∃n,Yr P pol (Xa P pol n) fn fr ops l t H=some r
 |[],_,_,_,h=>⟨0,h⟩
 |o::l,t,H,r,h=>by
  simp only[Yr] at h;split at h
  . cases h
  . rename_i hw;obtain⟨n,hn⟩:=Qet l _ _ _ h;exact⟨n,by simp only[Yr,hw];exact hn⟩
  . rename_i hw;cases hop:J5 P pol (Zx P pol) fn fr t H o with
    |none=>rw[hop] at h;cases h
    |some x=>
     rw[hop] at h;obtain⟨n,hn⟩:=Qot hop;obtain⟨e,t1,H1⟩:=x;cases e with
     |normal=>
      simp only at h;obtain⟨m,hm⟩:=Qet l _ _ _ h;refine⟨max n m,?_⟩;simp only[Yr,hw];rw[Qge (Bv n (max n m) (Zfk _ _)) hn];exact Qc7 (Bv m (max n m) (Zfl _ _)) l _ _ _ hm
     |exit i=>exact⟨n,by simp only[Yr,hw,hn];exact h⟩
     |ret=>exact⟨n,by simp only[Yr,hw,hn];exact h⟩
     |panic v=>exact⟨n,by simp only[Yr,hw,hn];exact h⟩
theorem Qfr{ops:Array Oper}:∀(l:List Oper) (t:List V) (H:Qg) (r:List V×Qg×List FP),Jc P pol (Zx P pol) fn fr ops l t H=some r->∃n,Jc P pol (Xa P pol n) fn fr ops l t H=some r
 |[],_,_,_,h=>⟨0,h⟩
 |o::l,t,H,r,h=>by
  simp only[Jc] at h;split at h
  . cases h
  . rename_i hw;cases hr:Jc P pol (Zx P pol) fn fr ops l (Z5 t o.dst nov) H with
    |none=>rw[hr] at h;cases h
    |some x=>
     rw[hr] at h;obtain⟨n,hn⟩:=Qfr l _ _ _ hr;exact⟨n,by simp only[Jc,hw,hn];exact h⟩
  . rename_i hw;cases hop:J5 P pol (Zx P pol) fn fr t H o with
    |none=>rw[hop] at h;cases h
    |some x=>
     rw[hop] at h;obtain⟨n,hn⟩:=Qot hop;obtain⟨e,t1,H1⟩:=x;cases e with
     |normal=>
      simp only at h;cases hr:Jc P pol (Zx P pol) fn fr ops l t1 H1 with
      |none=>rw[hr] at h;cases h
      |some y=>
       rw[hr] at h;obtain⟨m,hm⟩:=Qfr l _ _ _ hr;refine⟨max n m,?_⟩;simp only[Jc,hw];rw[Qge (Bv n (max n m) (Zfk _ _)) hn];simp only;rw[Qdw (Bv m (max n m) (Zfl _ _)) l _ _ _ hm];exact h
     |exit i=>cases h
     |ret=>cases h
     |panic v=>cases h
theorem Qym:∀(c:Code),(∀(t:List V) (H:Qg) (r:Ex×List V×Qg),Jh P pol (Zx P pol) Yc fn fr c t H=some r->
 ∃n,Jh P pol (Xa P pol n) (fun b=>Kp b n) fn fr c t H=some r)/\
 ∀v w (t:List V) (H:Qg) (r:Ex×List V×Qg),J7 P pol (Zx P pol) Yc fn fr c v w t H=some r->∃n,J7 P pol (Xa P pol n) (fun b=>Kp b n) fn fr c v w t H=some r:=by
 have up:∀(c:Code) (n m:Nat),n<=m->BLe (Jh P pol (Xa P pol n) (fun b=>Kp b n) fn fr c) (Jh P pol (Xa P pol m) (fun b=>Kp b m) fn fr c):=
  fun c n m hn=>Qh3 (Bv n m hn) (fun b b' hb=>Qbo hb n m hn) c
 have upF:∀(c:Code) (n m:Nat) v w,n<=m->BLe (J7 P pol (Xa P pol n) (fun b=>Kp b n) fn fr c v w) (J7 P pol (Xa P pol m) (fun b=>Kp b m) fn fr c v w):=
  fun c n m v w hn=>(Qn2 (Bv n m hn) (fun b b' hb=>Qbo hb n m hn) c).2 v w
 have no:∀{c:Code},(∀v w t H,J7 P pol (Zx P pol) Yc fn fr c v w t H=none)->∀v w (t:List V) (H:Qg) (r:Ex×List V×Qg),J7 P pol (Zx P pol) Yc fn fr c v w t H=some r->
  ∃n,J7 P pol (Xa P pol n) (fun b=>Kp b n) fn fr c v w t H=some r:=fun h v w t H r hr=>by rw[h] at hr;cases hr
 intro c
 induction c with
 |skip=>exact⟨fun _ _ _ h=>⟨0,h⟩,no fun _ _ _ _=>rfl⟩
 |region id ops draw=>
  refine⟨fun t H r h=>?_,fun v w t H r h=>?_⟩
  . cases draw with
    |true=>
     simp only[Jh,if_true] at h⊢;cases hr:Jc P pol (Zx P pol) fn fr ops ops.toList t H with
     |none=>rw[hr] at h;cases h
     |some x=>
      rw[hr] at h;obtain⟨n,hn⟩:=Qfr _ _ _ _ hr;exact⟨n,by rw[hn];exact h⟩
    |false=>
     simp only[Jh,Ze7,if_false] at h⊢;exact Qet _ _ _ _ h
  . simp only[J7] at h⊢;cases ho:ops.toList with
    |nil=>rw[ho] at h;cases h
    |cons o l=>rw[ho] at h;exact Qet _ _ _ _ h
 |seq a b iha ihb=>
  refine⟨fun t H r h=>?_,fun v w t H r h=>?_⟩
  . simp only[Jh] at h⊢;cases hx:Jh P pol (Zx P pol) Yc fn fr a t H with
    |none=>rw[hx] at h;cases h
    |some x=>
     rw[hx] at h;obtain⟨n,hn⟩:=iha.1 _ _ _ hx;obtain⟨e,t1,H1⟩:=x;cases e with
     |normal=>
      obtain⟨m,hm⟩:=ihb.1 _ _ _ h;refine⟨max n m,?_⟩;rw[up a n (max n m) (Zfk _ _) _ _ _ hn];exact up b m (max n m) (Zfl _ _) _ _ _ hm
     |exit i=>exact⟨n,by rw[hn];exact h⟩
     |ret=>exact⟨n,by rw[hn];exact h⟩
     |panic v=>exact⟨n,by rw[hn];exact h⟩
  . simp only[J7] at h⊢;cases hx:J7 P pol (Zx P pol) Yc fn fr a v w t H with
    |none=>rw[hx] at h;cases h
    |some x=>
     rw[hx] at h;obtain⟨n,hn⟩:=iha.2 v w _ _ _ hx;obtain⟨e,t1,H1⟩:=x;cases e with
     |normal=>
      obtain⟨m,hm⟩:=ihb.1 _ _ _ h;refine⟨max n m,?_⟩;rw[upF a n (max n m) v w (Zfk _ _) _ _ _ hn];exact up b m (max n m) (Zfl _ _) _ _ _ hm
     |exit i=>exact⟨n,by rw[hn];exact h⟩
     |ret=>exact⟨n,by rw[hn];exact h⟩
     |panic v=>exact⟨n,by rw[hn];exact h⟩
 |cond c x y ihx ihy=>
  refine⟨fun t H r h=>?_,no fun _ _ _ _=>rfl⟩;simp only[Jh] at h⊢;cases hc:rho t c with
  |bool b=>
   rw[hc] at h;cases b with
   |true=>exact ihx.1 _ _ _ h
   |false=>exact ihy.1 _ _ _ h
  |_=>rw[hc] at h;cases h
 |block id b ih=>
  refine⟨fun t H r h=>?_,no fun _ _ _ _=>rfl⟩;simp only[Jh] at h⊢;cases hx:Jh P pol (Zx P pol) Yc fn fr b t H with
  |none=>rw[hx] at h;cases h
  |some x=>
   rw[hx] at h;obtain⟨n,hn⟩:=ih.1 _ _ _ hx;exact⟨n,by rw[hn];exact h⟩
 |loop b ih=>
  refine⟨fun t H r h=>?_,no fun _ _ _ _=>rfl⟩;simp only[Jh] at h⊢;obtain⟨k,hk⟩:=Qf3.1 h;have:∀(k:Nat) t H r,Kp (fun t H=>match forget pol fn fr (Jl b) t H with
   |some (t,H)=>(match Ki b with
    |none=>[Jh P pol (Zx P pol) Yc fn fr b t H]
    |some x=>(match Qbh (Qd H) (rho t x) with
     |some cs=>cs.map fun c=>J7 P pol (Zx P pol) Yc fn fr b c.1 c.2 t H
     |none=>[none]))
   |none=>[none]) k t H=some r->∃n,∀m,n<=m->Kp (fun t H=>match forget pol fn fr (Jl b) t H with
   |some (t,H)=>(match Ki b with
    |none=>[Jh P pol (Xa P pol m) (fun b=>Kp b m) fn fr b t H]
    |some x=>(match Qbh (Qd H) (rho t x) with
     |some cs=>cs.map fun c=>J7 P pol (Xa P pol m) (fun b=>Kp b m) fn fr b c.1 c.2 t H
     |none=>[none]))
   |none=>[none]) k t H=some r:=by
   intro k
   induction k with
   |zero=>intro t H r h;cases h
   |succ k ihk=>
    intro t H r h;simp only[Kp] at h⊢;have one:∀(W:Out) (N:Nat->Out),(∀y,W=some y->∃n,∀m,n<=m->N m=some y)->after (Kp (fun t H=>match forget pol fn fr (Jl b) t H with
     |some (t,H)=>(match Ki b with
      |none=>[Jh P pol (Zx P pol) Yc fn fr b t H]
      |some x=>(match Qbh (Qd H) (rho t x) with
       |some cs=>cs.map fun c=>J7 P pol (Zx P pol) Yc fn fr b c.1 c.2 t H
       |none=>[none]))
     |none=>[none]) k) W=some r->∃n,∀m,n<=m->after (Kp (fun t H=>match forget pol fn fr (Jl b) t H with
     |some (t,H)=>(match Ki b with
      |none=>[Jh P pol (Xa P pol m) (fun b=>Kp b m) fn fr b t H]
      |some x=>(match Qbh (Qd H) (rho t x) with
       |some cs=>cs.map fun c=>J7 P pol (Xa P pol m) (fun b=>Kp b m) fn fr b c.1 c.2 t H
       |none=>[none]))
     |none=>[none]) k) (N m)=some r:=by
     intro W N hWN hW;cases W with
     |none=>cases hW
     |some y=>
      obtain⟨n,hn⟩:=hWN y rfl;obtain⟨e,t1,H1⟩:=y;cases e with
      |normal=>
       obtain⟨m,hm⟩:=ihk _ _ _ hW;refine⟨max n m,fun q hq=>?_⟩;rw[hn q (by omega)];exact hm q (by omega)
      |exit i=>exact⟨n,fun q hq=>by rw[hn q hq];exact hW⟩
      |ret=>exact⟨n,fun q hq=>by rw[hn q hq];exact hW⟩
      |panic v=>exact⟨n,fun q hq=>by rw[hn q hq];exact hW⟩
    cases hf:forget pol fn fr (Jl b) t H with
    |none=>rw[hf] at h;cases h
    |some x=>
     rw[hf] at h;simp only at h⊢;cases hd:Ki b with
     |none=>
      rw[hd] at h one;simp only[Zfn,Zfo,Q2d] at h⊢;exact one _ (fun m=>Jh P pol (Xa P pol m) (fun b=>Kp b m) fn fr b x.1 x.2) (fun y hy=>by
       obtain⟨n,hn⟩:=ih.1 _ _ _ hy
       exact⟨n,fun m hm=>up b n m hm _ _ _ hn⟩) h
     |some z=>
      rw[hd] at h one;simp only at h⊢;cases hc:Qbh (Qd x.2) (rho x.1 z) with
      |none=>rw[hc] at h;cases h
      |some cs=>
       rw[hc] at h;simp only[Zfp] at h⊢;obtain⟨hne,hall⟩:=Qla.1 h;obtain⟨n,hn⟩:=Qdr (l:=cs) (p:=fun c m=>after _ (J7 P pol (Xa P pol m) (fun b=>Kp b m) fn fr b c.1 c.2 x.1 x.2)=some r) (fun c hc' =>by
        exact one _ (fun m=>J7 P pol (Xa P pol m) (fun b=>Kp b m) fn fr b c.1 c.2 x.1 x.2) (fun y hy=>by
         obtain⟨n,hn⟩:=ih.2 _ _ _ _ _ hy
         exact⟨n,fun m hm=>upF b n m _ _ hm _ _ _ hn⟩) (hall _ (Zfm.2 ⟨c,hc',rfl⟩)))
       refine⟨n,fun m hm=>Qfl (by simpa using hne) fun y hy=>?_⟩;obtain⟨c,hc',rfl⟩:=Zfm.1 hy;exact hn m hm c hc'
  obtain⟨n,hn⟩:=this k t H r hk;refine⟨max n k,?_⟩;exact Qbo (MLe.refl _) k (max n k) (Zfl _ _) _ _ _ (hn (max n k) (Zfk _ _))
 |rangeFunc g ps a b iha ihb=>
  refine⟨?_,no fun _ _ _ _=>rfl⟩;intro t H r h;simp only[Jh] at h;split at h
  case h_2=>cases h
  rename_i f first cap hg
  split at h
  case h_2=>cases h
  rename_i hn;split at h
  case h_2=>cases h
  rename_i v H2 hc;obtain⟨n,hn'⟩:=Xl.1 hc;refine⟨n,?_⟩;simp only[Jh,hg,hn,hn'];exact h
 |_=>
  refine⟨?_,no fun _ _ _ _=>rfl⟩;intro t H r h;cases h<;>exact⟨0,rfl⟩
theorem Q2n(c:Code)(t:List V)(H:Qg)(r:Ex×List V×Qg)(h:Jh P pol (Zx P pol) Yc fn fr c t H=some r):
 ∃n,Jh P pol (Xa P pol n) (fun b=>Kp b n) fn fr c t H=some r:=(Qym c).1 t H r h
theorem Q50{f:FuncId}{args:List V}{H:Qg}{r:Rt×Qg}(h:Qiw P pol (Zx P pol) Yc f args H=some r):Zx P pol f args H=some r:=by
 have:∃n,Qiw P pol (Xa P pol n) (fun b=>Kp b n) f args H=some r:=by
  simp only[Qiw] at h⊢;unfold Qhc at h⊢;cases hF:P.funcs[f]? with
  |none=>rw[hF] at h;cases h
  |some F=>
   rw[hF] at h;simp only at h⊢;cases hb:F.body with
   |none=>rw[hb] at h;cases h
   |some c=>
    rw[hb] at h;simp only at h⊢;cases hx:Jh P pol (Zx P pol) Yc f H.length c (args++List.replicate (F.ntmps-args.length) .bad) (H++[[]]) with
    |none=>rw[hx] at h;cases h
    |some x=>
     rw[hx] at h;obtain⟨n,hn⟩:=Q2n c _ _ _ hx;exact⟨n,by rw[hn];exact h⟩
 obtain⟨n,hn⟩:=this;exact Xl.2 ⟨n+1,hn⟩
end
abbrev Prim:=Nat->Option Nat->Get->List V->Option (V×Option (Nat×Nat×O))
section
variable {P : Program} {E : Env} {B : Nat} {F : Nat -> Nat -> Prop} {H : Qg}
structure Qfi(P:Program)(f:FuncId)(e:Array Value->Sem Value):Prop where
 at_:∃fn,P.funcs[f]?=some fn/\(fn.name== "runtime.NumGoroutine")=false/\fn.body.isNone=true/\Extern.findNext fn=none/\Extern.find fn=some e
theorem Qfi.run{f:FuncId}{e:Array Value->Sem Value}(h:Qfi P f e){args:Array Value}{w w' :World}{v:Value}(hr:(e args).run P w= .ok v w'):
 (callFunc f args).run P w= .ok (.value v) w' :=by
 obtain⟨fn,h1,h2,h3,h4,h5⟩:=h.at_;rw[run_callFunc_extern h1 h2 h3 h4 h5,hr];rfl
theorem Qfi.plain{f:FuncId}{e:Array Value->Sem Value}(h:Qfi P f e)(S:Sim B F H E){cargs:List Value}{v:V}{c:Value}(hr:(e ⟨cargs⟩).run P E.w= .ok c E.w)(hv:Rel E v c):
 Qay P f ⟨cargs⟩ E.w (Qbq B F H E (.ret v) H):=
 .inl ⟨c,E.w,h.run hr,E,rfl,⟨c,rfl,hv⟩,S,Ext.refl _ _ _,Ze8 _⟩
end
def Qc6(R:TypeId->List V->Prop):List TypeId->List V->Prop
 |[],xs=>xs=[]
 |t::ts,xs=>∃y r,R t y/\Qc6 R ts r/\xs=y++r
def Xc(P:Program):Nat->TypeId->List V->Prop
 |0,_,_=>False
 |n+1,t,xs=>match P.underlying t with
  |some .bool=>∃b,xs=[.bool b]
  |some (.int k)=>∃m,xs=[.int k m]/\(Lit.int k m).wf=true
  |some .string=>∃s:List UInt8,xs=[.str s]/\s.length<=maxLen
  |some (.slice e)=>xs=[.nS]\/∃ys:List (List V),xs=[.iS ys.flatten ys.length false]/\ys.length<=maxLen/\∀y∈ys,Xc P n e y
  |some (.struct fs)=>Qc6 (Xc P n) (fs.toList.map (·.type)) xs
  |some (.array k e)=>Qc6 (Xc P n) (List.replicate k e) xs
  |_=>False
def Qe4(P:Program):Nat->List Field->Nat->Bool
 |o,[],n=>o==n
 |o,f::r,n=>f.offset==o&&Qe4 P (o+P.cellsOf f.type) r n
def Qyn(P:Program)(book:List TypeId):Bool:=
 book.all fun t=>match P.underlying t with
  |some .bool|some (.int _)|some .string=>true
  |some (.slice e)=>book.contains e
  |some (.struct fs)=>Qe4 P 0 fs.toList (P.cellsOf t)&&fs.toList.all fun f=>book.contains f.type
  |some (.array k e)=>P.cellsOf t==k*P.cellsOf e&&book.contains e
  |_=>false
abbrev Qj5(P:Program)(W:World):Env:=bare (Km P) W fun _ _=>False
theorem Q7j(a:Addr)(m j:Nat):(a.add m).add j=a.add (m+j):=by
 unfold Addr.add;by_cases hj:j=0
 . subst hj;simp
 . by_cases hm:m=0
   . subst hm;simp[hj]
   . have:m+j≠0:=by omega
     simp[hj,hm,Zfq]
section
variable {H : Type} {enc : TypeId × Value -> H} {P : Program} {W : World} {book : List TypeId}
theorem Q3f{a:Addr}{vs:List Value}(h:∀i v,vs[i]?=some v->W.cell? (a.add i)=some v):Qe9 (Qj5 P W) a vs:=by
 cases vs with
 |nil=>exact .inl rfl
 |cons v r=>
  right;have h0:=h 0 v rfl;have hs:a.spot=none:=by
   have e:a.add 0=a:=by simp[Addr.add]
   rw[e] at h0;unfold World.cell? at h0;split at h0
   . cases hs:a.spot with
     |none=>rfl
     |some s=>simp[hs] at h0
   . cases h0
  refine⟨hs,fun i v hv=>⟨?_,fun hm=>hm⟩⟩;have:=h i v hv;have e:a.add i=⟨a.block,a.off+i,none⟩:=by obtain⟨b,o,s⟩:=a;simp only at hs;subst hs;unfold Addr.add;split<;>simp_all
  rw[e] at this;exact this
def Qp9(P:Program)(W:World)(n:Nat)(t:TypeId)(cs:List Value):Prop:=∃xs,Xc P n t xs/\Qr (Qj5 P W) xs cs/\Zt xs=true
theorem Qhg{n:Nat}{cs:List Value}:∀(fs:List Field) (o:Nat),Qe4 P o fs cs.length=true->(∀f∈fs,Qp9 P W n f.type ((cs.drop f.offset).take (P.cellsOf f.type)))->
 ∃xs,Qc6 (Xc P n) (fs.map (·.type)) xs/\Qr (Qj5 P W) xs (cs.drop o)/\Zt xs=true
 |[],o,ht,_=>by
  simp only[Qe4,beq_iff_eq] at ht;subst ht;exact⟨[],rfl,by rw[List.drop_length];exact .nil,rfl⟩
 |f::r,o,ht,h=>by
  simp only[Qe4,Zfr,beq_iff_eq] at ht;obtain⟨rfl,ht⟩:=ht;obtain⟨y,h1,h2,h3⟩:=h f (by simp);obtain⟨xs,g1,g2,g3⟩:=Qhg r _ ht (fun g hg=>h g (by simp[hg]));refine⟨y++xs,⟨y,xs,h1,g1,rfl⟩,?_,Qfo h3 g3⟩;have e:cs.drop f.offset=(cs.drop f.offset).take (P.cellsOf f.type)++cs.drop (f.offset+P.cellsOf f.type):=by rw[<-Zfs,Zft]
  rw[e];exact h2.append g2
theorem Qg4{n c:Nat}{e:TypeId}{cs:List Value}:∀(k i:Nat),(∀j,i<=j->j<i+k->Qp9 P W n e ((cs.drop (j*c)).take c))->cs.length=(i+k)*c->
 ∃xs,Qc6 (Xc P n) (List.replicate k e) xs/\Qr (Qj5 P W) xs (cs.drop (i*c))/\Zt xs=true
 |0,i,_,hl=>by
  refine⟨[],rfl,?_,rfl⟩;rw[Zfu (by rw[hl];simp)];exact .nil
 |k+1,i,h,hl=>by
  obtain⟨y,h1,h2,h3⟩:=h i (Ze8 _) (by omega);obtain⟨xs,g1,g2,g3⟩:=Qg4 k (i+1) (fun j hj hj' =>h j (by omega) (by omega)) (by rw[hl];congr 1;omega);refine⟨y++xs,⟨y,xs,h1,g1,rfl⟩,?_,Qfo h3 g3⟩;have e:cs.drop (i*c)=(cs.drop (i*c)).take c++cs.drop ((i+1)*c):=by rw[Nat.succ_mul,<-Zfs,Zft]
  rw[e];exact h2.append g2
theorem Qmp{n c:Nat}{e:TypeId}{a:Addr}:∀(len:Nat),(∀i,i<len->∃cs,W.cells? 0 (a.add (i*c)) c=some cs/\Qp9 P W n e cs)->
 ∃(ys:List (List V)) (vs:List Value),ys.length=len/\(∀y∈ys,Xc P n e y)/\Qr (Qj5 P W) ys.flatten vs/\Zt ys.flatten=true/\vs.length=len*c/\∀i v,vs[i]?=some v->W.cell? (a.add i)=some v
 |0,_=>⟨[],[],rfl,(fun _ h=>by cases h),.nil,rfl,by simp,fun i v h=>by simp at h⟩
 |len+1,h=>by
  obtain⟨ys,vs,h1,h2,h3,h4,h5,h6⟩:=Qmp len (fun i hi=>h i (by omega));obtain⟨cs,hc,y,g1,g2,g3⟩:=h len (by omega);obtain⟨_,hl,hcell⟩:=World.cells?_some hc;refine⟨ys++[y],vs++cs,by simp[h1],?_,?_,?_,by rw[Zfv,h5,hl,Nat.succ_mul],?_⟩
  . intro z hz;rcases Zfw.1 hz with hz|hz
    . exact h2 z hz
    . rw[Zfx] at hz;subst hz;exact g1
  . rw[List.flatten_append];simpa using h3.append g2
  . rw[List.flatten_append];exact Qfo h4 (by simpa using g3)
  . intro i v hv;rcases Ze5 i vs.length with hi|hi
    . exact h6 i v (by rwa[Zfy hi] at hv)
    . rw[Zfz hi] at hv;have hlt:i-vs.length<cs.length:=(Zf0.1 hv).1;have:=hcell (i-vs.length) (by omega);rw[Q7j,hv] at this;have e1:len*c+(i-vs.length)=i:=by omega
      rwa[e1] at this
theorem Qiu(hb:Qyn P book=true):∀(fuel:Nat) (t:TypeId) (cs:List Value) (x:DataW H×List MemPlace),t∈book->
 DataW.trod enc P W 0 (fun _=>true) true fuel t cs=some x->Qp9 P W fuel t cs
 |0,t,cs,x,_,h=>by cases h
 |fuel+1,t,cs,x,ht,h=>by
  have ih:=fun t cs x=>Qiu hb fuel t cs x;have hbt:=Zf1.1 hb t ht;unfold Qp9;unfold Xc;cases hu:P.underlying t with
  |none=>rw[hu] at hbt;cases hbt
  |some d=>
   rw[hu] at hbt;cases d with
   |bool=>
    obtain⟨b,rfl,_⟩:=DataW.trod_bool hu h;exact⟨[.bool b],⟨b,rfl⟩,.cons (by simp[Rel]) .nil,rfl⟩
   |int k=>
    obtain⟨m,rfl,_,hw⟩:=DataW.trod_int hu h;exact⟨[.int k m],⟨m,rfl,hw⟩,.cons (by simp[Rel]) .nil,rfl⟩
   |string=>
    obtain⟨s,rfl,_,hs⟩:=DataW.trod_string hu h;refine⟨[.str s.data.toList],⟨s.data.toList,rfl,by rw[<-Lib.size_eq];exact hs⟩,.cons (by simp[Rel]) .nil,rfl⟩
   |slice e=>
    have he:e∈book:=by simpa using hbt
    rcases DataW.trod_slice hu h with⟨rfl,_⟩|⟨a,len,cap,elems,rest,n,hn,rfl,_,_,hlc,hcm,hel,hread,_⟩
    . exact⟨[.nS],.inl rfl,.cons (by simp[Rel]) .nil,rfl⟩
    . cases hn;obtain⟨ys,vs,h1,h2,h3,h4,h5,h6⟩:=Qmp (P:=P) (W:=W) (n:=fuel) (c:=P.cellsOf e) (e:=e) (a:=a) len (fun i hi=>by
       have:=hread i hi;have hx:elems[i]?=some elems[i]:=Ze3 (by omega);rw[hx] at this;cases hc:W.cells? 0 (a.add (i*P.cellsOf e)) (P.cellsOf e) with
       |none=>rw[hc] at this;cases this
       |some cs=>rw[hc] at this;exact⟨cs,rfl,ih e cs _ he this⟩)
      refine⟨[.iS ys.flatten ys.length false],.inr ⟨ys,rfl,by omega,h2⟩,.cons ?_ .nil,rfl⟩;simp only[Rel];exact⟨a,cap,vs,by rw[h1],by omega,(fun h=>by cases h),Q3f h6,h3,h4⟩
   |struct fs=>
    simp only[Zfr,Zf1] at hbt;obtain⟨xs,n,hn,_,hl,hxl,hread⟩:=DataW.trod_struct hu h;cases hn;obtain⟨ys,g1,g2,g3⟩:=Qhg (P:=P) (W:=W) (n:=fuel) (cs:=cs) fs.toList 0 (by rw[hl];exact hbt.1) (fun f hf=>by
     obtain⟨i,hi⟩:=List.mem_iff_getElem?.1 hf;have hi' :fs[i]?=some f:=by simpa using hi
     have hil:i<fs.size:=(Zfb.1 hi').1;have:=hread i f hi';have hx:xs[i]?=some xs[i]:=Ze3 (by omega);rw[hx] at this
     exact ih _ _ _ (by simpa using hbt.2 f hf) this)
    exact⟨ys,g1,by simpa using g2,g3⟩
   |array k e=>
    simp only[Zfr,beq_iff_eq] at hbt;obtain⟨xs,n,hn,_,hl,hxl,hread⟩:=DataW.trod_array hu h;cases hn;obtain⟨ys,g1,g2,g3⟩:=Qg4 (P:=P) (W:=W) (n:=fuel) (c:=P.cellsOf e) (e:=e) (cs:=cs) k 0 (fun j _ hj=>by
     have:=hread j (by omega);have hx:xs[j]?=some xs[j]:=Ze3 (by omega);rw[hx] at this
     exact ih _ _ _ (by simpa using hbt.2) this) (by rw[hl,hbt.1];simp)
    exact⟨ys,g1,by simpa using g2,g3⟩
   |_=>cases hbt
def Qf9(P:Program)(n:Nat)(t:TypeId)(x:V):Prop:=
 match P.underlying t with
 |some (.struct _)|some (.array _ _)=>∃cs,x= .agg cs/\Xc P n t cs
 |_=>Xc P n t [x]
def Qkm(P:Program):List TypeId->List V->Prop
 |[],xs=>xs=[]
 |t::ts,xs=>∃n y r,Qf9 P n t y/\Qkm P ts r/\xs=y::r
theorem Qrz(hb:Qyn P book=true):∀{ts:List TypeId} {vs:List Value} {ds:List (DataW H)} {ps:List MemPlace},(∀t∈ts,t∈book)->
 DataW.TrodAll enc P W 0 (fun _=>true) true ts vs ds ps->(∀(j:Nat) t v,ts[j]?=some t->vs[j]?=some v->∃w r base,Value.okWide P w r base t v)->
 ∃xs,Qkm P ts xs/\Qr (Qj5 P W) xs vs
 |[],[],[],_,_,_,_=>⟨[],rfl,.nil⟩
 |[],_::_,_,_,_,h,_=>h.elim
 |[],[],_::_,_,_,h,_=>h.elim
 |_::_,[],_,_,_,h,_=>h.elim
 |_::_,_::_,[],_,_,h,_=>h.elim
 |t::ts,v::vs,d::ds,ps,ht,h,hok=>by
  obtain⟨p,q,⟨fuel,h1⟩,h2,_⟩:=h;obtain⟨ys,g1,g2,g3⟩:=Qiu hb fuel t _ _ (ht t (by simp)) h1;obtain⟨xs,k1,k2⟩:=Qrz hb (fun u hu=>ht u (by simp[hu])) h2 (fun j u x hu hx=>hok (j+1) u x hu hx);obtain⟨w,r,base,hw⟩:=hok 0 t v rfl rfl;by_cases hagg:∃cs:Array Value,v= .agg cs/\(match P.underlying t with|some (.struct _)|some (.array _ _)=>True|_=>False)
  . obtain⟨cs,rfl,hm⟩:=hagg;refine⟨.agg ys::xs,⟨fuel,_,_,?_,k1,rfl⟩,.cons ?_ k2⟩
    . unfold Qf9;split
      . exact⟨ys,rfl,g1⟩
      . exact⟨ys,rfl,g1⟩
      . rename_i q1 q2;split at hm
        . rename_i fs hh;exact absurd hh (q1 fs)
        . rename_i k e hh;exact absurd hh (q2 k e)
        . exact hm.elim
    . simp only[Rel];exact⟨cs.toList,rfl,g2⟩
  . have hne:∀fs,P.underlying t≠some (.struct fs):=by
     intro fs hu;unfold Value.okWide at hw;rw[hu] at hw;obtain⟨cs,rfl,_⟩:=hw;exact hagg ⟨cs,rfl,by rw[hu];trivial⟩
    have hne2:∀k e,P.underlying t≠some (.array k e):=by intro k e hu;unfold Value.okWide at hw;rw[hu] at hw;obtain⟨cs,rfl,_⟩:=hw;exact hagg ⟨cs,rfl,by rw[hu];trivial⟩
    have hv:v.cells.toList=[v]:=by
     cases v with
     |agg cs=>
      exfalso;have hbt:=Zf1.1 hb t (ht t (by simp));cases hu:P.underlying t with
      |none=>rw[hu] at hbt;cases hbt
      |some d=>cases d<;>first
       |(rw[hu] at hbt;cases hbt;done)
       |exact hne _ hu
       |exact hne2 _ _ hu
       |(simp[Value.okWide,hu,Cell.okWide,Cell.ok] at hw;done)
     |_=>rfl
    rw[hv] at g2;cases ys with
    |nil=>exact absurd g2 (by simp[Qr])
    |cons y r=>
     obtain⟨v',r',e,q1,q2⟩:=Qr.cons_iff.1 g2;cases e;cases r with
     |cons z r=>exact absurd q2 (by intro h;have:=h.length;simp at this)
     |nil=>
      refine⟨y::xs,⟨fuel,_,_,?_,k1,rfl⟩,.cons q1 k2⟩;unfold Qf9;split
      . rename_i fs hh;exact absurd hh (hne fs)
      . rename_i k e hh;exact absurd hh (hne2 k e)
      . exact g1
end
section
variable {P : Program} {pol : Pol}
theorem Sim.start(W:World):Sim W.heap.size (fun _ _=>False) [] (Qj5 P W) where
 dom:=fun f s=>rfl
 bsz:=Ze8 _
 fb:=fun _ _ h=>h.elim
 fmod:=fun _ _ h=>h
 modsz:=fun _ _ h=>h.elim
 obj:=fun f s o h=>by simp[Qd] at h
 nreg:=fun f s n x h=>by cases h
 inj:=fun f s o _ _ _ _ h=>by simp[Qd] at h
theorem Qon(ok:Qe2 P pol){f:FuncId}{xs:List V}{args:Array Value}{W:World}{b:Bool}{H' :Qg}(h:Zx P pol f xs []=some (.ret (.bool b),H'))
 (hr:Qr (Qj5 P W) xs args.toList):Calls P f args W fun e W' =>e= .returned (.bool b)/\RowKit.Below W.heap.size W W' :=by
 have:=((Qu8 ok).1 f xs [] _ H' h).2 W.heap.size (fun _ _=>False) (Qj5 P W) args.toList (Sim.start W) rfl hr;refine this.mono ?_;rintro e w' ⟨E',rfl,⟨c,rfl,hc⟩,S',X,_⟩;simp only[Rel] at hc;subst hc;exact⟨rfl,X.rest.2.1,X.rest.1,X.rest.2.2,X.size,X.old⟩
theorem Qir{H:Type}{enc:TypeId×Value->H}(hl:laidOutB P=true){W W' :World}(hb:RowKit.Below W.heap.size W W'):∀{ts:List TypeId} {vs:List Value} {ds:List (DataW H)} {ps:List MemPlace},
 (∀t∈ts,P.readableRec t=true/\t<P.types.size)->DataW.TrodAll enc P W 0 (fun _=>true) true ts vs ds ps->(∀x∈ps,x.block<W.heap.size)->DataW.TrodAll enc P W' 0 (fun b=>decide (b<W.heap.size)) true ts vs ds ps
 |[],[],[],_,_,h,_=>h
 |[],_::_,_,_,_,h,_=>h.elim
 |[],[],_::_,_,_,h,_=>h.elim
 |_::_,[],_,_,_,h,_=>h.elim
 |_::_,_::_,[],_,_,h,_=>h.elim
 |t::ts,v::vs,d::ds,ps,ht,h,hlt=>by
  obtain⟨p,q,h1,h2,rfl⟩:=h;exact⟨p,q,RowKit.Below.trod hl (ht t (by simp)).1 (ht t (by simp)).2 h1 hb (fun x hx=>hlt x (by simp[hx])),Qir hl hb (fun u hu=>ht u (by simp[hu])) h2 (fun x hx=>hlt x (by simp[hx])),rfl⟩
theorem Qhf{H:Type}{enc:TypeId×Value->H}{W:World}{base:Nat}{sp:Nat->Bool}{hd:Bool}:∀{ts:List TypeId} {vs:List Value} {ds:List (DataW H)} {ps:List MemPlace},
 DataW.TrodAll enc P W base sp hd ts vs ds ps->ds.length=ts.length
 |[],[],[],_,_=>rfl
 |[],_::_,_,_,h=>h.elim
 |[],[],_::_,_,h=>h.elim
 |_::_,[],_,_,h=>h.elim
 |_::_,_::_,[],_,h=>h.elim
 |t::ts,v::vs,d::ds,ps,h=>by
  obtain⟨p,q,h1,h2,rfl⟩:=h;simp[Qhf h2]
theorem Qtm{H:Type}{enc:TypeId×Value->H}(ok:Qe2 P pol)(hl:laidOutB P=true){f:FuncId}{fn:Func}{ts book:List TypeId}{tb:TypeId}(hts:fn.params.toList=ts)(hrt:fn.resultTypes.toList=[tb])
 (htb:P.underlying tb=some .bool)(hbook:Qyn P book=true)(hin:ts.all (fun t=>book.contains t&&P.readableRec t&&decide (t<P.types.size))=true)
 {s:ChangeSpec}(hv:s.vars=[])(hs:∀ds:List (DataW H),ds.length=ts.length->(s.fn H ds).results=[.lit (.bool true)]/\(s.fn H ds).args=ds/\(s.fn H ds).vars=[])
 (hlaw:∀xs,Qkm P ts xs->∃H',Zx P pol f xs []=some (.ret (.bool true),H')){apart fresh handsOn:Bool}
 {W:World}{base:Nat}{args:Array Value}{ds gs:List (DataW H)}{before:List MemPlace}
 (hval:∀(j:Nat) t v,fn.params[j]?=some t->args[j]?=some v->Value.okWide P W .any base t v)
 (hW:DataW.Whole enc P fn.params.toList s.vars apart W args.toList ds gs before):
 Calls P f args W fun e W' =>∃v,e= .returned v/\s.post enc P fn apart fresh handsOn false W args v W' :=by
 have hin' :∀t∈ts,t∈book/\P.readableRec t=true/\t<P.types.size:=by intro t ht;have:=Zf1.1 hin t ht;simp only[Zfr,decide_eq_true_eq] at this;exact⟨by simpa using this.1.1,this.1.2,this.2⟩
 have hW' :=hW;have hlt:=hW.lt;obtain⟨p,q,hA,hV,rfl,hfz,hnd⟩:=hW;rw[hv] at hV;have hg:gs=[]/\q=[]:=by
  cases gs with
  |nil=>exact⟨rfl,hV⟩
  |cons g gs=>exact hV.elim
 obtain⟨rfl,rfl⟩:=hg;rw[hts] at hA;obtain⟨xs,h1,h2⟩:=Qrz hbook (fun t ht=>(hin' t ht).1) hA (fun j t v ht hv=>⟨W,.any,base,hval j t v (by rw[<-Array.getElem?_toList,hts];exact ht) (by simpa using hv)⟩);obtain⟨H',hc⟩:=hlaw xs h1;refine(Qon ok hc h2).mono ?_;rintro e W' ⟨rfl,hb⟩;refine⟨_,rfl,?_⟩;obtain⟨k1,k2,k3⟩:=hs ds (Qhf hA);refine⟨ds,[],p++[],[],p,[],hW',?_,?_,?_,?_,fun h=>by cases h⟩
 . rw[Zf2,k1,hrt];have hsz:fn.resultTypes.size=1:=by rw[<-Zf3,hrt];rfl
   rw[hsz];exact ChangeShapes.trodAll_mk1 (RowKit.shut_bool htb true)
 . rw[Zf2,k2,hts];exact Qir hl hb (fun t ht=>(hin' t ht).2) hA (fun x hx=>hlt x (by simpa using hx))
 . rw[Zf2,k3,hv];rfl
 . exact hb.frame _
end
section
variable {P : Program} {pol : Pol} {C : Call} {L : Yu -> Qas} {fn fr : Nat} {ops : Array Oper} {r : List Oper} {t : List V} {H : Qg} {d : Option Nat} {ty u : TypeId} {ps : String} {af : Array Edge} {x y z : Operand}
theorem Qkh{op:Op}{j:Nat}{want:Bool}:Yr P pol C fn fr ops ({dst:=d,op:=op,type:=ty,pos:=ps,after:=af,guard:=some (j,want)}::r) t H=
 match((ops[j]?).bind (·.dst)).bind (t[·]?) with
 |some (.bool b)=>if b==want then Yr P pol C fn fr ops ({dst:=d,op:=op,type:=ty,pos:=ps,after:=af,guard:=none}::r) t H else Yr P pol C fn fr ops r (Z5 t d nov) H
 |some (.tuple [])=>Yr P pol C fn fr ops r (Z5 t d nov) H
 |_=>none:=by
 have e:Ba ops t {dst:=d,op:=op,type:=ty,pos:=ps,after:=af,guard:=some (j,want)}=match((ops[j]?).bind (·.dst)).bind (t[·]?) with
  |some (.bool b)=>some (b==want)
  |some (.tuple [])=>some false
  |_=>none:=rfl
 simp only[Yr,e];generalize((ops[j]?).bind (·.dst)).bind (t[·]?)=s;cases s with
 |none=>rfl
 |some v=>
  cases v with
  |bool b=>cases b<;>cases want<;>rfl
  |tuple l=>cases l<;>rfl
  |_=>rfl
theorem Q3u{op:Op}:Yr P pol C fn fr ops ({dst:=d,op:=op,type:=ty,pos:=ps,after:=af,guard:=none}::r) t H=
 match K0 P (pol.mt fn) fr (Qd H) (rho t) {dst:=d,op:=op,type:=ty,pos:=ps,after:=af,guard:=none} with
 |some (.val v w)=>Yr P pol C fn fr ops r (Z5 t d v) (wr H w)
 |some (.panic v)=>some (.panic v,t,H)
 |some (.call f args)=>(match Zn pol C fn fr d f args H with
  |some (.ret v,H')=>Yr P pol C fn fr ops r (Z5 t d v) H'
  |some (.pan v,H')=>some (.panic v,t,H')
  |none=>none)
 |some (.round f s args)=>(match C none (.yield f s::args) H with
  |some (.ret v,H')=>Yr P pol C fn fr ops r (Z5 t d v) H'
  |_=>none)
 |none=>none:=by
 simp only[Yr,Ba,J5];cases K0 P (pol.mt fn) fr (Qd H) (rho t) {dst:=d,op:=op,type:=ty,pos:=ps,after:=af,guard:=none} with
 |none=>rfl
 |some s=>
  cases s with
  |val v w=>rfl
  |panic v=>rfl
  |call f args=>
   simp only;cases Zn pol C fn fr d f args H with
   |none=>rfl
   |some q=>obtain⟨q,H'⟩:=q;cases q<;>rfl
  |round f s args=>
   simp only;cases C none (.yield f s::args) H with
   |none=>rfl
   |some q=>obtain⟨q,H'⟩:=q;cases q<;>rfl
inductive It where
 |code(c:Code)
 |ops(a:Array Oper)(l:List Oper)
 |opsT(a:Array Oper)(l:List Oper)(T:List FP)
 |block(id:Nat)
def U(P:Program)(pol:Pol)(C:Call)(L:Yu->Qas)(fn fr:Nat):List It->Ex->List V->Qg->Out
 |[],e,t,H=>some (e,t,H)
 | .code c::k,e,t,H=>(match e with
   | .normal=>(Jh P pol C L fn fr c t H).bind fun x=>U P pol C L fn fr k x.1 x.2.1 x.2.2
   |e=>U P pol C L fn fr k e t H)
 | .ops a l::k,e,t,H=>(match e with
   | .normal=>(Yr P pol C fn fr a l t H).bind fun x=>U P pol C L fn fr k x.1 x.2.1 x.2.2
   |e=>U P pol C L fn fr k e t H)
 | .opsT a l T::k,e,t,H=>(match e with
   | .normal=>(Jc P pol C fn fr a l t H).bind fun x=>if okT (Region.before a) (loud (T.reverse++x.2.2)) then U P pol C L fn fr k .normal x.1 x.2.1 else none
   |e=>U P pol C L fn fr k e t H)
 | .block id::k,e,t,H=>(match e with
   | .exit i=>if i=id then U P pol C L fn fr k .normal t H else U P pol C L fn fr k (.exit i) t H
   |e=>U P pol C L fn fr k e t H)
section
variable {k : List It}
theorem Qse(c:Code):Jh P pol C L fn fr c t H=U P pol C L fn fr [.code c] .normal t H:=by
 simp only[U];cases Jh P pol C L fn fr c t H with
 |none=>rfl
 |some x=>rfl
theorem u_nil{e:Ex}:U P pol C L fn fr [] e t H=some (e,t,H):=rfl
theorem u_seq{a b:Code}:U P pol C L fn fr (.code (.seq a b)::k) .normal t H=U P pol C L fn fr (.code a:: .code b::k) .normal t H:=by
 simp only[U,Jh];cases Jh P pol C L fn fr a t H with
 |none=>rfl
 |some x=>obtain⟨e,t1,H1⟩:=x;cases e<;>rfl
theorem Q3y{id:Nat}{l:List Oper}:U P pol C L fn fr (.code (.region id l.toArray false)::k) .normal t H=U P pol C L fn fr (.ops l.toArray l::k) .normal t H:=by simp only[U,Jh,Ze7,if_false]
theorem u_draw{id:Nat}{l:List Oper}:U P pol C L fn fr (.code (.region id l.toArray true)::k) .normal t H=U P pol C L fn fr (.opsT l.toArray l []::k) .normal t H:=by
 simp only[U,Jh,if_true];cases Jc P pol C fn fr l.toArray l t H with
 |none=>rfl
 |some x=>
  obtain⟨t1,H1,T1⟩:=x;by_cases h:okT (Region.before l.toArray) (loud T1)=true
  . simp[h]
  . simp[h]
theorem Q05{a:Array Oper}:U P pol C L fn fr (.ops a []::k) .normal t H=U P pol C L fn fr k .normal t H:=rfl
theorem Qyp{a:Array Oper}{T:List FP}:U P pol C L fn fr (.opsT a [] T::k) .normal t H=if okT (Region.before a) (loud T.reverse) then U P pol C L fn fr k .normal t H else none:=by simp only[U,Jc,Zf4,Zf2]
theorem u_skip:U P pol C L fn fr (.code .skip::k) .normal t H=U P pol C L fn fr k .normal t H:=rfl
theorem u_ret:U P pol C L fn fr (.code .ret::k) .normal t H=U P pol C L fn fr k .ret t H:=rfl
theorem u_exit{id:Nat}:U P pol C L fn fr (.code (.exit id)::k) .normal t H=U P pol C L fn fr k (.exit id) t H:=rfl
theorem Qx1{c:Code}:U P pol C L fn fr (.code c::k) .ret t H=U P pol C L fn fr k .ret t H:=rfl
theorem Qu2{c:Code}{i:Nat}:U P pol C L fn fr (.code c::k) (.exit i) t H=U P pol C L fn fr k (.exit i) t H:=rfl
theorem Qs7{c:Code}{v:V}:U P pol C L fn fr (.code c::k) (.panic v) t H=U P pol C L fn fr k (.panic v) t H:=rfl
theorem Qpo{i:Nat}:U P pol C L fn fr (.block i::k) .normal t H=U P pol C L fn fr k .normal t H:=rfl
theorem Qtu{i:Nat}:U P pol C L fn fr (.block i::k) .ret t H=U P pol C L fn fr k .ret t H:=rfl
theorem Qq0{i:Nat}{v:V}:U P pol C L fn fr (.block i::k) (.panic v) t H=U P pol C L fn fr k (.panic v) t H:=rfl
theorem Qtl{i j:Nat}:U P pol C L fn fr (.block i::k) (.exit j) t H=if j=i then U P pol C L fn fr k .normal t H else U P pol C L fn fr k (.exit j) t H:=rfl
theorem Q7f{id:Nat}{b:Code}:U P pol C L fn fr (.code (.block id b)::k) .normal t H=U P pol C L fn fr (.code b:: .block id::k) .normal t H:=by
 simp only[U,Jh];cases Jh P pol C L fn fr b t H with
 |none=>rfl
 |some x=>
  obtain⟨e,t1,H1⟩:=x;cases e<;>first|rfl|(simp only[Zf4];split<;>rfl)
def round(P:Program)(pol:Pol)(C:Call)(L:Yu->Qas)(fn fr:Nat)(b:Code):Yu:=fun t H=>match forget pol fn fr (Jl b) t H with
 |some (t,H)=>(match Ki b with
  |none=>[Jh P pol C L fn fr b t H]
  |some x=>(match Qbh (Qd H) (rho t x) with
   |some cs=>cs.map fun c=>J7 P pol C L fn fr b c.1 c.2 t H
   |none=>[none]))
 |none=>[none]
theorem Q7q{a:Array Oper}{op:Op}{j:Nat}{want b:Bool}(h:((a[j]?).bind (·.dst)).bind (t[·]?)=some (.bool b)):
 U P pol C L fn fr (.ops a ({dst:=d,op:=op,type:=ty,pos:=ps,after:=af,guard:=some (j,want)}::r)::k) .normal t H=
   if b=want then U P pol C L fn fr (.ops a ({dst:=d,op:=op,type:=ty,pos:=ps,after:=af,guard:=none}::r)::k) .normal t H else U P pol C L fn fr (.ops a r::k) .normal (Z5 t d nov) H:=by
 simp only[U];rw[Qkh,h];simp only;cases b<;>cases want<;>rfl
theorem Q6j{a:Array Oper}{op:Op}:U P pol C L fn fr (.ops a ({dst:=d,op:=op,type:=ty,pos:=ps,after:=af,guard:=none}::r)::k) .normal t H=
 match K0 P (pol.mt fn) fr (Qd H) (rho t) {dst:=d,op:=op,type:=ty,pos:=ps,after:=af,guard:=none} with
 |some (.val v w)=>U P pol C L fn fr (.ops a r::k) .normal (Z5 t d v) (wr H w)
 |some (.panic v)=>U P pol C L fn fr k (.panic v) t H
 |some (.call f args)=>(match Zn pol C fn fr d f args H with
  |some (.ret v,H')=>U P pol C L fn fr (.ops a r::k) .normal (Z5 t d v) H'
  |some (.pan v,H')=>U P pol C L fn fr k (.panic v) t H'
  |none=>none)
 |some (.round f s args)=>(match C none (.yield f s::args) H with
  |some (.ret v,H')=>U P pol C L fn fr (.ops a r::k) .normal (Z5 t d v) H'
  |_=>none)
 |none=>none:=by
 simp only[U];rw[Q3u];cases K0 P (pol.mt fn) fr (Qd H) (rho t) {dst:=d,op:=op,type:=ty,pos:=ps,after:=af,guard:=none} with
 |none=>rfl
 |some s=>
  cases s with
  |val v w=>rfl
  |panic v=>rfl
  |call f args=>
   simp only;cases Zn pol C fn fr d f args H with
   |none=>rfl
   |some q=>obtain⟨q,H'⟩:=q;cases q<;>rfl
  |round f s args=>
   simp only;cases C none (.yield f s::args) H with
   |none=>rfl
   |some q=>obtain⟨q,H'⟩:=q;cases q<;>rfl
theorem u_if{c:Operand}{a b:Code}:U P pol C L fn fr (.code (.cond c a b)::k) .normal t H=
 match rho t c with
 | .bool v=>if v=true then U P pol C L fn fr (.code a::k) .normal t H else U P pol C L fn fr (.code b::k) .normal t H
 |_=>none:=by
 simp only[U,Jh];cases rho t c with
 |bool v=>cases v<;>rfl
 |_=>rfl
theorem u_when{a:Array Oper}{op:Op}{j:Nat}{want:Bool}:
 U P pol C L fn fr (.ops a ({dst:=d,op:=op,type:=ty,pos:=ps,after:=af,guard:=some (j,want)}::r)::k) .normal t H=
   match((a[j]?).bind (·.dst)).bind (t[·]?) with
   |some (.bool b)=>if b=want then U P pol C L fn fr (.ops a ({dst:=d,op:=op,type:=ty,pos:=ps,after:=af,guard:=none}::r)::k) .normal t H else U P pol C L fn fr (.ops a r::k) .normal (Z5 t d nov) H
   |some (.tuple [])=>U P pol C L fn fr (.ops a r::k) .normal (Z5 t d nov) H
   |_=>none:=by
 cases h:((a[j]?).bind (·.dst)).bind (t[·]?) with
 |none=>simp only[U];rw[Qkh,h];rfl
 |some v=>
  cases v with
  |bool b=>exact Q7q h
  |tuple l=>simp only[U];rw[Qkh,h];cases l<;>rfl
  |_=>simp only[U];rw[Qkh,h];rfl
end
end
section
variable {P : Program} {pol : Pol} {C : Call} {fn fr : Nat} {t : List V} {H : Qg} {u : TypeId} {x y : Operand} {k : IntKind} {m n : Int} {g : Get} {mt : Nat -> Bool}
theorem b_add:X7 P .add u x y (.int k m) (.int k n)=some (.int k (k.wrap (m+n))):=by simp only[X7,Qj4,if_true]
theorem b_sub:X7 P .sub u x y (.int k m) (.int k n)=some (.int k (k.wrap (m-n))):=by simp only[X7,Qj4,if_true]
theorem b_mul:X7 P .mul u x y (.int k m) (.int k n)=some (.int k (k.wrap (m*n))):=by simp only[X7,Qj4,if_true]
theorem b_eql:X7 P .eql u x y (.int k m) (.int k n)=some (.bool (m==n)):=by simp only[X7,Qj4,if_true]
theorem b_neq:X7 P .neq u x y (.int k m) (.int k n)=some (.bool (m !=n)):=by simp only[X7,Qj4,if_true]
theorem b_lss:X7 P .lss u x y (.int k m) (.int k n)=some (.bool (decide (m<n))):=by simp only[X7,Qj4,if_true]
theorem b_leq:X7 P .leq u x y (.int k m) (.int k n)=some (.bool (decide (m<=n))):=by simp only[X7,Qj4,if_true]
theorem b_gtr:X7 P .gtr u x y (.int k m) (.int k n)=some (.bool (decide (m>n))):=by simp only[X7,Qj4,if_true]
theorem b_geq:X7 P .geq u x y (.int k m) (.int k n)=some (.bool (decide (m>=n))):=by simp only[X7,Qj4,if_true]
theorem b_sadd{a b:List UInt8}:X7 P .add u x y (.str a) (.str b)=binS .add a b:=rfl
theorem b_seql{a b:List UInt8}:X7 P .eql u x y (.str a) (.str b)=some (.bool (a==b)):=rfl
theorem b_sneq{a b:List UInt8}:X7 P .neq u x y (.str a) (.str b)=some (.bool (!(a==b))):=rfl
theorem oc_int:Jw (.int k n)= .int k n:=rfl
theorem Q60{b:Bool}:Jw (.bool b)= .bool b:=rfl
theorem oc_str{s:ByteArray}:Jw (.string s)= .str s.data.toList:=rfl
theorem Qvs:Jw (.slice none 0 0)= .nS:=rfl
theorem Q1e:Jw (.pointer none)= .nP:=rfl
theorem Q2k:Jw (.map none)= .nM:=rfl
theorem Qxg:Jw .nilFunc= .nF:=rfl
theorem Qxc:Jw .nilIface= .nI:=rfl
theorem Qda{d:TypeDesc}{q:Nat}(h:P.underlying u=some d)(hs:sz P u=some q)(ha:Qsb d=false)(cs:List V)(o:Nat):Zf P u cs o=cs[o]?:=by simp only[Zf,h,hs,ha,Ze7,if_false]
theorem ia_of{e:TypeId}{q:Nat}(h:P.underlying u=some (.slice e))(hs:sz P e=some q)(cs:List V)(len:Nat)(full:Bool):
 Zs P u (.iS cs len full) (.int k n)=if 0<=n/\n<len/\cs.length=len*q/\0<q then some (.iptr cs (n.toNat*q)) else none:=by
 simp only[Zs,h,hs]
theorem Q2i{e:TypeId}(h:P.underlying u=some (.slice e))(cs:List V)(len:Nat)(full:Bool):Qaw P g u (.iS cs len full)=some (.int .i64 len):=by simp only[Qaw,h]
theorem Q5r{e:TypeId}(h:P.underlying u=some (.slice e)):Qaw P g u .nS=some (.int .i64 0):=by simp only[Qaw,h]
theorem ln_str(h:P.underlying u=some .string)(s:List UInt8):Qaw P g u (.str s)=some (.int .i64 s.length):=by simp only[Qaw,h]
theorem bi_len{ts:List TypeId}{d:Option Nat}{v:V}:builtinV P mt fr g d .len (u::ts).toArray [v]=(Qaw P g u v).map fun v=> .val v none:=rfl
theorem bi_max{ts:Array TypeId}{d:Option Nat}{v:V}{l:List V}:builtinV P mt fr g d .max ts (v::l)=(Qga true v l).map fun v=> .val v none:=by cases l<;>rfl
theorem bi_min{ts:Array TypeId}{d:Option Nat}{v:V}{l:List V}:builtinV P mt fr g d .min ts (v::l)=(Qga false v l).map fun v=> .val v none:=by cases l<;>rfl
theorem mx_nil{v:V}{b:Bool}:Qga b v []=some v:=rfl
theorem mx_one{b:Bool}{l:List V}:Qga b (.int k m) (.int k n::l)=Qga b (.int k (if b then(if n>m then n else m) else(if n<m then n else m))) l:=rfl
theorem Qrn:∀(v:V),v.refs (fun _ _=>false)=false:=by intro v;refine V.rec (motive_1:=fun v=>v.refs (fun _ _=>false)=false) (motive_2:=fun l=>Zv (fun _ _=>false) l=false) ?_ ?_ ?_ ?_ ?_ ?_ ?_ ?_ ?_ ?_ ?_ ?_ ?_ ?_ ?_ ?_ ?_ ?_ ?_ ?_ ?_ ?_ ?_ ?_ ?_ ?_ v<;>intros<;>simp_all[V.refs,Zv]
end
theorem Qjd:∀(l:List V),Zv (fun _ _=>false) l=false
 |[]=>rfl
 |x::l=>by simp[Zv,Qrn x,Qjd l]
theorem Qoq:∀(l:List (V×V)),Qfe (fun _ _=>false) l=false
 |[]=>rfl
 |(a,b)::l=>by simp[Qfe,Qrn,Qoq l]
theorem Qwy(o:O):o.refs (fun _ _=>false)=false:=by
 cases o with
 |iter m a b c=>cases m<;>rfl
 |_=>simp[O.refs,Qjd,Qoq]
theorem Qmg:∀(f:Frame),Jt (fun _ _=>false) f=true
 |[]=>rfl
 |(a,o)::r=>by simp[Jt,Qwy,Qmg r]
theorem Ql7:∀(H:Qg),Jj (fun _ _=>false) H=true
 |[]=>rfl
 |f::r=>by simp[Jj,Qmg,Ql7 r]
theorem Qr3:∀(f:Frame),Xq (fun _=>false) f=f
 |[]=>rfl
 |(a,o)::r=>by simp[Xq,Qr3 r]
theorem Qm2{α:Type}(f:α->α)(h:∀x,f x=x):∀(l:List α) (i:Nat),l.modify i f=l
 |[],i=>by simp
 |x::l,0=>by simp[h]
 |x::l,i+1=>by simp[Qm2 f h l i]
theorem Bo{pol:Pol}{fn fr r:Nat}{kt:List Nat}{t:List V}{H:Qg}(h:pol.keep fn r=some (kt,[]))(hm:pol.move fn r=none:=by rfl):forget pol fn fr r t H=some (Bq kt t 0,H):=by
 have e:(fun f s:Nat=>f==fr&&([]:List Nat).contains s)=fun _ _=>false:=by funext f s;simp
 have e2:(fun s:Nat=>([]:List Nat).contains s)=fun _=>false:=by funext s;simp
 unfold forget forgetK;rw[h];simp only[e,e2];rw[Qjd,Qm2 _ Qr3,Ql7];simp only[Ze7,if_false,if_true,hm]
theorem Qau{pol:Pol}{fn fr r:Nat}{kt ds:List Nat}{t:List V}{H:Qg}(hk:pol.keep fn r=some (kt,ds))(h1:Zv (fun f s=>f==fr&&ds.contains s) (Bq kt t 0)=false)(h2:Jj (fun f s=>f==fr&&ds.contains s) (H.modify fr (Xq fun s=>ds.contains s))=true)(hm:pol.move fn r=none:=by rfl):
 forget pol fn fr r t H=some (Bq kt t 0,H.modify fr (Xq fun s=>ds.contains s)):=by
 simp only[forget,forgetK,hk,h1,h2,if_true,Ze7,if_false,hm]
section
variable {P : Program} {pol : Pol} {C : Call} {L : Yu -> Qas} {fn fr : Nat} {t : List V} {H : Qg}
theorem Q3k{b:Code}{t1:List V}{H1:Qg}(hn:Ki b=none)(h:forget pol fn fr (Jl b) t H=some (t1,H1)):round P pol C L fn fr b t H=[U P pol C L fn fr [.code b] .normal t1 H1]:=by simp only[round,h,hn];rw[Qse]
def Qhv(P:Program)(F:Func)(b:Nat):Out->Option (Rt×Qg)
 |some (.normal,t,H)|some (.ret,t,H)=>(match Qil P F t H with
  |some v=>some (.ret v,Yb b v H)
  |none=>none)
 |some (.panic v,_,H)=>some (.pan v,Yb b v H)
 |_=>none
theorem Qwf{f:FuncId}{F:Func}{c:Code}{args:List V}{r:Rt×Qg}(hF:P.funcs[f]?=some F)(hc:F.body=some c)
 (h:Qhv P F H.length (Qbl (pol.settle f) (U P pol (Zx P pol) Yc f H.length [.code c] .normal (args++List.replicate (F.ntmps-args.length) .bad) (H++[[]])))=some r):Zx P pol f args H=some r:=by
 refine Q50 ?_;show Qhc P pol (Zx P pol) Yc f args H=some r;unfold Qhc;rw[hF];simp only[hc,Qse];rw[<-h];rfl
theorem Q6e{f:FuncId}{F:Func}{c:Code}{args:List V}{r:Rt×Qg}(hF:P.funcs[f]?=some F)(hc:F.body=some c)
 (h:Qhv P F H.length (U P pol (Zx P pol) Yc f H.length [.code c] .normal (args++List.replicate (F.ntmps-args.length) .bad) (H++[[]]))=some r)(hs:pol.settle f=[]:=by rfl):Zx P pol f args H=some r:=
 Qwf hF hc (by rw[hs,Qt3];exact h)
theorem Qwt{g:Get}{cs:List V}{n:Nat}{b:Bool}:frz g depth (.iS cs n b)=some (.iS cs n b):=rfl
theorem Qsp{g:Get}:frz g depth .nS=some .nS:=rfl
theorem Q65{g:Get}{k:IntKind}{n:Int}:frz g depth (.int k n)=some (.int k n):=rfl
theorem Q5z{g:Get}{b:Bool}:frz g depth (.bool b)=some (.bool b):=rfl
theorem Q7x{g:Get}{s:List UInt8}:frz g depth (.str s)=some (.str s):=rfl
theorem Qt{f:V->Option V}{x y:V}{l m:List V}(h:f x=some y)(h2:frzL f l=some m):frzL f (x::l)=some (y::m):=by simp only[frzL,h,h2]
theorem Ql9{dst:Option Nat}{f:FuncId}{args args' :List V}{v v' :V}{H' :Qg}(hp:pol.prim f=none)(hq:pol.pure fn f=true)(ha:frzL (frz (fun _ _=>none) depth) args=some args')
 (h:C f args' []=some (.ret v,H'))(hv:frz (Qd H') depth v=some v'):Zn pol C fn fr dst f args H=some (.ret v',H):=by
 simp only[Zn,hp,Pol.pureA_t hq,if_true,ha,h,hv,Ze4]
theorem Qti{dst:Option Nat}{f:FuncId}{args args' :List V}{v v' :V}{H' :Qg}(hp:pol.prim f=none)(hq:pol.alone fn dst=true)(ha:frzL (frz (fun _ _=>none) depth) args=some args')
 (h:C f args' []=some (.ret v,H'))(hv:frz (Qd H') depth v=some v'):Zn pol C fn fr dst f args H=some (.ret v',H):=by
 simp only[Zn,hp,Pol.pureA_a hq,if_true,ha,h,hv,Ze4]
end
section
variable {P : Program} {pol : Pol} {C : Call} {L : Yu -> Qas} {fn fr : Nat} {t : List V} {H : Qg} {k : List It} {r : List Oper} {d : Option Nat} {ty : TypeId} {ps : String} {af : Array Edge} {x y : Operand}
def gd(a:Array Oper)(t:List V)(j:Nat):Option V:=((a[j]?).bind (·.dst)).bind (t[·]?)
end
end Go.AM
end
