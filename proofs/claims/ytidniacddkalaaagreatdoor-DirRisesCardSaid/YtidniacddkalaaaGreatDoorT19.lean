/- This file holds in one the texts Bx52, Bx20; each says at its head what it proves. -/
import Derived.Test.YtidniacddkalaaaGreatDoorT9
import Derived.Test.YtidniacddkalaaaGreatDoorT18
set_option linter.unusedSimpArgs false
set_option linter.unusedVariables false
section
namespace Go.AM.BM
theorem K5(H:Heap){f s f' s' :Nat}(o o' :O)(h:¬(f=f' /\s=s')):hset (hset H f s o) f' s' o' =hset (hset H f' s' o') f s o:=by
 unfold hset;apply Zs7;intro i;simp only[Zq9];by_cases e1:f=i
 . by_cases e2:f' =i
   . have hs:s≠s' :=fun e=>h ⟨e1.trans e2.symm,e⟩;simp only[e1,e2,if_true];cases H[i]? with
     |none=>rfl
     |some x=>simp[Qmf s s' o o' hs x]
   . simp only[e1,e2,if_true,if_false];cases H[i]?<;>rfl
 . by_cases e2:f' =i
   . simp only[e1,e2,if_true,if_false];cases H[i]?<;>rfl
   . simp only[e1,e2,if_false]
theorem Qa7(H:Heap){f s f' s' :Nat}(o:O)(h:¬(f' =f/\s' =s)):Qd (hset H f s o) f' s' =Qd H f' s' :=by
 unfold Qd hset;rw[Zq9];by_cases e:f=f'
 . subst e;cases H[f]? with
   |none=>rfl
   |some x=>simp[Qcx];exact fun h' =>absurd ⟨rfl,h'⟩ h
 . simp only[e,if_false];cases H[f']?<;>rfl
theorem Qfs(s:Nat)(o:O):∀fr:Frame,Qgr (Kf fr s o)=max (Qgr fr) (s+1)
 |[]=>by simp[Kf,Qgr]
 |(k,p)::r=>by
  simp only[Kf];split
  . rename_i h;subst h;simp only[Qgr];omega
  . split
    . simp only[Qgr];omega
    . simp only[Qgr,Qfs s o r];omega
theorem Qsg(H:Heap)(f s:Nat)(o:O):Q4 H<=Q4 (hset H f s o):=by
 cases H with
 |nil=>simp[hset]
 |cons F G=>
  cases f with
  |zero=>simp only[hset,List.modify_cons,if_true,Q4,Qfs];omega
  |succ f=>simp[hset,List.modify_cons,Q4]
theorem Qxf(H:Heap){s:Nat}(o:O)(h:s<Q4 H):Q4 (hset H 0 s o)=Q4 H:=by
 cases H with
 |nil=>cases h
 |cons F G=>
  simp only[Q4] at h;simp only[hset,List.modify_cons,if_true,Q4,Qfs];omega
def Yx(s:Nat)(H:Heap):Prop:=s<Q4 H/\Qd H 0 s=none
theorem Yx.next{s:Nat}{H:Heap}(h:Yx s H)(x:O):Q4 (hset H 0 s x)=Q4 H:=Qxf H x h.1
theorem Yx.hset{s:Nat}{H:Heap}(h:Yx s H){f s' :Nat}{o:O}(hn:¬(f=0/\s' =s)):Yx s (hset H f s' o):=
 ⟨Zri h.1 (Qsg _ _ _ _),by rw[Qa7];exact h.2;exact fun e=>hn ⟨e.1.symm,e.2.symm⟩⟩
theorem Yx.get{s:Nat}{H:Heap}(h:Yx s H)(x:O){f s' :Nat}(hn:¬(f=0/\s' =s)):Qd (AM.hset H 0 s x) f s' =Qd H f s' :=Qa7 _ _ hn
theorem Yx.gle{s:Nat}{H:Heap}(h:Yx s H)(x:O):GLe (Qd H) (Qd (AM.hset H 0 s x)):=by intro f s' y hy;rw[h.get x];exact hy;rintro⟨rfl,rfl⟩;rw[h.2] at hy;cases hy
theorem Qbv{s:Nat}:∀{ws:List (Nat×Nat×O)} {H:Heap} (_:Yx s H) (x:O) (_:∀y∈ws,¬(y.1=0/\y.2.1=s)),wrL (hset H 0 s x) ws=hset (wrL H ws) 0 s x/\Yx s (wrL H ws)
 |[],H,h,x,_=>⟨rfl,h⟩
 |(f,s',o)::r,H,h,x,hn=>by
  have h0:¬(f=0/\s' =s):=hn _ Zry;simp only[wrL];rw[K5 H x o (fun e=>h0 ⟨e.1.symm,e.2.symm⟩)];exact Qbv (h.hset h0) x fun y hy=>hn y (Zrz _ hy)
theorem Qk7(H:Heap)(w:Option (Nat×Nat×O)):wr H w=wrL H w.toList:=by
 cases w with
 |none=>rfl
 |some y=>obtain⟨f,s,o⟩:=y;rfl
section
variable {P : Program} {pol : Pol} {C : Call} {L : Kw -> Kw} {fn : Nat}
def Qxw(b:Kw):Prop:=∀t H ex t' H' s x,b t H=some (ex,t',H')->Yx s H->b t (hset H 0 s x)=some (ex,t',hset H' 0 s x)/\Yx s H'
def Xv(C:Call):Prop:=∀f args H r H' s x,C f args H=some (r,H')->Yx s H->C f args (hset H 0 s x)=some (r,hset H' 0 s x)/\Yx s H'
def Q9f(L:Kw->Kw):Prop:=∀b,Qxw b->Qxw (L b)
structure Qjl(pol:Pol):Prop where
 prim:∀f g,pol.prim f=some g->∀nm G G' args v w,GLe G G' ->G' 0 nm=G 0 nm->g 0 (some nm) G args=some (v,w)->g 0 (some nm) G' args=some (v,w)/\∀x∈w.toList,(∃y,G x.1 x.2.1=some y)\/(x.1=0/\x.2.1=nm)
 loop:∀fn r g,pol.loop fn r=some g->∀t H t' H' s x,g t H=some (t',H')->Yx s H->g t (hset H 0 s x)=some (t',hset H' 0 s x)/\Yx s H'
 prims:∀f g,pol.prims f=some g->∀nm G G' args v ws,GLe G G' ->G' 0 nm=G 0 nm->g nm G args=some (v,ws)->g nm G' args=some (v,ws)/\∀x∈ws,(∃y,G x.1 x.2.1=some y)\/(x.1=0/\x.2.1=nm)
theorem Qlx{H:Heap}{s:Nat}{x:O}{v v' :V}{w:Option (Nat×Nat×O)}(sp:Yx s H)(h:Qiw (Qd H) v=some (v',w)):Qiw (Qd (hset H 0 s x)) v=some (v',w)/\∀y∈w.toList,¬(y.1=0/\y.2.1=s):=by
 unfold Qiw at h⊢;split at h
 . rename_i f s' o len cap esz;split at h
   case h_2=>cases h
   rename_i xs hg;have hne:¬(f=0/\s' =s):=by rintro⟨rfl,rfl⟩;rw[sp.2] at hg;cases hg
   simp only[sp.get x hne,hg];split at h
   case isFalse=>cases h
   rename_i hc;cases h;rw[if_pos hc];refine⟨rfl,fun y hy=>?_⟩;simp only[Option.toList,Zr0] at hy;subst hy;exact hne
 . cases h;exact⟨rfl,fun y hy=>by cases hy⟩
theorem Q5j{H:Heap}{s:Nat}{x:O}{v v' :V}{w:Option (Nat×Nat×O)}(sp:Yx s H)(h:Qyw (Qd H) v=some (v',w)):Qyw (Qd (hset H 0 s x)) v=some (v',w)/\∀y∈w.toList,¬(y.1=0/\y.2.1=s):=by
 unfold Qyw at h⊢;split at h
 . rename_i y r;cases hy:Qiw (Qd H) y with
   |none=>rw[hy] at h;cases h
   |some z=>
    rw[hy] at h;cases h;obtain⟨g1,g2⟩:=Qlx (x:=x) sp (v' :=z.1) (w:=z.2) hy;exact⟨by simp only[g1,Zrb],g2⟩
 . exact Qlx sp h
theorem Q7f{b:Bool}{X Y:Option (Rt×Heap)}{s:Nat}{x:O}{H' :Heap}{r:Rt}(hX:∀r H,X=some (r,H)->Y=some (r,hset H 0 s x)/\Yx s H)(h:Qz6 b X=some (r,H')):Qz6 b Y=some (r,hset H' 0 s x)/\Yx s H' :=by
 cases b with
 |false=>exact hX r H' h
 |true=>
  simp only[Qz6] at h⊢;split at h
  . rename_i v H1;obtain⟨rfl,sp⟩:=hX _ _ rfl;split at h
    case h_2=>cases h
    rename_i v' w hv;cases h;obtain⟨g1,g2⟩:=Q5j (x:=x) sp hv;simp only[g1,Zui,Prod.mk.injEq,true_and];rw[Qk7,Qk7];obtain⟨q1,q2⟩:=Qbv sp x (ws:=w.toList) g2;exact⟨q1,q2⟩
  . rename_i hno;obtain⟨rfl,sp⟩:=hX r H' h;cases r with
    |ret v=>exact absurd h (hno v H')
    |pan v=>exact⟨rfl,sp⟩
theorem Q2n{H:Heap}{s:Nat}{x:O}{i:Option Nat}{args as:List V}{w:Option (Nat×Nat×O)}(sp:Yx s H)(h:Qko (Qd H) i args=some (as,w)):Qko (Qd (hset H 0 s x)) i args=some (as,w)/\∀y∈w.toList,¬(y.1=0/\y.2.1=s):=by
 unfold Qko at h⊢;split at h
 . cases h;exact⟨rfl,fun y hy=>by cases hy⟩
 . split at h
   case h_2=>cases h
   rename_i v hv;split at h
   case h_2=>cases h
   rename_i y w' hy;cases h;obtain⟨g1,g2⟩:=Qlx (x:=x) sp hy;simp only[hv,g1];exact⟨trivial,g2⟩
theorem Qeg(tm:Qjl pol)(hC:Xv C){f:FuncId}{args:List V}{H H' :Heap}{r:Rt}{s:Nat}{x:O}(h:callOp pol C (Q4 H) f args H=some (r,H'))(sp:Yx s H):
 callOp pol C (Q4 H) f args (hset H 0 s x)=some (r,hset H' 0 s x)/\Yx s H' :=by
 unfold callOp at h⊢;cases hps:pol.prims f with
 |some g=>
  rw[hps] at h;simp only at h⊢;obtain⟨⟨v,ws⟩,h1,h2⟩:=Ztb.1 h;have hne:¬(0=0/\Q4 H=s):=fun e=>by have:=sp.1;omega
  obtain⟨g1,g2⟩:=tm.prims f g hps (Q4 H) _ _ args v ws (sp.gle x) (sp.get x hne) h1;rw[g1];simp only[Zrb,Zui,Prod.mk.injEq] at h2⊢;obtain⟨h3,h4⟩:=h2;obtain⟨q1,q2⟩:=Qbv sp x (ws:=ws) (fun y hy=>by
   rcases g2 y hy with⟨z,hz⟩|⟨e1,e2⟩
   . rintro⟨e1,e2⟩;rw[e1,e2,sp.2] at hz;cases hz
   . rintro⟨_,e3⟩;exact hne ⟨rfl,by omega⟩)
  rw[q1,<-h4];exact⟨⟨h3,rfl⟩,q2⟩
 |none=>
 rw[hps] at h;simp only at h⊢;cases hp:pol.prim f with
 |none=>
  rw[hp] at h;simp only at h⊢;split at h
  case h_2=>cases h
  rename_i as w has;obtain⟨g1,g2⟩:=Q2n (x:=x) sp has;rw[g1];rw[Qk7] at h;simp only;obtain⟨q1,q2⟩:=Qbv sp x (ws:=w.toList) g2;rw[Qk7,q1];exact Q7f (fun r H1 hX=>hC _ _ _ _ _ s x hX q2) h
 |some g=>
  rw[hp] at h;simp only at h⊢;obtain⟨⟨v,w⟩,h1,h2⟩:=Ztb.1 h;have hne:¬(0=0/\Q4 H=s):=fun e=>by have:=sp.1;omega
  obtain⟨g1,g2⟩:=tm.prim f g hp (Q4 H) _ _ args v w (sp.gle x) (sp.get x hne) h1;rw[g1];simp only[Zrb,Zui,Prod.mk.injEq] at h2⊢;obtain⟨h3,h4⟩:=h2;rw[Qk7] at h4⊢;obtain⟨q1,q2⟩:=Qbv sp x (ws:=w.toList) (fun y hy=>by
   rcases g2 y hy with⟨z,hz⟩|⟨e1,e2⟩
   . rintro⟨e1,e2⟩;rw[e1,e2,sp.2] at hz;cases hz
   . rintro⟨_,e3⟩;exact hne ⟨rfl,by omega⟩)
  rw[q1,<-h4];exact⟨⟨h3,rfl⟩,q2⟩
theorem Qhf{mt:Nat->Bool}{fr nm:Nat}{g:Get}{ρ:Operand->V}{o:Oper}{r:V×List (Nat×Nat×O)}(h:J7 P g ρ nm o.op=some r):Zr P mt fr g ρ o=none:=by
 unfold J7 at h;split at h<;>try (cases h;done)
 . rename_i t x lo hi hop;unfold Qrc at h;split at h<;>try (cases h;done)
   rename_i _ _ _ _ el f s o' len e' kl il kh ih hu hx hl hh;split at h<;>try (cases h;done)
   rename_i n xs hn hg;split at h<;>try (cases h;done)
   rename_i hc;obtain⟨rfl,h1,h2,h3,h4,h5⟩:=hc;have hcut:Xs len len (some il) (some ih) none=none:=by unfold Xs;rw[if_neg];rintro⟨_,_,_,k,_⟩;simp at k;omega
   simp only[Zr,hop,Zh,Zrb,Ztc,hx,hl,hh,Yj,hu,hn,if_true,Qps,hcut]
 rename_i c hop;simp only[Zr,hop];split at h<;>try (cases h;done)
 . rename_i s x t t2 ts hc ha ht;simp only[hc,ha,Zrw,Zsc];have h0:c.argTypes[0]?=some t:=by rw[<-Zso,ht];rfl
   have h1:c.argTypes[1]?=some t2:=by rw[<-Zso,ht];rfl
   simp only[builtinV,h0,h1];unfold Qh5 at h;split at h<;>try (cases h;done)
   rename_i e f sl len e' hu hs;split at h<;>try (cases h;done)
   rename_i n by_ z h2 h3 h4;split at h<;>try (cases h;done)
   rename_i h5;split at h<;>try (cases h;done)
   rename_i xs new m h6 h7 h8;split at h<;>try (cases h;done)
   rename_i h9;obtain⟨h51,h52,h53⟩:=h5;subst h52;simp only[Qq,hu,h2,h3,h4,h51,if_true,h8,hs,appendTo,true_and];split
   . rw[h6];simp only;rw[if_neg];rintro⟨e1,_,_⟩;have:=h9.1;rw[this] at e1;have:(len+(m+1))*e' =len*e' +(m+1)*e' :=by rw[Ztd]
     have:0<(m+1)*e' :=Nat.mul_pos (by omega) h53;omega
   . rfl
 . rename_i s t hc ha ht;simp only[hc,ha,Zrw,Zsc,builtinV]
theorem Xq(tm:Qjl pol)(hC:Xv C){nm:Nat}{t t' :List V}{H H' :Heap}{o:Oper}{ex:Ex}{s:Nat}{x:O}(h:Q7 P pol C nm t H o=some (ex,t',H'))(sp:Yx s H)(hnm:nm≠s):
 Q7 P pol C nm t (hset H 0 s x) o=some (ex,t',hset H' 0 s x)/\Yx s H' :=by
 have hne:¬(0=0/\nm=s):=fun e=>hnm e.2;have hd:∀d,(atN o nm).dst=some d->Qd (hset H 0 s x) 0 d=Qd H 0 d:=fun d e=>by cases e;exact sp.get x hne
 have tgt:∀ws:List (Nat×Nat×O),(∀y∈ws,(∃z,Qd H y.1 y.2.1=some z)\/(y.1=0/\y.2.1=nm))->∀y∈ws,¬(y.1=0/\y.2.1=s):=by
  intro ws hw y hy;rcases hw y hy with⟨z,hz⟩|⟨e1,e2⟩
  . rintro⟨e1,e2⟩;rw[e1,e2,sp.2] at hz;cases hz
  . rintro⟨_,e3⟩;exact hnm (by omega)
 unfold Q7 at h;split at h
 . rename_i hev;split at h
   case h_2=>cases h
   rename_i v ws hm;cases h;have hm' :=Qni (sp.gle x) (sp.get x hne) hm;have hev' :Zr P (fun _=>true) 0 (Qd (hset H 0 s x)) (rho t) (atN o nm)=none:=Qhf (nm:=nm) hm';obtain⟨q1,q2⟩:=Qbv sp x (ws:=ws) (tgt ws (Q2q hm));simp only[Q7,hev',hm',q1];exact⟨trivial,q2⟩
 . rename_i v w hev;cases h;have hev' :=Qap (sp.gle x) hd hev;have ht:=Q9s hev;obtain⟨q1,q2⟩:=Qbv sp x (ws:=w.toList) (tgt w.toList (fun y hy=>by
    cases w with
    |none=>cases hy
    |some z=>
     obtain⟨f,s',o'⟩:=z;rw[Option.toList_some,Zr0] at hy;subst hy;rcases ht v f s' o' rfl with h1|⟨h1,h2⟩
     . exact .inl h1
     . cases h2;exact .inr ⟨h1,rfl⟩))
   simp only[Q7,hev',Qk7,q1];exact⟨trivial,q2⟩
 . rename_i v hev;cases h;simp only[Q7,Qap (sp.gle x) hd hev];exact⟨trivial,sp⟩
 . rename_i f args hev;simp only[Q7,Qap (sp.gle x) hd hev,sp.next x];split at h
   . rename_i v H1 hc;cases h;obtain⟨q1,q2⟩:=Qeg tm hC (x:=x) hc sp;rw[q1];exact⟨rfl,q2⟩
   . rename_i v H1 hc;cases h;obtain⟨q1,q2⟩:=Qeg tm hC (x:=x) hc sp;rw[q1];exact⟨rfl,q2⟩
   . cases h
 . rename_i f s' args hev;simp only[Q7,Qap (sp.gle x) hd hev];split at h
   case h_2=>cases h
   rename_i v H1 hc;cases h;obtain⟨q1,q2⟩:=hC _ _ _ _ _ s x hc sp;rw[q1];exact⟨rfl,q2⟩
theorem Yk(tm:Qjl pol)(hC:Xv C){ops:Array Oper}{s:Nat}{x:O}:∀(l:List Oper) {t t' :List V} {H H' :Heap} {ex:Ex},Zi P pol C ops l t H=some (ex,t',H')->Yx s H->
 Zi P pol C ops l t (hset H 0 s x)=some (ex,t',hset H' 0 s x)/\Yx s H'
 |[],_,_,_,_,_,h,sp=>by cases h;exact⟨rfl,sp⟩
 |o::l,t,t',H,H',ex,h,sp=>by
  simp only[Zi] at h⊢;split at h
  . cases h
  . exact Yk tm hC l h sp
  . rw[sp.next x];have hnm:Q4 H≠s:=by have:=sp.1;omega
    split at h
    . rename_i t1 H1 hop;obtain⟨q1,q2⟩:=Xq (x:=x) tm hC hop sp hnm;rw[q1];exact Yk tm hC l h q2
    . rename_i y hne;obtain⟨q1,q2⟩:=Xq (x:=x) tm hC h sp hnm;rw[q1];cases ex with
      |normal=>exact absurd h (hne _ _)
      |_=>exact⟨rfl,q2⟩
theorem Qkw{nm s:Nat}{H:Heap}{x:O}(sp:Yx s H)(hnm:nm≠s)(ws:List (Nat×Nat×O)):Qac nm (hset H 0 s x) ws=Qac nm H ws:=by
 unfold Qac;split
 . rw[sp.get x (fun e=>hnm e.2)]
 . rfl
theorem Q1l{lim s:Nat}{H H1:Heap}{x:O}(sp:Yx s H)(sp1:Yx s H1):Qi5 lim (hset H 0 s x) (hset H1 0 s x)=Qi5 lim H H1:=by
 funext f s';unfold Qi5;by_cases e:f=0/\s' =s
 . obtain⟨rfl,rfl⟩:=e;rw[sp.2,sp1.2,sp.next x];have h1:Qd (hset H 0 s' x) 0 s' =Qd (hset H1 0 s' x) 0 s' :=by
    have l0:0<H.length:=by have:=sp.1;cases H with|nil=>cases this|cons=>simp
    have l1:0<H1.length:=by have:=sp1.1;cases H1 with|nil=>cases this|cons=>simp
    rw[Ba _ _ _ _ l0,Ba _ _ _ _ l1];simp
   rw[(Qx6 _ _).2 h1];rfl
 . rw[sp.get x e,sp1.get x e,sp.next x]
theorem Q6q{lim nm:Nat}{t t' :List V}{H H1:Heap}{o:Oper}{ex:Ex}{s:Nat}{x:O}(h:Q7 P pol C nm t H o=some (ex,t',H1))(sp:Yx s H)(sp1:Yx s H1)(hnm:nm≠s):
 Jk P lim nm t (hset H 0 s x) (hset H1 0 s x) o=Jk P lim nm t H H1 o:=by
 have hne:¬(0=0/\nm=s):=fun e=>hnm e.2;have hd:∀d,(atN o nm).dst=some d->Qd (hset H 0 s x) 0 d=Qd H 0 d:=fun d e=>by cases e;exact sp.get x hne
 unfold Jk;split
 . rfl
 split
 . rfl
 unfold Q7 at h;split at h
 . rename_i hev;split at h
   case h_2=>cases h
   rename_i v ws hm;have hm' :=Qni (sp.gle x) (sp.get x hne) hm;have hev' :Zr P (fun _=>true) 0 (Qd (hset H 0 s x)) (rho t) (atN o nm)=none:=Qhf (nm:=nm) hm';simp only[hev,hev',hm,hm',Qkw sp hnm]
 . rename_i v w hev;simp only[hev,Qap (sp.gle x) hd hev,Qkw sp hnm]
 . rename_i v hev;simp only[hev,Qap (sp.gle x) hd hev]
 . rename_i f args hev;simp only[hev,Qap (sp.gle x) hd hev,Q1l sp sp1]
 . rename_i f s' args hev;simp only[hev,Qap (sp.gle x) hd hev]
theorem Kj(tm:Qjl pol)(hC:Xv C){ops:Array Oper}{lim s:Nat}{x:O}:∀(l:List Oper) {nm:Nat} {t t' :List V} {H H' :Heap} {T:List FP},Q3 P pol C ops lim nm l t H=some (t',H',T)->Yx s H->s<nm->
 Q3 P pol C ops lim nm l t (hset H 0 s x)=some (t',hset H' 0 s x,T)/\Yx s H'
 |[],_,_,_,_,_,_,h,sp,_=>by cases h;exact⟨rfl,sp⟩
 |o::l,nm,t,t',H,H',T,h,sp,hs=>by
  simp only[Q3] at h⊢;split at h
  . cases h
  . split at h
    case h_2=>cases h
    rename_i t1 H1 T1 hr;cases h;obtain⟨q1,q2⟩:=Kj (x:=x) tm hC l hr sp (by omega);rw[q1];exact⟨rfl,q2⟩
  . split at h
    case h_2=>cases h
    rename_i t1 H1 hop;split at h
    case h_2=>cases h
    rename_i t2 H2 T2 hr;cases h;obtain⟨q1,q2⟩:=Xq (x:=x) tm hC hop sp (by omega);obtain⟨q3,q4⟩:=Kj (x:=x) tm hC l hr q2 (by omega);rw[q1];simp only[q3,Q6q (x:=x) hop sp q2 (by omega)];exact⟨trivial,q4⟩
theorem Q0d{g g' :Get}(hg:GLe g g'){y:V}{l:List (V×Option (Nat×Nat×O))}(h:Y5 g y=some l):Y5 g' y=some l:=by
 unfold Y5 at h⊢;split at h<;>try (cases h;done)
 split at h<;>try (cases h;done)
 . rename_i he;rw[hg _ _ _ he];exact h
 . rename_i he;rw[hg _ _ _ he];simp only;split at h<;>try (cases h;done)
   rename_i he2;rw[hg _ _ _ he2];exact h
theorem Q6k{g:Get}{y:V}{l:List (V×Option (Nat×Nat×O))}(h:Y5 g y=some l):∀c∈l,∀z∈c.2.toList,∃w,g z.1 z.2.1=some w:=by
 unfold Y5 at h
 (repeat' split at h)<;>cases h
 . intro c hc z hz;rw[Zr0] at hc;subst hc;rw[Option.toList_some,Zr0] at hz;subst hz;exact⟨_,by assumption⟩
 . intro c hc z hz;rw[Zr0] at hc;subst hc;rw[Option.toList_some,Zr0] at hz;subst hz;exact⟨_,by assumption⟩
 . intro c hc z hz;obtain⟨e,_,rfl⟩:=Zr3.1 hc;rw[Option.toList_some,Zr0] at hz;subst hz;exact⟨_,by assumption⟩
theorem Y8(tm:Qjl pol)(hC:Xv C)(hL:Q9f L):∀(c:Code),Qxw (Q5 P pol C L fn c)/\
 ∀v w t H ex t' H' s x,Z5 P pol C L fn c v w t H=some (ex,t',H')->(∀z∈w.toList,¬(z.1=0/\z.2.1=s))->Yx s H->Z5 P pol C L fn c v w t (hset H 0 s x)=some (ex,t',hset H' 0 s x)/\Yx s H' :=by
 intro c
 induction c with
 |skip=>exact⟨fun t H ex t' H' s x h sp=>by cases h;exact⟨rfl,sp⟩,fun v w t H ex t' H' s x h=>by cases h⟩
 |exit id=>exact⟨fun t H ex t' H' s x h sp=>by cases h;exact⟨rfl,sp⟩,fun v w t H ex t' H' s x h=>by cases h⟩
 |ret=>exact⟨fun t H ex t' H' s x h sp=>by cases h;exact⟨rfl,sp⟩,fun v w t H ex t' H' s x h=>by cases h⟩
 |scope b ih=>exact⟨fun t H ex t' H' s x h=>(by cases h),fun v w t H ex t' H' s x h=>by cases h⟩
 |label l=>exact⟨fun t H ex t' H' s x h=>(by cases h),fun v w t H ex t' H' s x h=>by cases h⟩
 |goto l=>exact⟨fun t H ex t' H' s x h=>(by cases h),fun v w t H ex t' H' s x h=>by cases h⟩
 |refuse l=>exact⟨fun t H ex t' H' s x h=>(by cases h),fun v w t H ex t' H' s x h=>by cases h⟩
 |region id ops draw=>
  refine⟨fun t H ex t' H' s x h sp=>?_,fun v w t H ex t' H' s x h hw sp=>?_⟩
  . simp only[Q5] at h⊢;cases draw with
    |false=>simp only[Zre,if_false] at h⊢;exact Yk tm hC _ h sp
    |true=>
     simp only[if_true] at h⊢;split at h
     . cases h
     rename_i hfree;split at h
     case h_2=>cases h
     rename_i t1 H1 T hT;split at h
     case isFalse=>cases h
     rename_i hok;cases h;have hlt:=sp.1;rw[sp.next x,sp.get x (by omega),hfree,K5 H x .dead (by omega)];simp only;obtain⟨q1,q2⟩:=Kj (x:=x) tm hC _ hT (sp.hset (by omega)) hlt;rw[q1];simp only[hok,if_true];exact⟨trivial,q2⟩
  . simp only[Z5] at h⊢;split at h
    case h_2=>cases h
    rename_i o r ho;rw[Qk7] at h⊢;obtain⟨q1,q2⟩:=Qbv sp x hw;rw[q1];exact Yk tm hC _ h q2
 |seq a b iha ihb=>
  refine⟨fun t H ex t' H' s x h sp=>?_,fun v w t H ex t' H' s x h hw sp=>?_⟩
  . simp only[Q5] at h⊢;split at h
    . rename_i t1 H1 ha;obtain⟨q1,q2⟩:=iha.1 _ _ _ _ _ s x ha sp;rw[q1];exact ihb.1 _ _ _ _ _ s x h q2
    . rename_i y hne;obtain⟨q1,q2⟩:=iha.1 _ _ _ _ _ s x h sp;rw[q1];cases ex with
      |normal=>exact absurd h (hne _ _)
      |_=>exact⟨rfl,q2⟩
  . simp only[Z5] at h⊢;split at h
    . rename_i t1 H1 ha;obtain⟨q1,q2⟩:=iha.2 _ _ _ _ _ _ _ s x ha hw sp;rw[q1];exact ihb.1 _ _ _ _ _ s x h q2
    . rename_i y hne;obtain⟨q1,q2⟩:=iha.2 _ _ _ _ _ _ _ s x h hw sp;rw[q1];cases ex with
      |normal=>exact absurd h (hne _ _)
      |_=>exact⟨rfl,q2⟩
 |cond c a b iha ihb=>
  refine⟨fun t H ex t' H' s x h sp=>?_,fun v w t H ex t' H' s x h=>by cases h⟩;simp only[Q5] at h⊢;split at h
  case h_2=>cases h
  rename_i q hq;split at h
  . rename_i e;rw[if_pos e];exact iha.1 _ _ _ _ _ s x h sp
  . rename_i e;rw[if_neg e];exact ihb.1 _ _ _ _ _ s x h sp
 |block id b ih=>
  refine⟨fun t H ex t' H' s x h sp=>?_,fun v w t H ex t' H' s x h=>by cases h⟩;simp only[Q5] at h⊢;split at h
  . rename_i i t1 H1 hb;obtain⟨q1,q2⟩:=ih.1 _ _ _ _ _ s x hb sp;rw[q1];simp only;split at h
    . rename_i e;cases h;rw[if_pos e];exact⟨rfl,q2⟩
    . rename_i e;cases h;rw[if_neg e];exact⟨rfl,q2⟩
  . rename_i y hne;obtain⟨q1,q2⟩:=ih.1 _ _ _ _ _ s x h sp;rw[q1];cases ex with
    |exit i=>exact absurd h (hne _ _ _)
    |_=>exact⟨rfl,q2⟩
 |loop b ih=>
  refine⟨fun t H ex t' H' s x h sp=>?_,fun v w t H ex t' H' s x h=>by cases h⟩;simp only[Q5] at h⊢;split at h
  . rename_i g hp;obtain⟨⟨t1,H1⟩,h1,h2⟩:=Ztb.1 h;cases h2;obtain⟨q1,q2⟩:=tm.loop _ _ _ hp _ _ _ _ s x h1 sp;rw[q1];exact⟨rfl,q2⟩
  . refine hL _ ?_ _ _ _ _ _ s x h sp;intro t H ex t' H' s x h sp;cases hn:Zx b with
    |none=>rw[hn] at h;exact ih.1 _ _ _ _ _ s x h sp
    |some y=>
     rw[hn] at h;simp only at h⊢;split at h
     case h_2=>cases h
     rename_i c hc;rw[Q0d (sp.gle x) hc];refine ih.2 _ _ _ _ _ _ _ s x h ?_ sp;intro z hz;obtain⟨w,hw⟩:=Q6k hc c (by simp) z hz;rintro⟨e1,e2⟩;rw[e1,e2,sp.2] at hw;cases hw
 |rangeFunc g ps a b iha ihb=>
  refine⟨fun t H ex t' H' s x h sp=>?_,fun v w t H ex t' H' s x h=>by cases h⟩;simp only[Q5] at h⊢;split at h
  case h_2=>cases h
  rename_i f first cap hg
  split at h
  case h_2=>cases h
  rename_i hn;split at h
  case h_2=>cases h
  rename_i v H2 hc;have hlt:=sp.1;have hne:¬(0=0/\Q4 H=s):=by omega
  rw[sp.next x,sp.get x hne,hn];simp only;rw[K5 H x _ (by omega)];obtain⟨q1,q2⟩:=hC _ _ _ _ _ s x hc (sp.hset hne);rw[q1];simp only;unfold Kx at h⊢;rw[q2.get x hne];split at h
  case h_2=>cases h
  rename_i st pend f2 r2 t2 hg2;split at h
  . cases h
  rename_i hst;rw[if_neg hst,K5 H2 x .dead (by omega)];cases pend with
  |none=>cases h;exact⟨rfl,q2.hset hne⟩
  |some j=>
   cases j with
   |none=>cases h;exact⟨rfl,q2.hset hne⟩
   |some i=>cases h;exact⟨rfl,q2.hset hne⟩
theorem Yt{b:Kw}(hb:Qxw b):∀n,Qxw (Zw b n)
 |0=>fun t H ex t' H' s x h=>by cases h
 |n+1=>fun t H ex t' H' s x h sp=>by
  simp only[Zw] at h⊢;split at h
  . rename_i t1 H1 ha;obtain⟨q1,q2⟩:=hb _ _ _ _ _ s x ha sp;rw[q1];exact Yt hb n _ _ _ _ _ s x h q2
  . rename_i y hne;obtain⟨q1,q2⟩:=hb _ _ _ _ _ s x h sp;rw[q1];cases ex with
    |normal=>exact absurd h (hne _ _)
    |_=>exact⟨rfl,q2⟩
theorem Qr9{t:List V}{H:Heap}{s:Nat}(x:O)(sp:Yx s H):∀(rs:List ResultVar) (vs:List V),Ks P t H rs=some vs->Ks P t (hset H 0 s x) rs=some vs
 |[],_,h=>h
 |r::rs,vs,h=>by
  simp only[Ks] at h⊢;split at h
  case h_2=>cases h
  rename_i v vs' h1 h2;rw[Qr9 x sp rs vs' h2];have:Jv P t (hset H 0 s x) r=some v:=by
   cases r with
   |tmp i=>exact h1
   |cell a T=>
    simp only[Jv] at h1⊢;split at h1
    case h_2=>cases h1
    split at h1
    case h_2=>cases h1
    rename_i he;rw[sp.gle x _ _ _ he];exact h1
  rw[this];exact h
theorem Qh9{F:Func}{t:List V}{H:Heap}{s:Nat}(x:O)(sp:Yx s H){v:V}(h:Xn P F t H=some v):Xn P F t (hset H 0 s x)=some v:=by
 unfold Xn at h⊢;cases hl:Ks P t H F.results.toList with
 |none=>rw[hl] at h;cases h
 |some vs=>rw[hl] at h;rw[Qr9 x sp _ _ hl];exact h
theorem Qpe(tm:Qjl pol)(hC:Xv C)(hL:Q9f L):∀(c:Code) (t:List V) (H:Heap) (ex:Ex) (t' :List V) (H' :Heap) (ds:List V) (s:Nat) (x:O),Qdw P pol C L fn c t H=some (ex,t',H',ds)->Yx s H->
 Qdw P pol C L fn c t (hset H 0 s x)=some (ex,t',hset H' 0 s x,ds)/\Yx s H' :=by
 have base:∀(c:Code) (t:List V) (H:Heap) (ex:Ex) (t' :List V) (H' :Heap) (ds:List V) (s:Nat) (x:O),noD (Q5 P pol C L fn c t H)=some (ex,t',H',ds)->Yx s H->noD (Q5 P pol C L fn c t (hset H 0 s x))=some (ex,t',hset H' 0 s x,ds)/\Yx s H' :=by
  intro c t H ex t' H' ds s x h sp;cases he:Q5 P pol C L fn c t H with
  |none=>rw[he] at h;cases h
  |some q=>
   obtain⟨e,t1,H1⟩:=q;rw[he] at h;cases h;obtain⟨q1,q2⟩:=(Y8 tm hC hL c).1 _ _ _ _ _ s x he sp;rw[q1];exact⟨rfl,q2⟩
 intro c
 induction c with
 |seq a b _ ihb=>
  intro t H ex t' H' ds s x h sp;simp only[Qdw] at h⊢;split at h
  . rename_i ops l d y hd;split at h
    case h_2=>cases h
    rename_i t1 H1 h1;obtain⟨q1,q2⟩:=Yk tm hC l h1 sp (x:=x);rw[q1];simp only;split at h
    case h_2=>cases h
    rename_i f p q hv;split at h
    case h_2=>cases h
    rename_i ex2 t2 H2 ds2 h2;cases h;obtain⟨q3,q4⟩:=ihb _ _ _ _ _ _ s x h2 q2;rw[q3];exact⟨rfl,q4⟩
  . split at h
    . rename_i hl;rw[if_pos hl];split at h
      . rename_i t1 H1 h1;obtain⟨q1,q2⟩:=(Y8 tm hC hL a).1 _ _ _ _ _ s x h1 sp;rw[q1];exact ihb _ _ _ _ _ _ s x h q2
      . rename_i e t1 H1 hne h1;cases h;obtain⟨q1,q2⟩:=(Y8 tm hC hL a).1 _ _ _ _ _ s x h1 sp;rw[q1];cases ex with
        |normal=>exact(hne rfl).elim
        |_=>exact⟨rfl,q2⟩
      . cases h
    . rename_i hl;rw[if_neg hl];exact base _ _ _ _ _ _ _ _ _ h sp
 |_=>intro t H ex t' H' ds s x h sp;simp only[Qdw] at h⊢;exact base _ _ _ _ _ _ _ _ _ h sp
theorem Qj0(hC:Xv C):∀(ds:List V) (H H' :Heap) (s:Nat) (x:O),Qee P C ds H=some H' ->Yx s H->Qee P C ds (hset H 0 s x)=some (hset H' 0 s x)/\Yx s H'
 |[],H,H',s,x,h,sp=>by cases h;exact⟨rfl,sp⟩
 |v::ds,H,H',s,x,h,sp=>by
  unfold Qee at h;split at h
  . rename_i e;cases e
  . rename_i g first cap ds' e
    cases e;split at h
    case isFalse=>cases h
    rename_i hp;split at h
    case h_2=>cases h
    rename_i r H1 h1;obtain⟨q1,q2⟩:=hC _ _ _ _ _ s x h1 sp;obtain⟨q3,q4⟩:=Qj0 hC ds H1 H' s x h q2;simp only[Qee,hp,if_true,q1];exact⟨q3,q4⟩
  . cases h
theorem Qjz(tm:Qjl pol)(hC:Xv C)(hL:Q9f L):Xv (Qd6 P pol C L):=by
 intro f args H r H' s x h sp;cases f with
 |some f=>
  simp only[Qd6,Qbc] at h⊢;split at h
  case h_2=>cases h
  rename_i Fn hF;split at h
  case h_2=>cases h
  rename_i c hc;by_cases hdc:Qj2 c=true
  . rw[if_pos hdc] at h⊢;simp only[Qzr] at h⊢;split at h
    . rename_i t1 H1 ds he;obtain⟨q1,q2⟩:=Qpe tm hC hL c _ _ _ _ _ _ s x he sp;rw[q1];simp only;split at h
      case h_2=>cases h
      rename_i H2 h2;obtain⟨q3,q4⟩:=Qj0 hC ds _ _ s x h2 q2;rw[q3];simp only;split at h
      case h_2=>cases h
      rename_i v hv;cases h;rw[Qh9 x q4 hv];exact⟨rfl,q4⟩
    . rename_i t1 H1 ds he;obtain⟨q1,q2⟩:=Qpe tm hC hL c _ _ _ _ _ _ s x he sp;rw[q1];simp only;split at h
      case h_2=>cases h
      rename_i H2 h2;obtain⟨q3,q4⟩:=Qj0 hC ds _ _ s x h2 q2;rw[q3];simp only;split at h
      case h_2=>cases h
      rename_i v hv;cases h;rw[Qh9 x q4 hv];exact⟨rfl,q4⟩
    . cases h
  rw[if_neg hdc] at h⊢;split at h
  . rename_i t1 H1 he;obtain⟨q1,q2⟩:=(Y8 tm hC hL c).1 _ _ _ _ _ s x he sp;rw[q1];simp only;split at h
    case h_2=>cases h
    rename_i v hv;cases h;rw[Qh9 x q2 hv];exact⟨rfl,q2⟩
  . rename_i t1 H1 he;obtain⟨q1,q2⟩:=(Y8 tm hC hL c).1 _ _ _ _ _ s x he sp;rw[q1];simp only;split at h
    case h_2=>cases h
    rename_i v hv;cases h;rw[Qh9 x q2 hv];exact⟨rfl,q2⟩
  . rename_i v t1 H1 he;cases h;obtain⟨q1,q2⟩:=(Y8 tm hC hL c).1 _ _ _ _ _ s x he sp;rw[q1];exact⟨rfl,q2⟩
  . cases h
 |none=>
  simp only[Qd6] at h⊢;split at h
  case h_2=>cases h
  rename_i fo so rest;simp only[Qa0] at h⊢;split at h
  case h_2=>cases h
  rename_i pend fL rid t0 hg;rw[sp.gle x _ _ _ hg];simp only;split at h
  case h_2=>cases h
  rename_i ps a b hl;split at h
  case isFalse=>cases h
  rename_i hlen;rw[if_pos hlen];split at h
  case h_2=>cases h
  rename_i t1 H1 he1;obtain⟨q1,q2⟩:=(Y8 tm hC hL a).1 _ _ _ _ _ s x he1 sp;rw[q1];simp only;split at h
  case h_2=>cases h
  rename_i pend1 fL1 rid1 t01 hg1;rw[q2.gle x _ _ _ hg1];simp only;split at h
  case h_2=>cases h
  rename_i e t2 H2 he2;have n1:¬(fo=0/\so=s):=by rintro⟨rfl,rfl⟩;rw[q2.2] at hg1;cases hg1
  rw[K5 H1 x _ (fun e=>n1 ⟨e.1.symm,e.2.symm⟩)];obtain⟨q3,q4⟩:=(Y8 tm hC hL b).1 _ _ _ _ _ s x he2 (q2.hset n1);rw[q3];simp only;unfold Bq at h⊢;split at h
  case h_2=>cases h
  rename_i st3 pend3 fL3 rid3 t03 hg3;rw[q4.gle x _ _ _ hg3];simp only;rw[K5 H2 x _ (fun e=>n1 ⟨e.1.symm,e.2.symm⟩),K5 H2 x _ (fun e=>n1 ⟨e.1.symm,e.2.symm⟩)];cases e with
  |normal=>cases h;exact⟨rfl,q4.hset n1⟩
  |ret=>cases h;exact⟨rfl,q4.hset n1⟩
  |exit i=>simp only at h⊢;cases h;rw[K5 H2 x _ (fun e=>n1 ⟨e.1.symm,e.2.symm⟩)];exact⟨rfl,q4.hset n1⟩
  |panic v=>cases h
theorem J5(tm:Qjl pol):∀n,Xv (Ye P pol n)
 |0=>fun f args H r H' s x h=>by cases h
 |n+1=>Qjz tm (J5 tm n) fun b hb=>Yt hb n
end
def Ko(ops:Array Oper)(o:Oper):List Nat:=
 o.dst.toList++(o.op.operands.toList.filterMap fun| .tmp i=>some i|_=>none)++(match o.guard with|some (j,_)=>((ops[j]?).bind (·.dst)).toList|none=>[])
def Jt(ops:Array Oper)(a b:Oper):Bool:=
 (match a.dst with|some d=> !(Ko ops b).contains d|none=>true)&&(match b.dst with|some d=> !(Ko ops a).contains d|none=>true)
section
variable {P : Program} {pol : Pol} {C : Call} {ops : Array Oper}
theorem Qhe(t:List V)(dst:Option Nat)(v:V)(i:Nat)(h:dst≠some i):(Qu t dst v)[i]?=t[i]?:=by
 cases dst with
 |none=>rfl
 |some d=>
  simp only[Qu];rw[List.getElem?_set_ne];exact fun e=>h (by rw[e])
theorem Qtb(t:List V)(dst:Option Nat)(v:V)(x:Operand)(h:∀i,x= .tmp i->dst≠some i):rho (Qu t dst v) x=rho t x:=by
 cases x with
 |tmp i=>simp only[rho,List.getD,Qhe t dst v i (h i rfl)]
 |_=>rfl
theorem Qev{a b:Oper}(h:Jt ops a b=true){v:V}(t:List V):∀x∈b.op.operands,rho (Qu t a.dst v) x=rho t x:=by
 intro x hx;refine Qtb t a.dst v x ?_;intro i e hd;simp only[Jt,hd,Zr1,Zss] at h;have:i∈Ko ops b:=by subst e;simp only[Ko,Zr5,List.mem_filterMap];exact .inl (.inr ⟨.tmp i,by simpa using hx,rfl⟩)
 have h1:=h.1;simp at h1;exact h1 this
theorem Qgf{a b:Oper}(h:Jt ops a b=true){v:V}(t:List V):Zy ops (Qu t a.dst v) b=Zy ops t b:=by
 unfold Zy;cases hg:b.guard with
 |none=>rfl
 |some jw=>
  obtain⟨j,want⟩:=jw;simp only;cases hd:(ops[j]?).bind (·.dst) with
  |none=>rfl
  |some d=>
   simp only[Zrr];rw[Qhe];intro e;simp only[Jt,e,Zr1,Zss] at h;have:d∈Ko ops b:=by simp only[Ko,Zr5,hg,hd];exact .inr (by simp)
   have h1:=h.1;simp at h1;exact h1 this
theorem Qkd{a b:Oper}(h:Jt ops a b=true):Jt ops b a=true:=by simp only[Jt,Zr1] at h⊢;exact⟨h.2,h.1⟩
theorem J1{a b:Oper}(h:Jt ops a b=true)(t:List V)(v u:V):Qu (Qu t a.dst v) b.dst u=Qu (Qu t b.dst u) a.dst v:=by
 cases ha:a.dst with
 |none=>rfl
 |some d=>
  cases hb:b.dst with
  |none=>rfl
  |some e=>
   simp only[Qu];rw[List.set_comm];intro he;subst he;simp only[Jt,ha,hb,Zr1,Zss] at h;have:d∈Ko ops b:=by simp[Ko,hb]
   have h1:=h.1;simp at h1;exact h1 this
theorem Qxb{g g' :Get}{nm:Nat}{t t2:TypeId}{s x:V}(hd:g 0 nm=g' 0 nm)(hs:∀f i,s.id?=some (f,i)->g f i=g' f i)(hx:∀f i,x.id?=some (f,i)->g f i=g' f i):
 Qh5 P g nm t t2 s x=Qh5 P g' nm t t2 s x:=by
 have h1:∀n b z,Z3 P g t2 n b z x=Z3 P g' t2 n b z x:=by
  intro n b z;unfold Z3;split
  . rfl
  . rfl
  . exact Bt hx
  . rfl
 unfold Qh5;simp only[h1,hd];split
 . rw[hs _ _ rfl]
 . rfl
theorem Q0f{g g' :Get}{ρ:Operand->V}{o:Oper}{nm:Nat}(h:∀f s,(f,s)∈Kp 0 ρ (atN o nm)->g f s=g' f s):J7 P g ρ nm o.op=J7 P g' ρ nm o.op:=by
 have own:g 0 nm=g' 0 nm:=h _ _ (Qn5 rfl);have arg:∀x∈(atN o nm).op.operands,∀f s,(ρ x).id?=some (f,s)->g f s=g' f s:=fun x hx f s e=>h f s (Q3d hx e);unfold J7;split
 . rename_i t x lo hi hop;have hm:x∈(atN o nm).op.operands:=by
    simp only[atN,hop,Op.operands];simp
   unfold Qrc;split
   . rename_i hs _ _;rw[arg x hm _ _ (by rw[hs];rfl)]
   . rfl
 . rename_i c hop;split
   . rename_i s x t t2 ts hc ha ht;have hm:∀y∈([s,x]:List Operand),y∈(atN o nm).op.operands:=by
      intro y hy;simp only[atN,hop,Op.operands,Call.operands,hc];have:y∈c.args.toList:=by rw[ha];exact hy
      simpa using this
     exact Qxb own (arg s (hm s (by simp))) (arg x (hm x (by simp)))
   . rename_i s t hc ha ht;have hm:s∈(atN o nm).op.operands:=by
      simp only[atN,hop,Op.operands,Call.operands,hc];have:s∈c.args.toList:=by rw[ha];simp
      simpa using this
     unfold Qg3;split
     . split
       . rfl
       . rename_i hs;rw[arg s hm _ _ (by rw[hs];rfl)]
       . rfl
     . rfl
   . rfl
 . rfl
theorem Q2u{g:Get}{ρ ρ' :Operand->V}{o:Op}{nm:Nat}(h:∀x∈o.operands,ρ x=ρ' x):J7 P g ρ nm o=J7 P g ρ' nm o:=by
 unfold J7;split
 . rename_i t x lo hi;rw[h x (by simp[Op.operands]),h lo (by simp[Op.operands]),h hi (by simp[Op.operands])]
 . rename_i c;split
   . rename_i s x t t2 ts hc ha ht;have hm:∀y∈([s,x]:List Operand),ρ y=ρ' y:=by
      intro y hy;refine h y ?_;simp only[Op.operands,Call.operands,hc];have:y∈c.args.toList:=by rw[ha];exact hy
      simpa using this
     rw[hm s (by simp),hm x (by simp)]
   . rename_i s t hc ha ht;rw[h s (by
      simp only[Op.operands,Call.operands,hc];have:s∈c.args.toList:=by rw[ha];simp
      simpa using this)]
   . rfl
 . rfl
theorem Qlj{nm:Nat}{H:Heap}{ws:List (Nat×Nat×O)}(h:Qac nm H ws=true):∃o,ws=[(0,nm,o)]/\Qd H 0 nm=none:=by
 unfold Qac at h;split at h
 . rename_i f s o;simp only[Zr1,Nat.beq_eq,Option.isNone_iff_eq_none] at h;obtain⟨⟨rfl,rfl⟩,h⟩:=h;exact⟨o,rfl,h⟩
 . cases h
theorem Qjd{nm:Nat}{H H' :Heap}(ws:List (Nat×Nat×O))(h:Qd H' 0 nm=Qd H 0 nm):Qac nm H' ws=Qac nm H ws:=by unfold Qac;split<;>simp only[h]
theorem Qu1{g:Get}{ρ:Operand->V}{o:Oper}{nm:Nat}{f:FuncId}{args:List V}(h:Zr P (fun _=>true) 0 g ρ (atN o nm)=some (.call f args)):Y9 o.op=false:=by
 cases ho:o.op<;>first|rfl|skip
 simp only[Zr,atN,ho] at h;cases hx:Qbn g (ρ _) with
 |none=>rw[hx] at h;cases h
 |some y=>rw[hx] at h;cases h
theorem Qrp{g:Get}{ρ:Operand->V}{o:Oper}{nm:Nat}{f s:Nat}{args:List V}(h:Zr P (fun _=>true) 0 g ρ (atN o nm)=some (.round f s args)):Y9 o.op=false:=by
 cases ho:o.op<;>first|rfl|skip
 simp only[Zr,atN,ho] at h;cases hx:Qbn g (ρ _) with
 |none=>rw[hx] at h;cases h
 |some y=>rw[hx] at h;cases h
theorem Qo5(hC:Xv C)(tm:Qjl pol)(lim nm:Nat)(t:List V)(H:Heap)(o:Oper){t1:List V}{H1:Heap}(h:Q7 P pol C nm t H o=some (.normal,t1,H1)):
 (Jk P lim nm t H H1 o= .quiet/\∃v,t1=Qu t o.dst v/\H1=H/\∀(t' :List V) (H' :Heap),(∀x∈o.op.operands,rho t' x=rho t x)->Q7 P pol C nm t' H' o=some (.normal,Qu t' o.dst v,H')/\∀H'',Jk P lim nm t' H' H'' o= .quiet)\/
 (∃ws v r fr,Jk P lim nm t H H1 o= .ids r (Qgg ws) fr/\t1=Qu t o.dst v/\H1=wrL H ws/\(fr=true->∃o',ws=[(0,nm,o')]/\Qd H 0 nm=none)/\(0,nm)∈r/\
   ∀(t' :List V) (H' :Heap),(∀x∈o.op.operands,rho t' x=rho t x)->(∀f s,(f,s)∈r->Qd H' f s=Qd H f s)->
    Q7 P pol C nm t' H' o=some (.normal,Qu t' o.dst v,wrL H' ws)/\∀H'',Jk P lim nm t' H' H'' o= .ids r (Qgg ws) fr)\/
 (Jk P lim nm t H H1 o= .call (Qi5 lim H H1)/\∃v,t1=Qu t o.dst v/\(∀(t' :List V) H0 H2,(∀x∈o.op.operands,rho t' x=rho t x)->Q7 P pol C nm t' H0 o=some (.normal,Qu t' o.dst v,H2)->Jk P lim nm t' H0 H2 o= .call (Qi5 lim H0 H2))/\
   ∀(t' :List V),(∀x∈o.op.operands,rho t' x=rho t x)->Q7 P pol C nm t' H o=some (.normal,Qu t' o.dst v,H1)/\
    ∀s x,Yx s H->nm≠s->Q7 P pol C nm t' (hset H 0 s x) o=some (.normal,Qu t' o.dst v,hset H1 0 s x)/\Yx s H1)\/
 (Jk P lim nm t H H1 o= .all/\∃v,t1=Qu t o.dst v/\
   ∀(t' :List V),(∀x∈o.op.operands,rho t' x=rho t x)->Q7 P pol C nm t' H o=some (.normal,Qu t' o.dst v,H1)/\Jk P lim nm t' H H1 o= .all):=by
 have hids:∀t' :List V,(∀x∈o.op.operands,rho t' x=rho t x)->Kp 0 (rho t') (atN o nm)=Kp 0 (rho t) (atN o nm):=by
  intro t' ht;simp only[Kp,atN];congr 1;have:∀l:List Operand,(∀x∈l,rho t' x=rho t x)->l.filterMap (fun x=>(rho t' x).id?)=l.filterMap fun x=>(rho t x).id?:=by
   intro l
   induction l with
   |nil=>intro _;rfl
   |cons x l ih=>intro hl;simp only[List.filterMap_cons];rw[hl x (by simp),ih (fun y hy=>hl y (by simp[hy]))]
  exact this _ (fun x hx=>ht x (by simpa using hx))
 have own:(0,nm)∈Kp 0 (rho t) (atN o nm):=Qn5 rfl;unfold Q7 at h;by_cases hq:Q9 o.op=true
 . left;have hq' :Q9 (atN o nm).op=true:=hq;split at h
   . rename_i hev;split at h
     case h_2=>cases h
     rename_i v ws hm;exfalso;unfold J7 at hm;split at hm
     . rename_i hop;rw[hop] at hq;cases hq
     . rename_i c hop;rw[hop] at hq;cases hq
     . cases hm
   . rename_i v w hev;obtain⟨v',hv'⟩:=Yg hq' hev;cases hv';cases h;refine⟨by simp[Jk,hq],v,rfl,rfl,fun t' H' ht=>⟨?_,fun _=>by simp[Jk,hq]⟩⟩;have e:Zr P (fun _=>true) 0 (Qd H') (rho t') (atN o nm)=some (.val v none):=by
      rw[B4 (ρ' :=rho t) (o:=atN o nm) ht,Qki (g' :=Qd H) hq',hev]
     simp only[Q7,e,wr]
   . rename_i v hev;obtain⟨v',hv'⟩:=Yg hq' hev;cases hv'
   . rename_i f args hev;obtain⟨v',hv'⟩:=Yg hq' hev;cases hv'
   . rename_i f s args hev;obtain⟨v',hv'⟩:=Yg hq' hev;cases hv'
 . split at h
   . rename_i hev;split at h
     case h_2=>cases h
     rename_i v ws hm;cases h;have hfar:Y9 o.op=false:=by
      unfold J7 at hm;split at hm
      . rename_i hop;rw[hop];rfl
      . rename_i c hop;rw[hop];rfl
      . cases hm
     right;left;have hmain:∀(t' :List V) (H' :Heap),(∀x∈o.op.operands,rho t' x=rho t x)->(∀f s,(f,s)∈Kp 0 (rho t) (atN o nm)->Qd H' f s=Qd H f s)->
      J7 P (Qd H') (rho t') nm o.op=some (v,ws)/\Zr P (fun _=>true) 0 (Qd H') (rho t') (atN o nm)=none:=by
      intro t' H' ht hg;have e:J7 P (Qd H') (rho t') nm o.op=some (v,ws):=by rw[Q2u ht,Q0f (g' :=Qd H) hg,hm]
      exact⟨e,Qhf (nm:=nm) e⟩
     refine⟨ws,v,_,Qac nm H ws,?_,rfl,rfl,fun hf=>Qlj hf,own,fun t' H' ht hg=>?_⟩
     . simp only[Jk,hq,hfar,Zre,if_false,hev,hm]
     . obtain⟨e1,e2⟩:=hmain t' H' ht hg;refine⟨by simp only[Q7,e1,e2],fun _=>?_⟩;simp only[Jk,hq,hfar,Zre,if_false,e1,e2,hids t' ht,Qjd ws (hg _ _ own)]
   . rename_i v w hev;by_cases hfar:Y9 o.op=true
     . right;right;right;cases h;refine⟨by simp[Jk,hq,hfar],v,rfl,fun t' ht=>⟨?_,by simp[Jk,hq,hfar]⟩⟩;have e:Zr P (fun _=>true) 0 (Qd H) (rho t') (atN o nm)=some (.val v w):=by rw[B4 (ρ' :=rho t) (o:=atN o nm) ht,hev]
       simp only[Q7,e]
     have hfar' :Y9 o.op=false:=by simpa using hfar
     right;left;cases h;refine⟨w.toList,v,_,Qac nm H w.toList,?_,rfl,Qk7 H w,fun hf=>Qlj hf,own,fun t' H' ht hg=>?_⟩
     . simp only[Jk,hq,hfar',Zre,if_false,hev]
     . have e:Zr P (fun _=>true) 0 (Qd H') (rho t') (atN o nm)=some (.val v w):=by
        rw[B4 (ρ' :=rho t) (o:=atN o nm) ht,Qzs (g' :=Qd H) (o:=atN o nm) hfar' hg,hev]
       refine⟨by simp only[Q7,e,Qk7],fun _=>?_⟩;simp only[Jk,hq,hfar',Zre,if_false,e,hids t' ht,Qjd w.toList (hg _ _ own)]
   . cases h
   . rename_i f args hev;have hfar' :Y9 o.op=false:=Qu1 hev;have hcall:∀(t' :List V) (H' :Heap),(∀x∈o.op.operands,rho t' x=rho t x)->Zr P (fun _=>true) 0 (Qd H') (rho t') (atN o nm)=some (.call f args):=by
      intro t' H' ht;rw[B4 (ρ' :=rho t) (o:=atN o nm) ht];exact Qsd hev
     right;right;left;split at h
     . rename_i v H2 hc;cases h;refine⟨by simp only[Jk,hq,hfar',Zre,if_false,hev],v,rfl,fun t' H0 H2 ht _=>?_,fun t' ht=>?_⟩
       . simp only[Jk,hq,hfar',Zre,if_false,hcall t' H0 ht]
       . have e:Q7 P pol C nm t' H o=some (.normal,Qu t' o.dst v,H1):=by simp only[Q7,hcall t' H ht,hc]
         exact⟨e,fun s x sp hne=>Xq tm hC e sp hne⟩
     . cases h
     . cases h
   . rename_i f s args hev;right;right;right;have hfar' :Y9 o.op=false:=Qrp hev;have he:∀t' :List V,(∀x∈o.op.operands,rho t' x=rho t x)->Zr P (fun _=>true) 0 (Qd H) (rho t') (atN o nm)=some (.round f s args):=fun t' ht=>by rw[B4 (ρ' :=rho t) (o:=atN o nm) ht,hev]
     have hall:∀t' :List V,(∀x∈o.op.operands,rho t' x=rho t x)->Jk P lim nm t' H H1 o= .all:=fun t' ht=>by simp only[Jk,hq,hfar',Zre,if_false,he t' ht]
     split at h
     . rename_i v H2 hc;cases h;refine⟨hall t (fun _ _=>rfl),v,rfl,fun t' ht=>⟨?_,hall t' ht⟩⟩;simp only[Q7,he t' ht,hc]
     . cases h
def Qmn(lim:Nat)(T fp:FP)(H H1:Heap):Prop:=
 match T with
 | .call k=>fp= .call (Qi5 lim H H1)/\∀f s,k f s=true->Qd H f s=Qd H1 f s/\lim<=Q4 H
 |x=>fp=x
open Classical in
noncomputable def J4(P:Program)(pol:Pol)(C:Call)(ops:Array Oper)(base lim:Nat)(T:List FP)(i:Nat)(t:List V)(H:Heap):Option (List V×Heap):=
 match ops[i]? with
 |none=>none
 |some o=>match Zy ops t o with
  |none=>none
  |some false=>if T.getD i .all= .quiet then some (Qu t o.dst nov,H) else none
  |some true=>match Q7 P pol C (base+i) t H o with
   |some (.normal,t1,H1)=>if Qmn lim (T.getD i .all) (Jk P lim (base+i) t H H1 o) H H1 then some (t1,H1) else none
   |_=>none
noncomputable def Bk(P:Program)(pol:Pol)(C:Call)(ops:Array Oper)(base lim:Nat)(T:List FP):List Nat->List V->Heap->Option (List V×Heap)
 |[],t,H=>some (t,H)
 |i::r,t,H=>match J4 P pol C ops base lim T i t H with
  |some (t1,H1)=>Bk P pol C ops base lim T r t1 H1
  |none=>none
end
end Go.AM.BM
end
