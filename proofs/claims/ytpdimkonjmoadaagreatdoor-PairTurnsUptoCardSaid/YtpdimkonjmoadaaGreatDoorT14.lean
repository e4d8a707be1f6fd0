/- This file holds in one the texts Bx52, Bx20, Bx21; each says at its head what it proves. -/
import Derived.Test.YtpdimkonjmoadaaGreatDoorT7
import Derived.Test.YtpdimkonjmoadaaGreatDoorT13
set_option linter.unusedSimpArgs false
set_option linter.unusedVariables false
section
namespace Go.AM.BM
theorem K7(H:Heap){f s f' s' :Nat}(o o' :O)(h:¬(f=f' /\s=s')):hset (hset H f s o) f' s' o' =hset (hset H f' s' o') f s o:=by
 unfold hset;apply Zqz;intro i;simp only[Zpj];by_cases e1:f=i
 . by_cases e2:f' =i
   . have hs:s≠s' :=fun e=>h ⟨e1.trans e2.symm,e⟩;simp only[e1,e2,if_true];cases H[i]? with
     |none=>rfl
     |some x=>simp[Qmp s s' o o' hs x]
   . simp only[e1,e2,if_true,if_false];cases H[i]?<;>rfl
 . by_cases e2:f' =i
   . simp only[e1,e2,if_true,if_false];cases H[i]?<;>rfl
   . simp only[e1,e2,if_false]
theorem Bp(H:Heap){f s f' s' :Nat}(o:O)(h:¬(f' =f/\s' =s)):Qd (hset H f s o) f' s' =Qd H f' s' :=by
 unfold Qd hset;rw[Zpj];by_cases e:f=f'
 . subst e;cases H[f]? with
   |none=>rfl
   |some x=>simp[Qas];exact fun h' =>absurd ⟨rfl,h'⟩ h
 . simp only[e,if_false];cases H[f']?<;>rfl
theorem Qf9(s:Nat)(o:O):∀fr:Frame,Qho (J3 fr s o)=max (Qho fr) (s+1)
 |[]=>by simp[J3,Qho]
 |(k,p)::r=>by
  simp only[J3];split
  . rename_i h;subst h;simp only[Qho];omega
  . split
    . simp only[Qho];omega
    . simp only[Qho,Qf9 s o r];omega
theorem Qtp(H:Heap)(f s:Nat)(o:O):Q5 H<=Q5 (hset H f s o):=by
 cases H with
 |nil=>simp[hset]
 |cons F G=>
  cases f with
  |zero=>simp only[hset,List.modify_cons,if_true,Q5,Qf9];omega
  |succ f=>simp[hset,List.modify_cons,Q5]
theorem Qyy(H:Heap){s:Nat}(o:O)(h:s<Q5 H):Q5 (hset H 0 s o)=Q5 H:=by
 cases H with
 |nil=>cases h
 |cons F G=>
  simp only[Q5] at h;simp only[hset,List.modify_cons,if_true,Q5,Qf9];omega
def Yw(s:Nat)(H:Heap):Prop:=s<Q5 H/\Qd H 0 s=none
theorem Yw.next{s:Nat}{H:Heap}(h:Yw s H)(x:O):Q5 (hset H 0 s x)=Q5 H:=Qyy H x h.1
theorem Yw.hset{s:Nat}{H:Heap}(h:Yw s H){f s' :Nat}{o:O}(hn:¬(f=0/\s' =s)):Yw s (hset H f s' o):=
 ⟨Zps h.1 (Qtp _ _ _ _),by rw[Bp];exact h.2;exact fun e=>hn ⟨e.1.symm,e.2.symm⟩⟩
theorem Yw.get{s:Nat}{H:Heap}(h:Yw s H)(x:O){f s' :Nat}(hn:¬(f=0/\s' =s)):Qd (AM.hset H 0 s x) f s' =Qd H f s' :=Bp _ _ hn
theorem Yw.gle{s:Nat}{H:Heap}(h:Yw s H)(x:O):GLe (Qd H) (Qd (AM.hset H 0 s x)):=by intro f s' y hy;rw[h.get x];exact hy;rintro⟨rfl,rfl⟩;rw[h.2] at hy;cases hy
theorem Qb1{s:Nat}:∀{ws:List (Nat×Nat×O)} {H:Heap} (_:Yw s H) (x:O) (_:∀y∈ws,¬(y.1=0/\y.2.1=s)),wrL (hset H 0 s x) ws=hset (wrL H ws) 0 s x/\Yw s (wrL H ws)
 |[],H,h,x,_=>⟨rfl,h⟩
 |(f,s',o)::r,H,h,x,hn=>by
  have h0:¬(f=0/\s' =s):=hn _ Zpz;simp only[wrL];rw[K7 H x o (fun e=>h0 ⟨e.1.symm,e.2.symm⟩)];exact Qb1 (h.hset h0) x fun y hy=>hn y (Zp0 _ hy)
theorem Qlj(H:Heap)(w:Option (Nat×Nat×O)):wr H w=wrL H w.toList:=by
 cases w with
 |none=>rfl
 |some y=>obtain⟨f,s,o⟩:=y;rfl
section
variable {P : Program} {pol : Pol} {C : Call} {L : Kv -> Kv} {fn : Nat}
def Qzo(b:Kv):Prop:=∀t H ex t' H' s x,b t H=some (ex,t',H')->Yw s H->b t (hset H 0 s x)=some (ex,t',hset H' 0 s x)/\Yw s H'
def Xm(C:Call):Prop:=∀f args H r H' s x,C f args H=some (r,H')->Yw s H->C f args (hset H 0 s x)=some (r,hset H' 0 s x)/\Yw s H'
def Q94(L:Kv->Kv):Prop:=∀b,Qzo b->Qzo (L b)
structure Qjl(pol:Pol):Prop where
 prim:∀f g,pol.prim f=some g->∀nm G G' args v w,GLe G G' ->G' 0 nm=G 0 nm->g 0 (some nm) G args=some (v,w)->g 0 (some nm) G' args=some (v,w)/\∀x∈w.toList,(∃y,G x.1 x.2.1=some y)\/(x.1=0/\x.2.1=nm)
 loop:∀fn r g,pol.loop fn r=some g->∀t H t' H' s x,g t H=some (t',H')->Yw s H->g t (hset H 0 s x)=some (t',hset H' 0 s x)/\Yw s H'
 prims:∀f g,pol.prims f=some g->∀nm G G' args v ws,GLe G G' ->G' 0 nm=G 0 nm->g nm G args=some (v,ws)->g nm G' args=some (v,ws)/\∀x∈ws,(∃y,G x.1 x.2.1=some y)\/(x.1=0/\x.2.1=nm)
theorem Qmb{H:Heap}{s:Nat}{x:O}{v v' :V}{w:Option (Nat×Nat×O)}(sp:Yw s H)(h:Qiv (Qd H) v=some (v',w)):Qiv (Qd (hset H 0 s x)) v=some (v',w)/\∀y∈w.toList,¬(y.1=0/\y.2.1=s):=by
 unfold Qiv at h⊢;split at h
 . rename_i f s' o len cap esz;split at h
   case h_2=>cases h
   rename_i xs hg;have hne:¬(f=0/\s' =s):=by rintro⟨rfl,rfl⟩;rw[sp.2] at hg;cases hg
   simp only[sp.get x hne,hg];split at h
   case isFalse=>cases h
   rename_i hc;cases h;rw[if_pos hc];refine⟨rfl,fun y hy=>?_⟩;simp only[Option.toList,Zp9] at hy;subst hy;exact hne
 . cases h;exact⟨rfl,fun y hy=>by cases hy⟩
theorem Q6i{H:Heap}{s:Nat}{x:O}{v v' :V}{w:Option (Nat×Nat×O)}(sp:Yw s H)(h:Qxg (Qd H) v=some (v',w)):Qxg (Qd (hset H 0 s x)) v=some (v',w)/\∀y∈w.toList,¬(y.1=0/\y.2.1=s):=by
 unfold Qxg at h⊢;split at h
 . rename_i y r;cases hy:Qiv (Qd H) y with
   |none=>rw[hy] at h;cases h
   |some z=>
    rw[hy] at h;cases h;obtain⟨g1,g2⟩:=Qmb (x:=x) sp (v' :=z.1) (w:=z.2) hy;exact⟨by simp only[g1,Zpl],g2⟩
 . exact Qmb sp h
theorem Q63{b:Bool}{X Y:Option (Rt×Heap)}{s:Nat}{x:O}{H' :Heap}{r:Rt}(hX:∀r H,X=some (r,H)->Y=some (r,hset H 0 s x)/\Yw s H)(h:Qy2 b X=some (r,H')):Qy2 b Y=some (r,hset H' 0 s x)/\Yw s H' :=by
 cases b with
 |false=>exact hX r H' h
 |true=>
  simp only[Qy2] at h⊢;split at h
  . rename_i v H1;obtain⟨rfl,sp⟩:=hX _ _ rfl;split at h
    case h_2=>cases h
    rename_i v' w hv;cases h;obtain⟨g1,g2⟩:=Q6i (x:=x) sp hv;simp only[g1,Zss,Prod.mk.injEq,true_and];rw[Qlj,Qlj];obtain⟨q1,q2⟩:=Qb1 sp x (ws:=w.toList) g2;exact⟨q1,q2⟩
  . rename_i hno;obtain⟨rfl,sp⟩:=hX r H' h;cases r with
    |ret v=>exact absurd h (hno v H')
    |pan v=>exact⟨rfl,sp⟩
theorem Q22{H:Heap}{s:Nat}{x:O}{i:Option Nat}{args as:List V}{w:Option (Nat×Nat×O)}(sp:Yw s H)(h:Qk2 (Qd H) i args=some (as,w)):Qk2 (Qd (hset H 0 s x)) i args=some (as,w)/\∀y∈w.toList,¬(y.1=0/\y.2.1=s):=by
 unfold Qk2 at h⊢;split at h
 . cases h;exact⟨rfl,fun y hy=>by cases hy⟩
 . split at h
   case h_2=>cases h
   rename_i v hv;split at h
   case h_2=>cases h
   rename_i y w' hy;cases h;obtain⟨g1,g2⟩:=Qmb (x:=x) sp hy;simp only[hv,g1];exact⟨trivial,g2⟩
theorem Qd3(tm:Qjl pol)(hC:Xm C){f:FuncId}{args:List V}{H H' :Heap}{r:Rt}{s:Nat}{x:O}(h:callOp pol C (Q5 H) f args H=some (r,H'))(sp:Yw s H):
 callOp pol C (Q5 H) f args (hset H 0 s x)=some (r,hset H' 0 s x)/\Yw s H' :=by
 unfold callOp at h⊢;cases hps:pol.prims f with
 |some g=>
  rw[hps] at h;simp only at h⊢;obtain⟨⟨v,ws⟩,h1,h2⟩:=Zq8.1 h;have hne:¬(0=0/\Q5 H=s):=fun e=>by have:=sp.1;omega
  obtain⟨g1,g2⟩:=tm.prims f g hps (Q5 H) _ _ args v ws (sp.gle x) (sp.get x hne) h1;rw[g1];simp only[Zpl,Zss,Prod.mk.injEq] at h2⊢;obtain⟨h3,h4⟩:=h2;obtain⟨q1,q2⟩:=Qb1 sp x (ws:=ws) (fun y hy=>by
   rcases g2 y hy with⟨z,hz⟩|⟨e1,e2⟩
   . rintro⟨e1,e2⟩;rw[e1,e2,sp.2] at hz;cases hz
   . rintro⟨_,e3⟩;exact hne ⟨rfl,by omega⟩)
  rw[q1,<-h4];exact⟨⟨h3,rfl⟩,q2⟩
 |none=>
 rw[hps] at h;simp only at h⊢;cases hp:pol.prim f with
 |none=>
  rw[hp] at h;simp only at h⊢;split at h
  case h_2=>cases h
  rename_i as w has;obtain⟨g1,g2⟩:=Q22 (x:=x) sp has;rw[g1];rw[Qlj] at h;simp only;obtain⟨q1,q2⟩:=Qb1 sp x (ws:=w.toList) g2;rw[Qlj,q1];exact Q63 (fun r H1 hX=>hC _ _ _ _ _ s x hX q2) h
 |some g=>
  rw[hp] at h;simp only at h⊢;obtain⟨⟨v,w⟩,h1,h2⟩:=Zq8.1 h;have hne:¬(0=0/\Q5 H=s):=fun e=>by have:=sp.1;omega
  obtain⟨g1,g2⟩:=tm.prim f g hp (Q5 H) _ _ args v w (sp.gle x) (sp.get x hne) h1;rw[g1];simp only[Zpl,Zss,Prod.mk.injEq] at h2⊢;obtain⟨h3,h4⟩:=h2;rw[Qlj] at h4⊢;obtain⟨q1,q2⟩:=Qb1 sp x (ws:=w.toList) (fun y hy=>by
   rcases g2 y hy with⟨z,hz⟩|⟨e1,e2⟩
   . rintro⟨e1,e2⟩;rw[e1,e2,sp.2] at hz;cases hz
   . rintro⟨_,e3⟩;exact hne ⟨rfl,by omega⟩)
  rw[q1,<-h4];exact⟨⟨h3,rfl⟩,q2⟩
theorem Qg8{mt:Nat->Bool}{fr nm:Nat}{g:Get}{ρ:Operand->V}{o:Oper}{r:V×List (Nat×Nat×O)}(h:J4 P g ρ nm o.op=some r):Zm P mt fr g ρ o=none:=by
 unfold J4 at h;split at h<;>try (cases h;done)
 . rename_i t x lo hi hop;unfold Qsd at h;split at h<;>try (cases h;done)
   rename_i _ _ _ _ el f s o' len e' kl il kh ih hu hx hl hh;split at h<;>try (cases h;done)
   rename_i n xs hn hg;split at h<;>try (cases h;done)
   rename_i hc;obtain⟨rfl,h1,h2,h3,h4,h5⟩:=hc;have hcut:Qat len len (some il) (some ih) none=none:=by
    unfold Qat
    rw[if_neg];rintro⟨_,_,_,k,_⟩;simp at k;omega
   simp only[Zm,hop,Z9,Zpl,Zq9,hx,hl,hh,By,hu,hn,if_true,Qsm,hcut]
 rename_i c hop;simp only[Zm,hop];split at h<;>try (cases h;done)
 . rename_i s x t t2 ts hc ha ht;simp only[hc,ha,Zp4,Zp5];have h0:c.argTypes[0]?=some t:=by rw[<-Zra,ht];rfl
   have h1:c.argTypes[1]?=some t2:=by rw[<-Zra,ht];rfl
   simp only[builtinV,h0,h1];unfold Qhc at h;split at h<;>try (cases h;done)
   rename_i e f sl len e' hu hs;split at h<;>try (cases h;done)
   rename_i n by_ z h2 h3 h4;split at h<;>try (cases h;done)
   rename_i h5;split at h<;>try (cases h;done)
   rename_i xs new m h6 h7 h8;split at h<;>try (cases h;done)
   rename_i h9;obtain⟨h51,h52,h53⟩:=h5;subst h52;simp only[Qp,hu,h2,h3,h4,h51,if_true,h8,hs,appendTo,true_and];split
   . rw[h6];simp only;rw[if_neg];rintro⟨e1,_,_⟩;have:=h9.1;rw[this] at e1;have:(len+(m+1))*e' =len*e' +(m+1)*e' :=by rw[Zrb]
     have:0<(m+1)*e' :=Nat.mul_pos (by omega) h53;omega
   . rfl
theorem Xl(tm:Qjl pol)(hC:Xm C){nm:Nat}{t t' :List V}{H H' :Heap}{o:Oper}{ex:Ex}{s:Nat}{x:O}(h:Q1 P pol C nm t H o=some (ex,t',H'))(sp:Yw s H)(hnm:nm≠s):
 Q1 P pol C nm t (hset H 0 s x) o=some (ex,t',hset H' 0 s x)/\Yw s H' :=by
 have hne:¬(0=0/\nm=s):=fun e=>hnm e.2;have hd:∀d,(atN o nm).dst=some d->Qd (hset H 0 s x) 0 d=Qd H 0 d:=fun d e=>by cases e;exact sp.get x hne
 have tgt:∀ws:List (Nat×Nat×O),(∀y∈ws,(∃z,Qd H y.1 y.2.1=some z)\/(y.1=0/\y.2.1=nm))->∀y∈ws,¬(y.1=0/\y.2.1=s):=by
  intro ws hw y hy;rcases hw y hy with⟨z,hz⟩|⟨e1,e2⟩
  . rintro⟨e1,e2⟩;rw[e1,e2,sp.2] at hz;cases hz
  . rintro⟨_,e3⟩;exact hnm (by omega)
 unfold Q1 at h;split at h
 . rename_i hev;split at h
   case h_2=>cases h
   rename_i v ws hm;cases h;have hm' :=Qnx (sp.gle x) (sp.get x hne) hm;have hev' :Zm P (fun _=>true) 0 (Qd (hset H 0 s x)) (rho t) (atN o nm)=none:=Qg8 (nm:=nm) hm';obtain⟨q1,q2⟩:=Qb1 sp x (ws:=ws) (tgt ws (Q2t hm));simp only[Q1,hev',hm',q1];exact⟨trivial,q2⟩
 . rename_i v w hev;cases h;have hev' :=Qan (sp.gle x) hd hev;have ht:=Zbl hev;obtain⟨q1,q2⟩:=Qb1 sp x (ws:=w.toList) (tgt w.toList (fun y hy=>by
    cases w with
    |none=>cases hy
    |some z=>
     obtain⟨f,s',o'⟩:=z;rw[Option.toList_some,Zp9] at hy;subst hy;rcases ht v f s' o' rfl with h1|⟨h1,h2⟩
     . exact .inl h1
     . cases h2;exact .inr ⟨h1,rfl⟩))
   simp only[Q1,hev',Qlj,q1];exact⟨trivial,q2⟩
 . rename_i v hev;cases h;simp only[Q1,Qan (sp.gle x) hd hev];exact⟨trivial,sp⟩
 . rename_i f args hev;simp only[Q1,Qan (sp.gle x) hd hev,sp.next x];split at h
   . rename_i v H1 hc;cases h;obtain⟨q1,q2⟩:=Qd3 tm hC (x:=x) hc sp;rw[q1];exact⟨rfl,q2⟩
   . rename_i v H1 hc;cases h;obtain⟨q1,q2⟩:=Qd3 tm hC (x:=x) hc sp;rw[q1];exact⟨rfl,q2⟩
   . cases h
 . rename_i f s' args hev;simp only[Q1,Qan (sp.gle x) hd hev];split at h
   case h_2=>cases h
   rename_i v H1 hc;cases h;obtain⟨q1,q2⟩:=hC _ _ _ _ _ s x hc sp;rw[q1];exact⟨rfl,q2⟩
theorem Yf(tm:Qjl pol)(hC:Xm C){ops:Array Oper}{s:Nat}{x:O}:∀(l:List Oper) {t t' :List V} {H H' :Heap} {ex:Ex},Zf P pol C ops l t H=some (ex,t',H')->Yw s H->
 Zf P pol C ops l t (hset H 0 s x)=some (ex,t',hset H' 0 s x)/\Yw s H'
 |[],_,_,_,_,_,h,sp=>by cases h;exact⟨rfl,sp⟩
 |o::l,t,t',H,H',ex,h,sp=>by
  simp only[Zf] at h⊢;split at h
  . cases h
  . exact Yf tm hC l h sp
  . rw[sp.next x];have hnm:Q5 H≠s:=by have:=sp.1;omega
    split at h
    . rename_i t1 H1 hop;obtain⟨q1,q2⟩:=Xl (x:=x) tm hC hop sp hnm;rw[q1];exact Yf tm hC l h q2
    . rename_i y hne;obtain⟨q1,q2⟩:=Xl (x:=x) tm hC h sp hnm;rw[q1];cases ex with
      |normal=>exact absurd h (hne _ _)
      |_=>exact⟨rfl,q2⟩
theorem Qkn{nm s:Nat}{H:Heap}{x:O}(sp:Yw s H)(hnm:nm≠s)(ws:List (Nat×Nat×O)):B8 nm (hset H 0 s x) ws=B8 nm H ws:=by
 unfold B8;split
 . rw[sp.get x (fun e=>hnm e.2)]
 . rfl
theorem Q1x{lim s:Nat}{H H1:Heap}{x:O}(sp:Yw s H)(sp1:Yw s H1):Qi1 lim (hset H 0 s x) (hset H1 0 s x)=Qi1 lim H H1:=by
 funext f s';unfold Qi1;by_cases e:f=0/\s' =s
 . obtain⟨rfl,rfl⟩:=e;rw[sp.2,sp1.2,sp.next x];have h1:Qd (hset H 0 s' x) 0 s' =Qd (hset H1 0 s' x) 0 s' :=by
    have l0:0<H.length:=by have:=sp.1;cases H with|nil=>cases this|cons=>simp
    have l1:0<H1.length:=by have:=sp1.1;cases H1 with|nil=>cases this|cons=>simp
    rw[Xq _ _ _ _ l0,Xq _ _ _ _ l1];simp
   rw[(Qzw _ _).2 h1];rfl
 . rw[sp.get x e,sp1.get x e,sp.next x]
theorem Q40{lim nm:Nat}{t t' :List V}{H H1:Heap}{o:Oper}{ex:Ex}{s:Nat}{x:O}(h:Q1 P pol C nm t H o=some (ex,t',H1))(sp:Yw s H)(sp1:Yw s H1)(hnm:nm≠s):
 Z0 P lim nm t (hset H 0 s x) (hset H1 0 s x) o=Z0 P lim nm t H H1 o:=by
 have hne:¬(0=0/\nm=s):=fun e=>hnm e.2;have hd:∀d,(atN o nm).dst=some d->Qd (hset H 0 s x) 0 d=Qd H 0 d:=fun d e=>by cases e;exact sp.get x hne
 unfold Z0;split
 . rfl
 split
 . rfl
 unfold Q1 at h;split at h
 . rename_i hev;split at h
   case h_2=>cases h
   rename_i v ws hm;have hm' :=Qnx (sp.gle x) (sp.get x hne) hm;have hev' :Zm P (fun _=>true) 0 (Qd (hset H 0 s x)) (rho t) (atN o nm)=none:=Qg8 (nm:=nm) hm';simp only[hev,hev',hm,hm',Qkn sp hnm]
 . rename_i v w hev;simp only[hev,Qan (sp.gle x) hd hev,Qkn sp hnm]
 . rename_i v hev;simp only[hev,Qan (sp.gle x) hd hev]
 . rename_i f args hev;simp only[hev,Qan (sp.gle x) hd hev,Q1x sp sp1]
 . rename_i f s' args hev;simp only[hev,Qan (sp.gle x) hd hev]
theorem Km(tm:Qjl pol)(hC:Xm C){ops:Array Oper}{lim s:Nat}{x:O}:∀(l:List Oper) {nm:Nat} {t t' :List V} {H H' :Heap} {T:List FP},Q4 P pol C ops lim nm l t H=some (t',H',T)->Yw s H->s<nm->
 Q4 P pol C ops lim nm l t (hset H 0 s x)=some (t',hset H' 0 s x,T)/\Yw s H'
 |[],_,_,_,_,_,_,h,sp,_=>by cases h;exact⟨rfl,sp⟩
 |o::l,nm,t,t',H,H',T,h,sp,hs=>by
  simp only[Q4] at h⊢;split at h
  . cases h
  . split at h
    case h_2=>cases h
    rename_i t1 H1 T1 hr;cases h;obtain⟨q1,q2⟩:=Km (x:=x) tm hC l hr sp (by omega);rw[q1];exact⟨rfl,q2⟩
  . split at h
    case h_2=>cases h
    rename_i t1 H1 hop;split at h
    case h_2=>cases h
    rename_i t2 H2 T2 hr;cases h;obtain⟨q1,q2⟩:=Xl (x:=x) tm hC hop sp (by omega);obtain⟨q3,q4⟩:=Km (x:=x) tm hC l hr q2 (by omega);rw[q1];simp only[q3,Q40 (x:=x) hop sp q2 (by omega)];exact⟨trivial,q4⟩
theorem Q1y{g g' :Get}(hg:GLe g g'){y:V}{l:List (V×Option (Nat×Nat×O))}(h:Y3 g y=some l):Y3 g' y=some l:=by
 unfold Y3 at h⊢;split at h<;>try (cases h;done)
 split at h<;>try (cases h;done)
 . rename_i he;rw[hg _ _ _ he];exact h
 . rename_i he;rw[hg _ _ _ he];simp only;split at h<;>try (cases h;done)
   rename_i he2;rw[hg _ _ _ he2];exact h
theorem Q6g{g:Get}{y:V}{l:List (V×Option (Nat×Nat×O))}(h:Y3 g y=some l):∀c∈l,∀z∈c.2.toList,∃w,g z.1 z.2.1=some w:=by
 unfold Y3 at h
 (repeat' split at h)<;>cases h
 . intro c hc z hz;rw[Zp9] at hc;subst hc;rw[Option.toList_some,Zp9] at hz;subst hz;exact⟨_,by assumption⟩
 . intro c hc z hz;rw[Zp9] at hc;subst hc;rw[Option.toList_some,Zp9] at hz;subst hz;exact⟨_,by assumption⟩
 . intro c hc z hz;obtain⟨e,_,rfl⟩:=Zp3.1 hc;rw[Option.toList_some,Zp9] at hz;subst hz;exact⟨_,by assumption⟩
theorem Y4(tm:Qjl pol)(hC:Xm C)(hL:Q94 L):∀(c:Code),Qzo (Q6 P pol C L fn c)/\
 ∀v w t H ex t' H' s x,Z7 P pol C L fn c v w t H=some (ex,t',H')->(∀z∈w.toList,¬(z.1=0/\z.2.1=s))->Yw s H->Z7 P pol C L fn c v w t (hset H 0 s x)=some (ex,t',hset H' 0 s x)/\Yw s H' :=by
 intro c
 induction c with
 |skip=>exact⟨fun t H ex t' H' s x h sp=>by cases h;exact⟨rfl,sp⟩,fun v w t H ex t' H' s x h=>by cases h⟩
 |exit id=>exact⟨fun t H ex t' H' s x h sp=>by cases h;exact⟨rfl,sp⟩,fun v w t H ex t' H' s x h=>by cases h⟩
 |ret=>exact⟨fun t H ex t' H' s x h sp=>by cases h;exact⟨rfl,sp⟩,fun v w t H ex t' H' s x h=>by cases h⟩
 |scope b ih=>exact⟨fun t H ex t' H' s x h=>(by cases h),fun v w t H ex t' H' s x h=>by cases h⟩
 |label l=>exact⟨fun t H ex t' H' s x h=>(by cases h),fun v w t H ex t' H' s x h=>by cases h⟩
 |goto l=>exact⟨fun t H ex t' H' s x h=>(by cases h),fun v w t H ex t' H' s x h=>by cases h⟩
 |refuse l=>exact⟨fun t H ex t' H' s x h=>(by cases h),fun v w t H ex t' H' s x h=>by cases h⟩
 |region id ops draw=>
  refine⟨fun t H ex t' H' s x h sp=>?_,fun v w t H ex t' H' s x h hw sp=>?_⟩
  . simp only[Q6] at h⊢;cases draw with
    |false=>simp only[Zpo,if_false] at h⊢;exact Yf tm hC _ h sp
    |true=>
     simp only[if_true] at h⊢;split at h
     . cases h
     rename_i hfree;split at h
     case h_2=>cases h
     rename_i t1 H1 T hT;split at h
     case isFalse=>cases h
     rename_i hok;cases h;have hlt:=sp.1;rw[sp.next x,sp.get x (by omega),hfree,K7 H x .dead (by omega)];simp only;obtain⟨q1,q2⟩:=Km (x:=x) tm hC _ hT (sp.hset (by omega)) hlt;rw[q1];simp only[hok,if_true];exact⟨trivial,q2⟩
  . simp only[Z7] at h⊢;split at h
    case h_2=>cases h
    rename_i o r ho;rw[Qlj] at h⊢;obtain⟨q1,q2⟩:=Qb1 sp x hw;rw[q1];exact Yf tm hC _ h q2
 |seq a b iha ihb=>
  refine⟨fun t H ex t' H' s x h sp=>?_,fun v w t H ex t' H' s x h hw sp=>?_⟩
  . simp only[Q6] at h⊢;split at h
    . rename_i t1 H1 ha;obtain⟨q1,q2⟩:=iha.1 _ _ _ _ _ s x ha sp;rw[q1];exact ihb.1 _ _ _ _ _ s x h q2
    . rename_i y hne;obtain⟨q1,q2⟩:=iha.1 _ _ _ _ _ s x h sp;rw[q1];cases ex with
      |normal=>exact absurd h (hne _ _)
      |_=>exact⟨rfl,q2⟩
  . simp only[Z7] at h⊢;split at h
    . rename_i t1 H1 ha;obtain⟨q1,q2⟩:=iha.2 _ _ _ _ _ _ _ s x ha hw sp;rw[q1];exact ihb.1 _ _ _ _ _ s x h q2
    . rename_i y hne;obtain⟨q1,q2⟩:=iha.2 _ _ _ _ _ _ _ s x h hw sp;rw[q1];cases ex with
      |normal=>exact absurd h (hne _ _)
      |_=>exact⟨rfl,q2⟩
 |cond c a b iha ihb=>
  refine⟨fun t H ex t' H' s x h sp=>?_,fun v w t H ex t' H' s x h=>by cases h⟩;simp only[Q6] at h⊢;split at h
  case h_2=>cases h
  rename_i q hq;split at h
  . rename_i e;rw[if_pos e];exact iha.1 _ _ _ _ _ s x h sp
  . rename_i e;rw[if_neg e];exact ihb.1 _ _ _ _ _ s x h sp
 |block id b ih=>
  refine⟨fun t H ex t' H' s x h sp=>?_,fun v w t H ex t' H' s x h=>by cases h⟩;simp only[Q6] at h⊢;split at h
  . rename_i i t1 H1 hb;obtain⟨q1,q2⟩:=ih.1 _ _ _ _ _ s x hb sp;rw[q1];simp only;split at h
    . rename_i e;cases h;rw[if_pos e];exact⟨rfl,q2⟩
    . rename_i e;cases h;rw[if_neg e];exact⟨rfl,q2⟩
  . rename_i y hne;obtain⟨q1,q2⟩:=ih.1 _ _ _ _ _ s x h sp;rw[q1];cases ex with
    |exit i=>exact absurd h (hne _ _ _)
    |_=>exact⟨rfl,q2⟩
 |loop b ih=>
  refine⟨fun t H ex t' H' s x h sp=>?_,fun v w t H ex t' H' s x h=>by cases h⟩;simp only[Q6] at h⊢;split at h
  . rename_i g hp;obtain⟨⟨t1,H1⟩,h1,h2⟩:=Zq8.1 h;cases h2;obtain⟨q1,q2⟩:=tm.loop _ _ _ hp _ _ _ _ s x h1 sp;rw[q1];exact⟨rfl,q2⟩
  . refine hL _ ?_ _ _ _ _ _ s x h sp;intro t H ex t' H' s x h sp;cases hn:Zt b with
    |none=>rw[hn] at h;exact ih.1 _ _ _ _ _ s x h sp
    |some y=>
     rw[hn] at h;simp only at h⊢;split at h
     case h_2=>cases h
     rename_i c hc;rw[Q1y (sp.gle x) hc];refine ih.2 _ _ _ _ _ _ _ s x h ?_ sp;intro z hz;obtain⟨w,hw⟩:=Q6g hc c (by simp) z hz;rintro⟨e1,e2⟩;rw[e1,e2,sp.2] at hw;cases hw
 |rangeFunc g ps a b iha ihb=>
  refine⟨fun t H ex t' H' s x h sp=>?_,fun v w t H ex t' H' s x h=>by cases h⟩;simp only[Q6] at h⊢;split at h
  case h_2=>cases h
  rename_i f first cap hg
  split at h
  case h_2=>cases h
  rename_i hn;split at h
  case h_2=>cases h
  rename_i v H2 hc;have hlt:=sp.1;have hne:¬(0=0/\Q5 H=s):=by omega
  rw[sp.next x,sp.get x hne,hn];simp only;rw[K7 H x _ (by omega)];obtain⟨q1,q2⟩:=hC _ _ _ _ _ s x hc (sp.hset hne);rw[q1];simp only;unfold Qab at h⊢;rw[q2.get x hne];split at h
  case h_2=>cases h
  rename_i st pend f2 r2 t2 hg2;split at h
  . cases h
  rename_i hst;rw[if_neg hst,K7 H2 x .dead (by omega)];cases pend with
  |none=>cases h;exact⟨rfl,q2.hset hne⟩
  |some j=>
   cases j with
   |none=>cases h;exact⟨rfl,q2.hset hne⟩
   |some i=>cases h;exact⟨rfl,q2.hset hne⟩
theorem Yk{b:Kv}(hb:Qzo b):∀n,Qzo (Zu b n)
 |0=>fun t H ex t' H' s x h=>by cases h
 |n+1=>fun t H ex t' H' s x h sp=>by
  simp only[Zu] at h⊢;split at h
  . rename_i t1 H1 ha;obtain⟨q1,q2⟩:=hb _ _ _ _ _ s x ha sp;rw[q1];exact Yk hb n _ _ _ _ _ s x h q2
  . rename_i y hne;obtain⟨q1,q2⟩:=hb _ _ _ _ _ s x h sp;rw[q1];cases ex with
    |normal=>exact absurd h (hne _ _)
    |_=>exact⟨rfl,q2⟩
theorem Que{t:List V}{H:Heap}{s:Nat}(x:O)(sp:Yw s H):∀(rs:List ResultVar) (vs:List V),Qgk P t H rs=some vs->Qgk P t (hset H 0 s x) rs=some vs
 |[],_,h=>h
 |r::rs,vs,h=>by
  simp only[Qgk] at h⊢;split at h
  case h_2=>cases h
  rename_i v vs' h1 h2;rw[Que x sp rs vs' h2];have:Bx P t (hset H 0 s x) r=some v:=by
   cases r with
   |tmp i=>exact h1
   |cell a T=>
    simp only[Bx] at h1⊢;split at h1
    case h_2=>cases h1
    split at h1
    case h_2=>cases h1
    rename_i he;rw[sp.gle x _ _ _ he];exact h1
  rw[this];exact h
theorem Qid{F:Func}{t:List V}{H:Heap}{s:Nat}(x:O)(sp:Yw s H){v:V}(h:Qa5 P F t H=some v):Qa5 P F t (hset H 0 s x)=some v:=by
 unfold Qa5 at h⊢;cases hl:Qgk P t H F.results.toList with
 |none=>rw[hl] at h;cases h
 |some vs=>rw[hl] at h;rw[Que x sp _ _ hl];exact h
theorem Qrq(tm:Qjl pol)(hC:Xm C)(hL:Q94 L):∀(c:Code) (t:List V) (H:Heap) (ex:Ex) (t' :List V) (H' :Heap) (ds:List V) (s:Nat) (x:O),Qd1 P pol C L fn c t H=some (ex,t',H',ds)->Yw s H->
 Qd1 P pol C L fn c t (hset H 0 s x)=some (ex,t',hset H' 0 s x,ds)/\Yw s H' :=by
 have base:∀(c:Code) (t:List V) (H:Heap) (ex:Ex) (t' :List V) (H' :Heap) (ds:List V) (s:Nat) (x:O),noD (Q6 P pol C L fn c t H)=some (ex,t',H',ds)->Yw s H->noD (Q6 P pol C L fn c t (hset H 0 s x))=some (ex,t',hset H' 0 s x,ds)/\Yw s H' :=by
  intro c t H ex t' H' ds s x h sp;cases he:Q6 P pol C L fn c t H with
  |none=>rw[he] at h;cases h
  |some q=>
   obtain⟨e,t1,H1⟩:=q;rw[he] at h;cases h;obtain⟨q1,q2⟩:=(Y4 tm hC hL c).1 _ _ _ _ _ s x he sp;rw[q1];exact⟨rfl,q2⟩
 intro c
 induction c with
 |seq a b _ ihb=>
  intro t H ex t' H' ds s x h sp;simp only[Qd1] at h⊢;split at h
  . rename_i ops l d y hd;split at h
    case h_2=>cases h
    rename_i t1 H1 h1;obtain⟨q1,q2⟩:=Yf tm hC l h1 sp (x:=x);rw[q1];simp only;split at h
    case h_2=>cases h
    rename_i f p q hv;split at h
    case h_2=>cases h
    rename_i ex2 t2 H2 ds2 h2;cases h;obtain⟨q3,q4⟩:=ihb _ _ _ _ _ _ s x h2 q2;rw[q3];exact⟨rfl,q4⟩
  . split at h
    . rename_i hl;rw[if_pos hl];split at h
      . rename_i t1 H1 h1;obtain⟨q1,q2⟩:=(Y4 tm hC hL a).1 _ _ _ _ _ s x h1 sp;rw[q1];exact ihb _ _ _ _ _ _ s x h q2
      . rename_i e t1 H1 hne h1;cases h;obtain⟨q1,q2⟩:=(Y4 tm hC hL a).1 _ _ _ _ _ s x h1 sp;rw[q1];cases ex with
        |normal=>exact(hne rfl).elim
        |_=>exact⟨rfl,q2⟩
      . cases h
    . rename_i hl;rw[if_neg hl];exact base _ _ _ _ _ _ _ _ _ h sp
 |_=>intro t H ex t' H' ds s x h sp;simp only[Qd1] at h⊢;exact base _ _ _ _ _ _ _ _ _ h sp
theorem Qji(hC:Xm C):∀(ds:List V) (H H' :Heap) (s:Nat) (x:O),Qem P C ds H=some H' ->Yw s H->Qem P C ds (hset H 0 s x)=some (hset H' 0 s x)/\Yw s H'
 |[],H,H',s,x,h,sp=>by cases h;exact⟨rfl,sp⟩
 |v::ds,H,H',s,x,h,sp=>by
  unfold Qem at h;split at h
  . rename_i e;cases e
  . rename_i g first cap ds' e
    cases e;split at h
    case isFalse=>cases h
    rename_i hp;split at h
    case h_2=>cases h
    rename_i r H1 h1;obtain⟨q1,q2⟩:=hC _ _ _ _ _ s x h1 sp;obtain⟨q3,q4⟩:=Qji hC ds H1 H' s x h q2;simp only[Qem,hp,if_true,q1];exact⟨q3,q4⟩
  . cases h
theorem Qj7(tm:Qjl pol)(hC:Xm C)(hL:Q94 L):Xm (Qd4 P pol C L):=by
 intro f args H r H' s x h sp;cases f with
 |some f=>
  simp only[Qd4,Qbi] at h⊢;split at h
  case h_2=>cases h
  rename_i Fn hF;split at h
  case h_2=>cases h
  rename_i c hc;by_cases hdc:Qjx c=true
  . rw[if_pos hdc] at h⊢;simp only[Qxk] at h⊢;split at h
    . rename_i t1 H1 ds he;obtain⟨q1,q2⟩:=Qrq tm hC hL c _ _ _ _ _ _ s x he sp;rw[q1];simp only;split at h
      case h_2=>cases h
      rename_i H2 h2;obtain⟨q3,q4⟩:=Qji hC ds _ _ s x h2 q2;rw[q3];simp only;split at h
      case h_2=>cases h
      rename_i v hv;cases h;rw[Qid x q4 hv];exact⟨rfl,q4⟩
    . rename_i t1 H1 ds he;obtain⟨q1,q2⟩:=Qrq tm hC hL c _ _ _ _ _ _ s x he sp;rw[q1];simp only;split at h
      case h_2=>cases h
      rename_i H2 h2;obtain⟨q3,q4⟩:=Qji hC ds _ _ s x h2 q2;rw[q3];simp only;split at h
      case h_2=>cases h
      rename_i v hv;cases h;rw[Qid x q4 hv];exact⟨rfl,q4⟩
    . cases h
  rw[if_neg hdc] at h⊢;split at h
  . rename_i t1 H1 he;obtain⟨q1,q2⟩:=(Y4 tm hC hL c).1 _ _ _ _ _ s x he sp;rw[q1];simp only;split at h
    case h_2=>cases h
    rename_i v hv;cases h;rw[Qid x q2 hv];exact⟨rfl,q2⟩
  . rename_i t1 H1 he;obtain⟨q1,q2⟩:=(Y4 tm hC hL c).1 _ _ _ _ _ s x he sp;rw[q1];simp only;split at h
    case h_2=>cases h
    rename_i v hv;cases h;rw[Qid x q2 hv];exact⟨rfl,q2⟩
  . rename_i v t1 H1 he;cases h;obtain⟨q1,q2⟩:=(Y4 tm hC hL c).1 _ _ _ _ _ s x he sp;rw[q1];exact⟨rfl,q2⟩
  . cases h
 |none=>
  simp only[Qd4] at h⊢;split at h
  case h_2=>cases h
  rename_i fo so rest;simp only[Qba] at h⊢;split at h
  case h_2=>cases h
  rename_i pend fL rid t0 hg;rw[sp.gle x _ _ _ hg];simp only;split at h
  case h_2=>cases h
  rename_i ps a b hl;split at h
  case isFalse=>cases h
  rename_i hlen;rw[if_pos hlen];split at h
  case h_2=>cases h
  rename_i t1 H1 he1;obtain⟨q1,q2⟩:=(Y4 tm hC hL a).1 _ _ _ _ _ s x he1 sp;rw[q1];simp only;split at h
  case h_2=>cases h
  rename_i pend1 fL1 rid1 t01 hg1;rw[q2.gle x _ _ _ hg1];simp only;split at h
  case h_2=>cases h
  rename_i e t2 H2 he2;have n1:¬(fo=0/\so=s):=by rintro⟨rfl,rfl⟩;rw[q2.2] at hg1;cases hg1
  rw[K7 H1 x _ (fun e=>n1 ⟨e.1.symm,e.2.symm⟩)];obtain⟨q3,q4⟩:=(Y4 tm hC hL b).1 _ _ _ _ _ s x he2 (q2.hset n1);rw[q3];simp only;unfold Bd at h⊢;split at h
  case h_2=>cases h
  rename_i st3 pend3 fL3 rid3 t03 hg3;rw[q4.gle x _ _ _ hg3];simp only;rw[K7 H2 x _ (fun e=>n1 ⟨e.1.symm,e.2.symm⟩),K7 H2 x _ (fun e=>n1 ⟨e.1.symm,e.2.symm⟩)];cases e with
  |normal=>cases h;exact⟨rfl,q4.hset n1⟩
  |ret=>cases h;exact⟨rfl,q4.hset n1⟩
  |exit i=>simp only at h⊢;cases h;rw[K7 H2 x _ (fun e=>n1 ⟨e.1.symm,e.2.symm⟩)];exact⟨rfl,q4.hset n1⟩
  |panic v=>cases h
theorem Js(tm:Qjl pol):∀n,Xm (J0 P pol n)
 |0=>fun f args H r H' s x h=>by cases h
 |n+1=>Qj7 tm (Js tm n) fun b hb=>Yk hb n
end
def Kn(ops:Array Oper)(o:Oper):List Nat:=
 o.dst.toList++(o.op.operands.toList.filterMap fun| .tmp i=>some i|_=>none)++(match o.guard with|some (j,_)=>((ops[j]?).bind (·.dst)).toList|none=>[])
def Ju(ops:Array Oper)(a b:Oper):Bool:=
 (match a.dst with|some d=> !(Kn ops b).contains d|none=>true)&&(match b.dst with|some d=> !(Kn ops a).contains d|none=>true)
section
variable {P : Program} {pol : Pol} {C : Call} {ops : Array Oper}
theorem Qhm(t:List V)(dst:Option Nat)(v:V)(i:Nat)(h:dst≠some i):(Qs t dst v)[i]?=t[i]?:=by
 cases dst with
 |none=>rfl
 |some d=>
  simp only[Qs];rw[List.getElem?_set_ne];exact fun e=>h (by rw[e])
theorem Qut(t:List V)(dst:Option Nat)(v:V)(x:Operand)(h:∀i,x= .tmp i->dst≠some i):rho (Qs t dst v) x=rho t x:=by
 cases x with
 |tmp i=>simp only[rho,List.getD,Qhm t dst v i (h i rfl)]
 |_=>rfl
theorem Qen{a b:Oper}(h:Ju ops a b=true){v:V}(t:List V):∀x∈b.op.operands,rho (Qs t a.dst v) x=rho t x:=by
 intro x hx;refine Qut t a.dst v x ?_;intro i e hd;simp only[Ju,hd,Zqf,Zqg] at h;have:i∈Kn ops b:=by subst e;simp only[Kn,Zp8,List.mem_filterMap];exact .inl (.inr ⟨.tmp i,by simpa using hx,rfl⟩)
 have h1:=h.1;simp at h1;exact h1 this
theorem Qff{a b:Oper}(h:Ju ops a b=true){v:V}(t:List V):Zw ops (Qs t a.dst v) b=Zw ops t b:=by
 unfold Zw;cases hg:b.guard with
 |none=>rfl
 |some jw=>
  obtain⟨j,want⟩:=jw;simp only;cases hd:(ops[j]?).bind (·.dst) with
  |none=>rfl
  |some d=>
   simp only[Zqc];rw[Qhm];intro e;simp only[Ju,e,Zqf,Zqg] at h;have:d∈Kn ops b:=by simp only[Kn,Zp8,hg,hd];exact .inr (by simp)
   have h1:=h.1;simp at h1;exact h1 this
theorem Qju{a b:Oper}(h:Ju ops a b=true):Ju ops b a=true:=by simp only[Ju,Zqf] at h⊢;exact⟨h.2,h.1⟩
theorem Zh{a b:Oper}(h:Ju ops a b=true)(t:List V)(v u:V):Qs (Qs t a.dst v) b.dst u=Qs (Qs t b.dst u) a.dst v:=by
 cases ha:a.dst with
 |none=>rfl
 |some d=>
  cases hb:b.dst with
  |none=>rfl
  |some e=>
   simp only[Qs];rw[List.set_comm];intro he;subst he;simp only[Ju,ha,hb,Zqf,Zqg] at h;have:d∈Kn ops b:=by simp[Kn,hb]
   have h1:=h.1;simp at h1;exact h1 this
theorem Qyv{g g' :Get}{nm:Nat}{t t2:TypeId}{s x:V}(hd:g 0 nm=g' 0 nm)(hs:∀f i,s.id?=some (f,i)->g f i=g' f i)(hx:∀f i,x.id?=some (f,i)->g f i=g' f i):
 Qhc P g nm t t2 s x=Qhc P g' nm t t2 s x:=by
 have h1:∀n b z,Jp P g t2 n b z x=Jp P g' t2 n b z x:=by
  intro n b z;unfold Jp;split
  . rfl
  . rfl
  . exact Bq hx
  . rfl
 unfold Qhc;simp only[h1,hd];split
 . rw[hs _ _ rfl]
 . rfl
theorem Q0i{g g' :Get}{ρ:Operand->V}{o:Oper}{nm:Nat}(h:∀f s,(f,s)∈Yp 0 ρ (atN o nm)->g f s=g' f s):J4 P g ρ nm o.op=J4 P g' ρ nm o.op:=by
 have own:g 0 nm=g' 0 nm:=h _ _ (Qoh rfl);have arg:∀x∈(atN o nm).op.operands,∀f s,(ρ x).id?=some (f,s)->g f s=g' f s:=fun x hx f s e=>h f s (Q27 hx e);unfold J4;split
 . rename_i t x lo hi hop;have hm:x∈(atN o nm).op.operands:=by
    simp only[atN,hop,Op.operands];simp
   unfold Qsd;split
   . rename_i hs _ _;rw[arg x hm _ _ (by rw[hs];rfl)]
   . rfl
 . rename_i c hop;split
   . rename_i s x t t2 ts hc ha ht;have hm:∀y∈([s,x]:List Operand),y∈(atN o nm).op.operands:=by
      intro y hy;simp only[atN,hop,Op.operands,Call.operands,hc];have:y∈c.args.toList:=by rw[ha];exact hy
      simpa using this
     exact Qyv own (arg s (hm s (by simp))) (arg x (hm x (by simp)))
   . rfl
 . rfl
theorem Q1m{g:Get}{ρ ρ' :Operand->V}{o:Op}{nm:Nat}(h:∀x∈o.operands,ρ x=ρ' x):J4 P g ρ nm o=J4 P g ρ' nm o:=by
 unfold J4;split
 . rename_i t x lo hi;rw[h x (by simp[Op.operands]),h lo (by simp[Op.operands]),h hi (by simp[Op.operands])]
 . rename_i c;split
   . rename_i s x t t2 ts hc ha ht;have hm:∀y∈([s,x]:List Operand),ρ y=ρ' y:=by
      intro y hy;refine h y ?_;simp only[Op.operands,Call.operands,hc];have:y∈c.args.toList:=by rw[ha];exact hy
      simpa using this
     rw[hm s (by simp),hm x (by simp)]
   . rfl
 . rfl
theorem Qlo{nm:Nat}{H:Heap}{ws:List (Nat×Nat×O)}(h:B8 nm H ws=true):∃o,ws=[(0,nm,o)]/\Qd H 0 nm=none:=by
 unfold B8 at h;split at h
 . rename_i f s o;simp only[Zqf,Nat.beq_eq,Zrc] at h;obtain⟨⟨rfl,rfl⟩,h⟩:=h;exact⟨o,rfl,h⟩
 . cases h
theorem Qjb{nm:Nat}{H H' :Heap}(ws:List (Nat×Nat×O))(h:Qd H' 0 nm=Qd H 0 nm):B8 nm H' ws=B8 nm H ws:=by unfold B8;split<;>simp only[h]
theorem Qvi{g:Get}{ρ:Operand->V}{o:Oper}{nm:Nat}{f:FuncId}{args:List V}(h:Zm P (fun _=>true) 0 g ρ (atN o nm)=some (.call f args)):Yy o.op=false:=by
 cases ho:o.op<;>first|rfl|skip
 simp only[Zm,atN,ho] at h;cases hx:Qbl g (ρ _) with
 |none=>rw[hx] at h;cases h
 |some y=>rw[hx] at h;cases h
theorem Qsx{g:Get}{ρ:Operand->V}{o:Oper}{nm:Nat}{f s:Nat}{args:List V}(h:Zm P (fun _=>true) 0 g ρ (atN o nm)=some (.round f s args)):Yy o.op=false:=by
 cases ho:o.op<;>first|rfl|skip
 simp only[Zm,atN,ho] at h;cases hx:Qbl g (ρ _) with
 |none=>rw[hx] at h;cases h
 |some y=>rw[hx] at h;cases h
theorem Qqs(hC:Xm C)(tm:Qjl pol)(lim nm:Nat)(t:List V)(H:Heap)(o:Oper){t1:List V}{H1:Heap}(h:Q1 P pol C nm t H o=some (.normal,t1,H1)):
 (Z0 P lim nm t H H1 o= .quiet/\∃v,t1=Qs t o.dst v/\H1=H/\∀(t' :List V) (H' :Heap),(∀x∈o.op.operands,rho t' x=rho t x)->Q1 P pol C nm t' H' o=some (.normal,Qs t' o.dst v,H')/\∀H'',Z0 P lim nm t' H' H'' o= .quiet)\/
 (∃ws v r fr,Z0 P lim nm t H H1 o= .ids r (Qf0 ws) fr/\t1=Qs t o.dst v/\H1=wrL H ws/\(fr=true->∃o',ws=[(0,nm,o')]/\Qd H 0 nm=none)/\(0,nm)∈r/\
   ∀(t' :List V) (H' :Heap),(∀x∈o.op.operands,rho t' x=rho t x)->(∀f s,(f,s)∈r->Qd H' f s=Qd H f s)->
    Q1 P pol C nm t' H' o=some (.normal,Qs t' o.dst v,wrL H' ws)/\∀H'',Z0 P lim nm t' H' H'' o= .ids r (Qf0 ws) fr)\/
 (Z0 P lim nm t H H1 o= .call (Qi1 lim H H1)/\∃v,t1=Qs t o.dst v/\(∀(t' :List V) H0 H2,(∀x∈o.op.operands,rho t' x=rho t x)->Q1 P pol C nm t' H0 o=some (.normal,Qs t' o.dst v,H2)->Z0 P lim nm t' H0 H2 o= .call (Qi1 lim H0 H2))/\
   ∀(t' :List V),(∀x∈o.op.operands,rho t' x=rho t x)->Q1 P pol C nm t' H o=some (.normal,Qs t' o.dst v,H1)/\
    ∀s x,Yw s H->nm≠s->Q1 P pol C nm t' (hset H 0 s x) o=some (.normal,Qs t' o.dst v,hset H1 0 s x)/\Yw s H1)\/
 (Z0 P lim nm t H H1 o= .all/\∃v,t1=Qs t o.dst v/\
   ∀(t' :List V),(∀x∈o.op.operands,rho t' x=rho t x)->Q1 P pol C nm t' H o=some (.normal,Qs t' o.dst v,H1)/\Z0 P lim nm t' H H1 o= .all):=by
 have hids:∀t' :List V,(∀x∈o.op.operands,rho t' x=rho t x)->Yp 0 (rho t') (atN o nm)=Yp 0 (rho t) (atN o nm):=by
  intro t' ht;simp only[Yp,atN];congr 1;have:∀l:List Operand,(∀x∈l,rho t' x=rho t x)->l.filterMap (fun x=>(rho t' x).id?)=l.filterMap fun x=>(rho t x).id?:=by
   intro l
   induction l with
   |nil=>intro _;rfl
   |cons x l ih=>intro hl;simp only[List.filterMap_cons];rw[hl x (by simp),ih (fun y hy=>hl y (by simp[hy]))]
  exact this _ (fun x hx=>ht x (by simpa using hx))
 have own:(0,nm)∈Yp 0 (rho t) (atN o nm):=Qoh rfl;unfold Q1 at h;by_cases hq:Q9 o.op=true
 . left;have hq' :Q9 (atN o nm).op=true:=hq;split at h
   . rename_i hev;split at h
     case h_2=>cases h
     rename_i v ws hm;exfalso;unfold J4 at hm;split at hm
     . rename_i hop;rw[hop] at hq;cases hq
     . rename_i c hop;rw[hop] at hq;cases hq
     . cases hm
   . rename_i v w hev;obtain⟨v',hv'⟩:=Yc hq' hev;cases hv';cases h;refine⟨by simp[Z0,hq],v,rfl,rfl,fun t' H' ht=>⟨?_,fun _=>by simp[Z0,hq]⟩⟩;have e:Zm P (fun _=>true) 0 (Qd H') (rho t') (atN o nm)=some (.val v none):=by
      rw[Bg (ρ' :=rho t) (o:=atN o nm) ht,Qj9 (g' :=Qd H) hq',hev]
     simp only[Q1,e,wr]
   . rename_i v hev;obtain⟨v',hv'⟩:=Yc hq' hev;cases hv'
   . rename_i f args hev;obtain⟨v',hv'⟩:=Yc hq' hev;cases hv'
   . rename_i f s args hev;obtain⟨v',hv'⟩:=Yc hq' hev;cases hv'
 . split at h
   . rename_i hev;split at h
     case h_2=>cases h
     rename_i v ws hm;cases h;have hfar:Yy o.op=false:=by
      unfold J4 at hm;split at hm
      . rename_i hop;rw[hop];rfl
      . rename_i c hop;rw[hop];rfl
      . cases hm
     right;left;have hmain:∀(t' :List V) (H' :Heap),(∀x∈o.op.operands,rho t' x=rho t x)->(∀f s,(f,s)∈Yp 0 (rho t) (atN o nm)->Qd H' f s=Qd H f s)->
      J4 P (Qd H') (rho t') nm o.op=some (v,ws)/\Zm P (fun _=>true) 0 (Qd H') (rho t') (atN o nm)=none:=by
      intro t' H' ht hg;have e:J4 P (Qd H') (rho t') nm o.op=some (v,ws):=by rw[Q1m ht,Q0i (g' :=Qd H) hg,hm]
      exact⟨e,Qg8 (nm:=nm) e⟩
     refine⟨ws,v,_,B8 nm H ws,?_,rfl,rfl,fun hf=>Qlo hf,own,fun t' H' ht hg=>?_⟩
     . simp only[Z0,hq,hfar,Zpo,if_false,hev,hm]
     . obtain⟨e1,e2⟩:=hmain t' H' ht hg;refine⟨by simp only[Q1,e1,e2],fun _=>?_⟩;simp only[Z0,hq,hfar,Zpo,if_false,e1,e2,hids t' ht,Qjb ws (hg _ _ own)]
   . rename_i v w hev;by_cases hfar:Yy o.op=true
     . right;right;right;cases h;refine⟨by simp[Z0,hq,hfar],v,rfl,fun t' ht=>⟨?_,by simp[Z0,hq,hfar]⟩⟩;have e:Zm P (fun _=>true) 0 (Qd H) (rho t') (atN o nm)=some (.val v w):=by rw[Bg (ρ' :=rho t) (o:=atN o nm) ht,hev]
       simp only[Q1,e]
     have hfar' :Yy o.op=false:=by simpa using hfar
     right;left;cases h;refine⟨w.toList,v,_,B8 nm H w.toList,?_,rfl,Qlj H w,fun hf=>Qlo hf,own,fun t' H' ht hg=>?_⟩
     . simp only[Z0,hq,hfar',Zpo,if_false,hev]
     . have e:Zm P (fun _=>true) 0 (Qd H') (rho t') (atN o nm)=some (.val v w):=by
        rw[Bg (ρ' :=rho t) (o:=atN o nm) ht,Qq8 (g' :=Qd H) (o:=atN o nm) hfar' hg,hev]
       refine⟨by simp only[Q1,e,Qlj],fun _=>?_⟩;simp only[Z0,hq,hfar',Zpo,if_false,e,hids t' ht,Qjb w.toList (hg _ _ own)]
   . cases h
   . rename_i f args hev;have hfar' :Yy o.op=false:=Qvi hev;have hcall:∀(t' :List V) (H' :Heap),(∀x∈o.op.operands,rho t' x=rho t x)->Zm P (fun _=>true) 0 (Qd H') (rho t') (atN o nm)=some (.call f args):=by
      intro t' H' ht;rw[Bg (ρ' :=rho t) (o:=atN o nm) ht];exact Qum hev
     right;right;left;split at h
     . rename_i v H2 hc;cases h;refine⟨by simp only[Z0,hq,hfar',Zpo,if_false,hev],v,rfl,fun t' H0 H2 ht _=>?_,fun t' ht=>?_⟩
       . simp only[Z0,hq,hfar',Zpo,if_false,hcall t' H0 ht]
       . have e:Q1 P pol C nm t' H o=some (.normal,Qs t' o.dst v,H1):=by simp only[Q1,hcall t' H ht,hc]
         exact⟨e,fun s x sp hne=>Xl tm hC e sp hne⟩
     . cases h
     . cases h
   . rename_i f s args hev;right;right;right;have hfar' :Yy o.op=false:=Qsx hev;have he:∀t' :List V,(∀x∈o.op.operands,rho t' x=rho t x)->Zm P (fun _=>true) 0 (Qd H) (rho t') (atN o nm)=some (.round f s args):=fun t' ht=>by rw[Bg (ρ' :=rho t) (o:=atN o nm) ht,hev]
     have hall:∀t' :List V,(∀x∈o.op.operands,rho t' x=rho t x)->Z0 P lim nm t' H H1 o= .all:=fun t' ht=>by simp only[Z0,hq,hfar',Zpo,if_false,he t' ht]
     split at h
     . rename_i v H2 hc;cases h;refine⟨hall t (fun _ _=>rfl),v,rfl,fun t' ht=>⟨?_,hall t' ht⟩⟩;simp only[Q1,he t' ht,hc]
     . cases h
def Qmv(lim:Nat)(T fp:FP)(H H1:Heap):Prop:=
 match T with
 | .call k=>fp= .call (Qi1 lim H H1)/\∀f s,k f s=true->Qd H f s=Qd H1 f s/\lim<=Q5 H
 |x=>fp=x
open Classical in
noncomputable def Jm(P:Program)(pol:Pol)(C:Call)(ops:Array Oper)(base lim:Nat)(T:List FP)(i:Nat)(t:List V)(H:Heap):Option (List V×Heap):=
 match ops[i]? with
 |none=>none
 |some o=>match Zw ops t o with
  |none=>none
  |some false=>if T.getD i .all= .quiet then some (Qs t o.dst nov,H) else none
  |some true=>match Q1 P pol C (base+i) t H o with
   |some (.normal,t1,H1)=>if Qmv lim (T.getD i .all) (Z0 P lim (base+i) t H H1 o) H H1 then some (t1,H1) else none
   |_=>none
noncomputable def Bi(P:Program)(pol:Pol)(C:Call)(ops:Array Oper)(base lim:Nat)(T:List FP):List Nat->List V->Heap->Option (List V×Heap)
 |[],t,H=>some (t,H)
 |i::r,t,H=>match Jm P pol C ops base lim T i t H with
  |some (t1,H1)=>Bi P pol C ops base lim T r t1 H1
  |none=>none
end
section
variable {P : Program} {pol : Pol} {C : Call} {ops : Array Oper} {base lim : Nat} {T : List FP}
def Qaq(ops:Array Oper)(o:Oper)(t' t:List V):Prop:=(∀x∈o.op.operands,rho t' x=rho t x)/\Zw ops t' o=Zw ops t o
theorem Qg{a b:Oper}(h:Ju ops a b=true)(v:V)(t:List V):Qaq ops b (Qs t a.dst v) t:=⟨Qen h t,Qff h t⟩
theorem Qaq.symm{o:Oper}{t t' :List V}(h:Qaq ops o t t'):Qaq ops o t' t:=⟨fun x hx=>(h.1 x hx).symm,h.2.symm⟩
theorem J5(hC:Xm C)(tm:Qjl pol){i:Nat}{o:Oper}{t t1:List V}{H H1:Heap}(ho:ops[i]?=some o)(h:Jm P pol C ops base lim T i t H=some (t1,H1)):
 (T.getD i .all= .quiet/\∃v,t1=Qs t o.dst v/\H1=H/\∀t' H',Qaq ops o t' t->Jm P pol C ops base lim T i t' H' =some (Qs t' o.dst v,H'))\/
 (∃ws v r fr,T.getD i .all= .ids r (Qf0 ws) fr/\t1=Qs t o.dst v/\H1=wrL H ws/\(fr=true->∃o',ws=[(0,base+i,o')]/\Qd H 0 (base+i)=none)/\(0,base+i)∈r/\
   ∀t' H',Qaq ops o t' t->(∀f s,(f,s)∈r->Qd H' f s=Qd H f s)->Jm P pol C ops base lim T i t' H' =some (Qs t' o.dst v,wrL H' ws))\/
 (∃k v,T.getD i .all= .call k/\t1=Qs t o.dst v/\(∀f s,k f s=true->Qd H f s=Qd H1 f s/\lim<=Q5 H)/\
   ∀t',Qaq ops o t' t->Jm P pol C ops base lim T i t' H=some (Qs t' o.dst v,H1)/\
    ∀s x,Yw s H->base+i≠s->Jm P pol C ops base lim T i t' (hset H 0 s x)=some (Qs t' o.dst v,hset H1 0 s x))\/
 (T.getD i .all= .all/\∃v,t1=Qs t o.dst v/\∀t',Qaq ops o t' t->Jm P pol C ops base lim T i t' H=some (Qs t' o.dst v,H1)):=by
 simp only[Jm,ho] at h⊢;split at h
 . cases h
 . rename_i hw;split at h
   . rename_i hT;cases h;left;refine⟨hT,nov,rfl,rfl,fun t' H' ha=>?_⟩;rw[ha.2,hw];simp only[hT,if_true]
   . cases h
 . rename_i hw;split at h
   case h_2=>cases h
   rename_i t2 H2 hop;split at h
   case isFalse=>cases h
   rename_i hT;cases h;rcases Qqs hC tm lim (base+i) t H o hop with⟨h1,v,h2,h3,h4⟩|⟨ws,v,r,fr,h1,h2,h3,h5,h6,h4⟩|⟨h1,v,h2,h5,h3⟩|⟨h1,v,h2,h3⟩
   . left;rw[h1] at hT;have hq:T.getD i .all= .quiet:=by
      cases hx:T.getD i .all with
      |call k=>rw[hx] at hT;cases hT.1
      |_=>rw[hx] at hT;first|done|rfl|cases hT
     refine⟨hq,v,h2,h3,fun t' H' ha=>?_⟩;obtain⟨g1,g2⟩:=h4 t' H' ha.1;rw[ha.2,hw];simp only[g1,g2,hq,Qmv,if_true]
   . right;left;rw[h1] at hT;have hq:T.getD i .all= .ids r (Qf0 ws) fr:=by
      cases hx:T.getD i .all with
      |call k=>rw[hx] at hT;cases hT.1
      |_=>rw[hx] at hT;exact hT.symm
     refine⟨ws,v,r,fr,hq,h2,h3,h5,h6,fun t' H' ha hg=>?_⟩;obtain⟨g1,g2⟩:=h4 t' H' ha.1 hg;rw[ha.2,hw];simp only[g1,g2,hq,Qmv,if_true]
   . right;right;left;rw[h1] at hT;obtain⟨k,hq⟩:∃k,T.getD i .all= .call k:=by
      cases hx:T.getD i .all with
      |call k=>exact⟨k,rfl⟩
      |_=>rw[hx] at hT;cases hT
     rw[hq] at hT;obtain⟨_,k1⟩:=hT;refine⟨k,v,hq,h2,k1,fun t' ha=>?_⟩;obtain⟨g1,g2⟩:=h3 t' ha.1;rw[ha.2,hw];refine⟨?_,fun s x sp hne=>?_⟩
     . have hcp:Qmv lim (T.getD i .all) (Z0 P lim (base+i) t' H H1 o) H H1:=by rw[hq];exact⟨h5 t' H _ ha.1 g1,k1⟩
       simp only[g1];rw[if_pos hcp]
     . obtain⟨g3,g4⟩:=g2 s x sp hne;have hk2:∀f s',k f s' =true->Qd (hset H 0 s x) f s' =Qd (hset H1 0 s x) f s' /\lim<=Q5 (hset H 0 s x):=by
        intro f s' hk;refine⟨?_,Zpq (k1 f s' hk).2 (Qtp _ _ _ _)⟩;by_cases e:f=0/\s' =s
        . obtain⟨rfl,rfl⟩:=e;have l0:0<H.length:=by have:=sp.1;cases H with|nil=>cases this|cons=>simp
          have l1:0<H1.length:=by have:=g4.1;cases H1 with|nil=>cases this|cons=>simp
          rw[Xq _ _ _ _ l0,Xq _ _ _ _ l1];simp
        . rw[sp.get x e,g4.get x e];exact(k1 f s' hk).1
       have hcp:Qmv lim (T.getD i .all) (Z0 P lim (base+i) t' (hset H 0 s x) (hset H1 0 s x) o) (hset H 0 s x) (hset H1 0 s x):=by rw[hq];refine⟨h5 t' _ _ ha.1 g3,?_⟩;exact hk2
       simp only[g3];rw[if_pos hcp]
   . right;right;right;rw[h1] at hT;have hq:T.getD i .all= .all:=by
      cases hx:T.getD i .all with
      |call k=>rw[hx] at hT;cases hT.1
      |_=>rw[hx] at hT;first|done|rfl|cases hT
     refine⟨hq,v,h2,fun t' ha=>?_⟩;obtain⟨g1,g2⟩:=h3 t' ha.1;rw[ha.2,hw];simp only[g1,g2,hq,Qmv,if_true]
theorem Bh{a b:List (Nat×Nat)}(h:(!Qcl a b)=true){x:Nat×Nat}(hx:x∈a):x∉b:=by intro hb;simp only[Qcl,Zqg,List.any_eq_false] at h;exact h x hx (by simpa using hb)
theorem Qwo:∀{ws:List (Nat×Nat×O)} {H:Heap} {f s:Nat},(f,s)∉Qf0 ws->Qd (wrL H ws) f s=Qd H f s
 |[],_,_,_,_=>rfl
 |(f',s',q)::r,H,f,s,h=>by
  simp only[Qf0,Zp4,Zpy,not_or] at h;simp only[wrL];rw[Qwo (by exact h.2),Bp];rintro⟨rfl,rfl⟩;exact h.1 rfl
theorem Qyq:∀{ws:List (Nat×Nat×O)} {H:Heap} {f s:Nat} {o:O},(f,s)∉Qf0 ws->wrL (hset H f s o) ws=hset (wrL H ws) f s o
 |[],_,_,_,_,_=>rfl
 |(f',s',q)::r,H,f,s,o,h=>by
  simp only[Qf0,Zp4,Zpy,not_or] at h;simp only[wrL];rw[K7 H o q (fun e=>h.1 (by rw[e.1,e.2])),Qyq (by exact h.2)]
theorem Qyk:∀{ws ws' :List (Nat×Nat×O)} {H:Heap},(!Qcl (Qf0 ws) (Qf0 ws'))=true->wrL (wrL H ws) ws' =wrL (wrL H ws') ws
 |[],_,_,_=>rfl
 |(f,s,o)::r,ws',H,h=>by
  have hm:=Bh h (x:=(f,s)) (by simp[Qf0]);have hr:(!Qcl (Qf0 r) (Qf0 ws'))=true:=by simp only[Qcl,Qf0,Zp4,List.any_cons,Bool.not_or,Zqf] at h⊢;exact h.2
  simp only[wrL];rw[Qyk hr,Qyq hm]
theorem Qy4{ws:List (Nat×Nat×O)}(h:(Qf0 ws).isEmpty=true):ws=[]:=by
 cases ws with
 |nil=>rfl
 |cons=>cases h
theorem Qmc(hC:Xm C)(tm:Qjl pol)(hlim:base+ops.size<=lim){i j:Nat}{oi oj:Oper}(hi:ops[i]?=some oi)(hj:ops[j]?=some oj)(ha:Ju ops oi oj=true)(hI:(T.getD i .all).indep (T.getD j .all)=true)
 {t t1 t2:List V}{H H1 H2:Heap}(h1:Jm P pol C ops base lim T i t H=some (t1,H1))(h2:Jm P pol C ops base lim T j t1 H1=some (t2,H2)):
 ∃t1' H1',Jm P pol C ops base lim T j t H=some (t1',H1')/\Jm P pol C ops base lim T i t1' H1' =some (t2,H2):=by
 have hs:=Qju ha;have hjs:j<ops.size:=(Zpt.1 hj).1;rcases J5 hC tm hi h1 with⟨q1,v,rfl,rfl,g1⟩|⟨w,v,r,fr,q1,rfl,rfl,f1,m1,g1⟩|⟨k,v,q1,rfl,k1,g1⟩|⟨q1,v,rfl,g1⟩
 . rcases J5 hC tm hj h2 with⟨q2,u,rfl,rfl,g2⟩|⟨w',u,r',fr',q2,rfl,rfl,f2,m2,g2⟩|⟨k',u,q2,rfl,k2,g2⟩|⟨q2,u,rfl,g2⟩
   . refine⟨_,_,g2 t H2 (Qg ha v t).symm,?_⟩;rw[g1 _ _ (Qg hs u t),Zh ha]
   . refine⟨_,_,g2 t H1 (Qg ha v t).symm (fun _ _ _=>rfl),?_⟩;rw[g1 _ _ (Qg hs u t),Zh ha]
   . refine⟨_,_,(g2 t (Qg ha v t).symm).1,?_⟩;rw[g1 _ _ (Qg hs u t),Zh ha]
   . refine⟨_,_,g2 t (Qg ha v t).symm,?_⟩;rw[g1 _ _ (Qg hs u t),Zh ha]
 . rcases J5 hC tm hj h2 with⟨q2,u,rfl,rfl,g2⟩|⟨w',u,r',fr',q2,rfl,rfl,f2,m2,g2⟩|⟨k',u,q2,rfl,k2,g2⟩|⟨q2,u,rfl,g2⟩
   . refine⟨_,_,g2 t H (Qg ha v t).symm,?_⟩;rw[g1 _ _ (Qg hs u t) (fun _ _ _=>rfl),Zh ha]
   . rw[q1,q2] at hI;simp only[FP.indep,Zqf] at hI;obtain⟨⟨i1,i2⟩,i3⟩:=hI;refine⟨_,_,g2 t H (Qg ha v t).symm (fun f s hm=>?_),?_⟩
     . exact(Qwo (fun hw=>Bh i1 hw hm)).symm
     . rw[g1 _ _ (Qg hs u t) (fun f s hm=>Qwo (fun hw=>Bh i3 hw hm)),Zh ha,Qyk i2]
   . rw[q1,q2] at hI;simp only[FP.indep,Zqf,Zqt] at hI;obtain⟨i1,i2⟩:=hI;have:=Qy4 i1;subst this;simp only[wrL] at*;refine⟨_,_,(g2 t (Qg ha v t).symm).1,?_⟩;rw[g1 _ _ (Qg hs u t) (fun f s hm=>(k2 f s (i2 (f,s) hm)).1.symm),Zh ha]
   . rw[q1,q2] at hI;cases hI
 . rcases J5 hC tm hj h2 with⟨q2,u,rfl,rfl,g2⟩|⟨w',u,r',fr',q2,rfl,rfl,f2,m2,g2⟩|⟨k',u,q2,rfl,k2,g2⟩|⟨q2,u,rfl,g2⟩
   . refine⟨_,_,g2 t H (Qg ha v t).symm,?_⟩;rw[(g1 _ (Qg hs u t)).1,Zh ha]
   . rw[q1,q2] at hI;simp only[FP.indep,Zqf,Zqt,Zqu] at hI;obtain⟨i1,i2⟩:=hI;have hkeep:∀f s,(f,s)∈r' ->Qd H f s=Qd H1 f s:=fun f s hm=>(k1 f s (i2 (f,s) hm)).1;refine⟨_,_,g2 t H (Qg ha v t).symm hkeep,?_⟩;rcases i1 with i1|i1
     . have:=Qy4 i1;subst this;simp only[wrL];rw[(g1 _ (Qg hs u t)).1,Zh ha]
     . obtain⟨o',rfl,hn⟩:=f2 i1;have hn0:Qd H 0 (base+j)=none:=(hkeep _ _ m2).trans hn;have hl:=(k1 _ _ (i2 _ m2)).2;have sp:Yw (base+j) H:=⟨by omega,hn0⟩;have hne:base+i≠base+j:=by
        intro e;have:i=j:=by omega
        subst this;rw[q1] at q2;cases q2
       simp only[wrL];rw[(g1 _ (Qg hs u t)).2 (base+j) o' sp hne,Zh ha]
   . rw[q1,q2] at hI;cases hI
   . rw[q1,q2] at hI;cases hI
 . rcases J5 hC tm hj h2 with⟨q2,u,rfl,rfl,g2⟩|⟨w',u,r',fr',q2,rfl,rfl,f2,m2,g2⟩|⟨k',u,q2,rfl,k2,g2⟩|⟨q2,u,rfl,g2⟩
   . refine⟨_,_,g2 t H (Qg ha v t).symm,?_⟩;rw[g1 _ (Qg hs u t),Zh ha]
   . rw[q1,q2] at hI;cases hI
   . rw[q1,q2] at hI;cases hI
   . rw[q1,q2] at hI;cases hI
theorem Qb6(hC:Xm C)(tm:Qjl pol)(hlim:base+ops.size<=lim){i:Nat}{l2:List Nat}{res:List V×Heap}(hi:i<ops.size):∀(l1:List Nat) (t:List V) (H:Heap),
 (∀j∈l1,j<ops.size/\Ju ops (ops.getD j default) (ops.getD i default)=true/\(T.getD j .all).indep (T.getD i .all)=true)->
 Bi P pol C ops base lim T (l1++i::l2) t H=some res->Bi P pol C ops base lim T (i::(l1++l2)) t H=some res
 |[],t,H,_,h=>h
 |j::l1,t,H,hl,h=>by
  obtain⟨hj,ha,hI⟩:=hl j (by simp);simp only[Zqo,Bi] at h;cases h1:Jm P pol C ops base lim T j t H with
  |none=>rw[h1] at h;cases h
  |some x=>
   obtain⟨t1,H1⟩:=x;rw[h1] at h;have ih:=Qb6 hC tm hlim hi l1 t1 H1 (fun k hk=>hl k (by simp[hk])) h;simp only[Bi] at ih;cases h2:Jm P pol C ops base lim T i t1 H1 with
   |none=>rw[h2] at ih;cases ih
   |some y=>
    obtain⟨t2,H2⟩:=y;rw[h2] at ih;have e1:ops[j]?=some (ops.getD j default):=by simp[Array.getD,hj]
    have e2:ops[i]?=some (ops.getD i default):=by simp[Array.getD,hi]
    obtain⟨t1',H1',g1,g2⟩:=Qmc hC tm hlim e1 e2 ha hI h1 h2;simp only[Zqo,Bi,g1,g2];exact ih
end
theorem Qhf(ops:Array Oper):(Region.before ops).size=ops.size/\∀i o j,ops[i]?=some o->((Region.before ops).getD i 0).testBit j=true->
 ∃e∈o.after,Region.binds .any e=true/\(e.on=j\/((Region.before ops).getD e.on 0).testBit j=true):=by
 have key:∀(l:List Oper) (acc:Array Nat) (pre:List Oper),acc.size=pre.length->
  (∀i o j,pre[i]?=some o->(acc.getD i 0).testBit j=true->∃e∈o.after,Region.binds .any e=true/\(e.on=j\/(acc.getD e.on 0).testBit j=true))->
  (l.foldl (fun acc o=>acc.push (o.after.foldl (fun s e=>if Region.binds .any e then s|||2^e.on|||acc.getD e.on 0 else s) 0)) acc).size=pre.length+l.length/\
  ∀i o j,(pre++l)[i]?=some o->((l.foldl (fun acc o=>acc.push (o.after.foldl (fun s e=>if Region.binds .any e then s|||2^e.on|||acc.getD e.on 0 else s) 0)) acc).getD i 0).testBit j=true->
   ∃e∈o.after,Region.binds .any e=true/\(e.on=j\/((l.foldl (fun acc o=>acc.push (o.after.foldl (fun s e=>if Region.binds .any e then s|||2^e.on|||acc.getD e.on 0 else s) 0)) acc).getD e.on 0).testBit j=true):=by
  intro l
  induction l with
  |nil=>intro acc pre hs h;simpa [hs] using h
  |cons o l ih=>
   intro acc pre hs h;simp only[Zqw];generalize hn:o.after.foldl (fun s e=>if Region.binds .any e then s|||2^e.on|||acc.getD e.on 0 else s) 0=n;have hgrow:∀k j,(acc.getD k 0).testBit j=true->((acc.push n).getD k 0).testBit j=true:=by
    intro k j hb;have hk:k<acc.size:=by
     rcases Zpm k acc.size with hk|hk
     . exact hk
     . simp[Array.getD,Nat.not_lt.2 hk] at hb
    have:(acc.push n).getD k 0=acc.getD k 0:=by simp only[Array.getD,hk,Zpu,Zpv hk,dif_pos,Zrd];exact Array.getElem_push_lt hk
    rw[this];exact hb
   have hfold:∀(es:List Edge) (s j:Nat),((es.foldl (fun s e=>if Region.binds .any e then s|||2^e.on|||acc.getD e.on 0 else s) s)).testBit j=true->
    s.testBit j=true\/∃e∈es,Region.binds .any e=true/\(e.on=j\/(acc.getD e.on 0).testBit j=true):=by
    intro es
    induction es with
    |nil=>intro s j hb;exact .inl hb
    |cons e es ihe=>
     intro s j hb;simp only[Zqw] at hb;rcases ihe _ j hb with g|⟨e',he',g⟩
     . by_cases hbd:Region.binds .any e=true
       . rw[if_pos hbd] at g;simp only[Nat.testBit_or,Zqu,Nat.testBit_two_pow,decide_eq_true_eq] at g;rcases g with(g|g)|g
         . exact .inl g
         . exact .inr ⟨e,by simp,hbd,.inl g⟩
         . exact .inr ⟨e,by simp,hbd,.inr g⟩
       . rw[if_neg hbd] at g;exact .inl g
     . exact .inr ⟨e',by simp[he'],g⟩
   have:=ih (acc.push n) (pre++[o]) (by simp[hs]) (by
    intro i o' j hi hb;rcases Zpm i pre.length with hlt|hge
    . have hi' :pre[i]?=some o' :=by rw[Zre hlt] at hi;exact hi
      have:(acc.push n).getD i 0=acc.getD i 0:=by
       have hk:i<acc.size:=by omega
       simp only[Array.getD,hk,Zpu,Zpv hk,dif_pos,Zrd];exact Array.getElem_push_lt hk
      rw[this] at hb;obtain⟨e,h1,h2,h3⟩:=h i o' j hi' hb;exact⟨e,h1,h2,h3.imp_right (hgrow _ _)⟩
    . have hieq:i=pre.length:=by
       rcases Zpm i (pre++[o]).length with g|g
       . simp at g;omega
       . rw[Zpn g] at hi;cases hi
      subst hieq;have ho:o' =o:=by simpa using hi.symm
      subst ho;have hnv:(acc.push n).getD pre.length 0=n:=by rw[<-hs];simp[Array.getD]
      rw[hnv,<-hn,<-Zrf] at hb;rcases hfold _ _ _ hb with g|⟨e,h1,h2,h3⟩
      . simp at g
      . exact⟨e,by simpa using h1,h2,h3.imp_right (hgrow _ _)⟩)
   simpa [Zqb,Nat.add_comm 1] using this
 have:=key ops.toList #[] [] rfl (by intro i o j hi;simp at hi);simp only[Zq4,Zpw,Zrg,Zrh] at this;have e:Region.before ops=ops.toList.foldl (fun acc o=>acc.push (o.after.foldl (fun s e=>if Region.binds .any e then s|||2^e.on|||acc.getD e.on 0 else s) 0)) #[]:=by unfold Region.before;rw[<-Zrf]
 rw[e];refine⟨this.1,fun i o j hi hb=>this.2 i o j (by simpa using hi) hb⟩
end Go.AM.BM
end
