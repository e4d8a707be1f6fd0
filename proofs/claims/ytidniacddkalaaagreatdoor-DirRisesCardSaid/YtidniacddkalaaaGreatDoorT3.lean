/- This file holds in one the texts An5, An6, An7; each says at its head what it proves. -/
import Derived.Test.YtidniacddkalaaaGreatDoorT2
set_option linter.unusedSimpArgs false
set_option linter.unusedVariables false
section
namespace Go.AM
variable {P : Program} {E : Env}
theorem Qnn(off:Nat):∀(us vs:List Value) (k:Nat),off+k+us.length<=vs.length->
 (us.zipIdx k).foldl (fun(cs:Array Value) (x:Value×Nat)=>cs.setIfInBounds (off+x.2) x.1) ⟨vs⟩=⟨vs.take (off+k)++us++vs.drop (off+k+us.length)⟩
 |[],vs,k,_=>by simp
 |u::us,vs,k,h=>by
  simp only[List.zipIdx_cons,Zr8];have e:(⟨vs⟩:Array Value).setIfInBounds (off+k) u=⟨vs.set (off+k) u⟩:=by simp
  rw[e,Qnn off us (vs.set (off+k) u) (k+1) (by simp at h⊢;omega)];congr 1;have:=list_seg_step vs (off+k) u us (by simp at h;omega);simpa [Zsg,Nat.add_comm 1] using this
theorem Qk8(off:Nat)(us vs:List Value)(h:off+us.length<=vs.length):
 (⟨us⟩:Array Value).zipIdx.foldl (fun(cs:Array Value) (x:Value×Nat)=>cs.setIfInBounds (off+x.2) x.1) ⟨vs⟩=⟨splice vs off us⟩:=by
 rw[<-Zr9];have:=Qnn off us vs 0 (by simpa using h);simpa [splice] using this
theorem Qb6(place:Nat->Option (Nat×Nat)):∀(parts:List (Nat×V)) (xs:List V) (vs:List Value) (cparts:List (Nat×Value)) (ys:List V),
 Qe E xs vs->xs.all V.scalar=true->parts.length=cparts.length->(∀(i:Nat) (p:Nat×V) (c:Nat×Value),parts[i]?=some p->cparts[i]?=some c->p.1=c.1/\Rel E p.2 c.2)->Bp place xs parts=some ys->
 ∃us,Instr.fill place ⟨vs⟩ cparts=some ⟨us⟩/\Qe E ys us/\ys.all V.scalar=true
 |[],xs,vs,cparts,ys,hr,ha,hl,_,h=>by
  cases cparts with
  |cons=>simp at hl
  |nil=>cases h;exact⟨vs,rfl,hr,ha⟩
 |(i,v)::parts,xs,vs,cparts,ys,hr,ha,hl,hp,h=>by
  cases cparts with
  |nil=>simp at hl
  |cons c cparts=>
   obtain⟨j,cv⟩:=c;obtain⟨h1,h2⟩:=hp 0 _ _ rfl rfl;simp only at h1 h2;subst h1;simp only[Bp] at h;split at h
   . rename_i off size cs hpl hcs;split at h
     . rename_i hle;obtain⟨us,hus,hrel,hsc⟩:=h2.cells hcs;have hlen:us.length=size:=by rw[<-hrel.length];exact hle.1
       have hxl:=hr.length;have hle2:off+us.length<=vs.length:=by rw[<-hrel.length,<-hxl];exact hle.2
       obtain⟨ws,hws,hr',ha'⟩:=Qb6 place parts (splice xs off cs) (splice vs off us) cparts ys (hr.splice hrel off) (Qdd off ha hsc) (by simpa using hl)
        (fun i p c a b=>hp (i+1) p c (by simpa using a) (by simpa using b)) h
       refine⟨ws,?_,hr',ha'⟩;simp only[Instr.fill,hpl,hus];have hfold:=Qk8 off us vs hle2;rw[if_neg]
       . rw[hfold];exact hws
       . simp[hlen];omega
     . cases h
   . cases h
theorem Qkn(w:World):∀(fs:List Field) (ps:List (Nat×Nat)),Qoe P fs=some ps->
 (fs.mapM (m:=Sem) fun f=>do pure (f.offset,<-sizeOf f.type)).run P w= .ok ps w
 |[],ps,h=>by cases h;rfl
 |f::fs,ps,h=>by
  simp only[Qoe] at h;split at h
  . rename_i n r h1 h2;cases h;simp only[List.mapM_cons,Zuk,Jw h1,Zuj,Zul,Qkn w fs r h2]
  . cases h
theorem Jd{t:TypeId}{z:List V}(h:zeroCells P t=some z)(w:World):
 ∃zv vs,(zeroValue t).run P w= .ok zv w/\zv.cells=⟨vs⟩/\(∀E:Env,Qe E z vs)/\z.all V.scalar=true:=by
 unfold zeroCells at h;cases hz:zer P t with
 |none=>rw[hz] at h;cases h
 |some zv=>
  rw[hz] at h;simp only[Zrr] at h;have key:∀E:Env,∃vs,zv.cells=⟨vs⟩/\Qe E z vs/\z.all V.scalar=true:=fun E=>(Kg E zv).cells h;refine⟨zv,zv.cells.toList,Qah hz w,by simp,fun E=>?_,?_⟩
  . obtain⟨vs,h1,h2,_⟩:=key E;rw[h1];exact h2
  . obtain⟨vs,_,_,h3⟩:=key {w:=w,mu:=fun _ _=>none,reg:=fun _ _=>none,mod:=fun _ _=>False,tab:=fun _ _=>none};exact h3
theorem Qv1{t:TypeId}{parts:List (Nat×V)}{x:V}(w:World)(h:K4 P t parts=some x)(cparts:Array (Nat×Value))(hl:parts.length=cparts.size)
 (hp:∀(i:Nat) (p:Nat×V) (c:Nat×Value),parts[i]?=some p->cparts[i]?=some c->p.1=c.1/\Rel E p.2 c.2):
 ∃v,(Instr.build t cparts).run P w= .ok v w/\Rel E x v:=by
 unfold K4 at h;have hp' :∀(i:Nat) (p:Nat×V) (c:Nat×Value),parts[i]?=some p->cparts.toList[i]?=some c->p.1=c.1/\Rel E p.2 c.2:=
  fun i p c a b=>hp i p c a (by simpa using b)
 split at h
 . rename_i z fs hz hu;obtain⟨zv,vs,h1,h2,h3,h4⟩:=Jd hz w;split at h
   . rename_i ps hps;cases hf:Bp (fun i=>ps[i]?) z parts with
     |none=>rw[hf] at h;cases h
     |some ys=>
      rw[hf] at h;cases h;obtain⟨us,hus,hr,_⟩:=Qb6 (fun i=>ps[i]?) parts z vs cparts.toList ys (h3 E) h4 (by simpa using hl) hp' hf;refine⟨.agg ⟨us⟩,?_,by simp only[Rel];exact⟨us,rfl,hr⟩⟩;have hm:(fs.mapM (m:=Sem) fun f=>do pure (f.offset,<-sizeOf f.type)).run P w= .ok ⟨ps⟩ w:=by rw[Zr7];simp only[Sem.run_map,Qkn w fs.toList ps hps,Zuj]
      have hus' :Instr.fill (fun i=>(⟨ps⟩:Array (Nat×Nat))[i]?) ⟨vs⟩ cparts.toList=some ⟨us⟩:=by simpa using hus
      simp only[Instr.build,Zuk,h1,Zuj,Qh hu,hm,h2,hus',Zul]
   . cases h
 . rename_i z n e hz hu;obtain⟨zv,vs,h1,h2,h3,h4⟩:=Jd hz w;split at h
   . rename_i k hk;cases hf:Bp (fun i=>some (i*k,k)) z parts with
     |none=>rw[hf] at h;cases h
     |some ys=>
      rw[hf] at h;cases h;obtain⟨us,hus,hr,_⟩:=Qb6 (fun i=>some (i*k,k)) parts z vs cparts.toList ys (h3 E) h4 (by simpa using hl) hp' hf;refine⟨.agg ⟨us⟩,?_,by simp only[Rel];exact⟨us,rfl,hr⟩⟩;simp only[Instr.build,Zuk,h1,Zuj,Qh hu,Jw hk,h2,hus,Zul]
   . cases h
 . cases h
theorem Qe.zerosN{xs:List V}{vs:List Value}(h:Qe E xs vs):∀n,Qe E (zerosN xs n) (zerosN vs n)
 |0=> .nil
 |n+1=>h.append (Qe.zerosN h n)
theorem Jo{α:Type}(z:List α):∀n,(zerosN z n).length=n*z.length
 |0=>by simp[zerosN]
 |n+1=>by simp[zerosN,Jo z n,Ztd,Nat.add_comm]
theorem Qf7{z:List V}(h:z.all V.scalar=true):∀n,(zerosN z n).all V.scalar=true
 |0=>rfl
 |n+1=>by rw[zerosN,Zte,h,Qf7 h n];rfl
theorem Qgx(zs:List Value):∀n,((Array.range (n*zs.length)).map fun i=>(⟨zs⟩:Array Value)[i%(⟨zs⟩:Array Value).size]!)=⟨zerosN zs n⟩:=by
 intro n;apply Array.ext';simp only[Array.toList_map,Array.toList_range]
 induction n with
 |zero=>simp[AM.zerosN]
 |succ n ih=>
  rw[show(n+1)*zs.length=zs.length+n*zs.length by rw[Ztd,Nat.one_mul,Nat.add_comm],List.range_add,Zua,AM.zerosN];congr 1
  . apply Zs7;intro i;simp only[Zt4];by_cases hi:i<zs.length
    . simp[hi,Nat.mod_eq_of_lt hi]
    . simp[hi]
  . rw[List.map_map,<-ih];apply List.map_congr_left;intro i _;simp
theorem Qak{len cap:Nat}{lo hi mx:Option Int}{l h m:Nat}(hc:Xs len cap lo hi mx=some (l,h,m)):
 (lo.getD 0=l)/\(hi.getD len=h)/\(mx.getD cap=m)/\l<=h/\h<=m/\m<=cap/\(mx.isSome=true->hi.isSome=true):=by
 unfold Xs at hc;split at hc
 . rename_i hh;simp only[Zui,Prod.mk.injEq] at hc;obtain⟨rfl,rfl,rfl⟩:=hc;obtain⟨a,b,c,d,e,f,g⟩:=hh;refine⟨?_,?_,?_,?_,?_,?_,g⟩<;>omega
 . cases hc
def RelO(E:Env):Option V->Option Value->Prop
 |none,none=>True
 |some x,some v=>Rel E x v
 |_,_=>False
theorem Qfi{x:Option V}{v:Option Value}{i:Option Int}(h:Yj x=some i)(hr:RelO E x v):
 (i=none/\v=none)\/∃k n,i=some n/\v=some (.int k n):=by
 unfold Yj at h;split at h
 . cases h;cases v with|none=>exact .inl ⟨rfl,rfl⟩|some=>exact hr.elim
 . cases h;cases v with
   |none=>exact hr.elim
   |some v=>simp only[RelO,Rel] at hr;subst hr;exact .inr ⟨_,_,rfl,rfl⟩
 . cases h
theorem Jp{k:IntKind}{n:Int}{y m:Nat}{code:BoundsCode}(w:World)(h:n=m)(hy:m<=y):
 (Instr.sliceBound (.int k n) y code).run P w= .ok m w:=by
 subst h;have:(0:Int)<=(m:Int)/\(m:Int)<=(y:Int):=by omega
 simp[Instr.sliceBound,asIntOf,this]
theorem Qcb{len cap:Nat}{lo hi mx:Option Int}{l h m:Nat}{vlo vhi vmx:Option Value}(w:World)(b:Bool)(hc:Xs len cap lo hi mx=some (l,h,m))
 (h1:(lo=none/\vlo=none)\/∃k n,lo=some n/\vlo=some (.int k n))(h2:(hi=none/\vhi=none)\/∃k n,hi=some n/\vhi=some (.int k n))
 (h3:(mx=none/\vmx=none)\/∃k n,mx=some n/\vmx=some (.int k n)):
 (Instr.sliceBounds b len cap vlo vhi vmx).run P w= .ok (l,h,m) w:=by
 obtain⟨e1,e2,e3,g1,g2,g3,g4⟩:=Qak hc;rcases h3 with⟨rfl,rfl⟩|⟨k3,n3,rfl,rfl⟩
 . simp only[Zsu,Int.natCast_inj] at e3;subst e3;rcases h2 with⟨rfl,rfl⟩|⟨k2,n2,rfl,rfl⟩
   . simp only[Zsu,Int.natCast_inj] at e2;subst e2;rcases h1 with⟨rfl,rfl⟩|⟨k1,n1,rfl,rfl⟩
     . simp only[Zsu] at e1;obtain rfl:l=0:=by omega
       simp[Instr.sliceBounds]
     . simp only[Zs3] at e1;simp[Instr.sliceBounds,Jp w e1 g1]
   . simp only[Zs3] at e2;rcases h1 with⟨rfl,rfl⟩|⟨k1,n1,rfl,rfl⟩
     . simp only[Zsu] at e1;obtain rfl:l=0:=by omega
       simp[Instr.sliceBounds,Jp w e2 g2]
     . simp only[Zs3] at e1;simp[Instr.sliceBounds,Jp w e2 g2,Jp w e1 g1]
 . simp only[Zs3] at e3;rcases h2 with⟨rfl,rfl⟩|⟨k2,n2,rfl,rfl⟩
   . simp at g4
   . simp only[Zs3] at e2;rcases h1 with⟨rfl,rfl⟩|⟨k1,n1,rfl,rfl⟩
     . simp only[Zsu] at e1;obtain rfl:l=0:=by omega
       simp[Instr.sliceBounds,Jp w e3 g3,Jp w e2 g2]
     . simp only[Zs3] at e1;simp[Instr.sliceBounds,Jp w e3 g3,Jp w e2 g2,Jp w e1 g1]
end Go.AM
namespace Go.AM
variable {P : Program} {E : Env} {B : Nat} {F : Nat -> Nat -> Prop} {H : Heap}
theorem Sim.lies(S:Sim B F H E){f s:Nat}{xs:List V}(h:Qd H f s=some (.cells xs)):
 ∃b c T vs rest,E.mu f s=some b/\B<=b/\E.w.heap[b]?=some (.cells c T (0,0))/\c.toList=vs++rest/\Qe E xs vs/\(∀i,E.mod b i)/\xs.all V.scalar=true/\Qeq E.w b 0 vs:=by
 obtain⟨b,c,T,vs,rest,h1,h2,h3,h4,h5,h6,h7⟩:=S.obj f s _ h;refine⟨b,c,T,vs,rest,h1,h2,h3,h4,h5,h6,h7,?_⟩;intro i v hv;have:c[i]?=some v:=by
  rw[<-Zso,h4,Zsk]
  . exact hv
  . exact(Zsm.1 hv).1
 simp only[Zrm,World.cell?,h3];simpa using this
theorem Qeq.from{w:World}{b:Nat}{vs:List Value}(h:Qeq w b 0 vs)(o n:Nat):Qeq w b o ((vs.drop o).take n):=by have:=h.take o n;rwa[Zrm] at this
theorem Qeq.heap{w w' :World}{b off:Nat}{vs:List Value}(h:Qeq w b off vs)(e:w'.heap=w.heap):Qeq w' b off vs:=by intro i v hv;have:=h i v hv;simp only[World.cell?,e] at this⊢;exact this
theorem Zs{w:World}{b off esz k n cap:Nat}{vs:List Value}(h:Qeq w b off vs)(hl:vs.length=n*esz)(hk:k<=n)(len:Nat):
 (Builtin.firstCells esz k (.slice (some ⟨b,off,none⟩) len cap)).run P w= .ok ⟨vs.take (k*esz)⟩ w:=by
 have h2:=h.take 0 (k*esz);simp only[Ztw,Ztu] at h2;have:=Qdl (P:=P) h2;have e:(vs.take (k*esz)).length=k*esz:=by have:k*esz<=n*esz:=Zsx _ hk;simp;omega
 rw[e] at this;exact this
theorem Y3(S:Sim B F H E){esz n:Nat}{x:V}{cs:List V}{c:Value}(h:Ql (Qd H) esz x=some (cs,n))(hr:Rel E x c):
 ∃a cap vs,c= .slice a n cap/\n<=cap/\Qe E cs vs/\vs.length=n*esz/\(∀(w:World) k,w.heap=E.w.heap->k<=n->(Builtin.firstCells esz k c).run P w= .ok ⟨vs.take (k*esz)⟩ w):=by
 unfold Ql at h;split at h
 . cases h;simp only[Rel] at hr;subst hr;exact⟨none,0,[],rfl,Zrf _,.nil,by simp,fun w k _ hk=>by simp[Builtin.firstCells]⟩
 . split at h
   . rename_i hl;cases h;simp only[Rel] at hr;obtain⟨a,cap,vs,rfl,h1,_,h3,h4,_⟩:=hr;have hvl:vs.length=n*esz:=by rw[<-h4.length];exact hl
     refine⟨some a,cap,vs,rfl,h1,h4,hvl,fun w k hw hk=>?_⟩;rcases h3 with rfl|⟨h3,h5⟩
     . have:k*esz=0:=by
        have h0:n*esz=0:=by simpa using hvl.symm
        have:k*esz<=n*esz:=Zsx _ hk;omega
       simp[Builtin.firstCells,this,loadCells,loadCellsFrom]
     . obtain⟨b,off,sp⟩:=a;simp only at h3;subst h3;exact Zs (h5.lies.heap hw) hvl hk n
   . cases h
 . split at h
   . rename_i he;cases h;subst he;simp only[Rel] at hr;obtain⟨b,off,cap,vs,rfl,h1,h3,h4,h5,_⟩:=hr;have hvl:=h4.length.symm.trans h5;exact⟨_,cap,vs,rfl,h1,h4,hvl,fun w k hw hk=>Zs (h3.lies.heap hw) hvl hk _⟩
   . cases h
 . rename_i f s o n' cap e;split at h
   . rename_i xs hg;split at h
     . rename_i hh;obtain⟨rfl,hle⟩:=hh;cases h;simp only[Rel] at hr;obtain⟨b,c',T,sz',hmu,rfl,h1,_,_,_⟩:=hr;obtain⟨b2,cc,T2,vs,rest,g1,_,_,_,g5,_,_,g8⟩:=S.lies hg;rw[hmu] at g1;cases g1;have hvl:((vs.drop o).take (n*e)).length=n*e:=by
        have:=g5.length;simp;omega
       exact⟨_,c',_,rfl,h1,(g5.drop o).take _,hvl,fun w k hw hk=>Zs ((g8.from o _).heap hw) hvl hk n⟩
     . cases h
   . cases h
 . cases h
theorem Qjq{xs:List V}(h:Qx xs=true):∀n,Qx (xs.take n)=true:=by
 induction xs with
 |nil=>intro n;simp[Qx]
 |cons x xs ih=>
  intro n;simp only[Qx,Zr1] at h;cases n with
  |zero=>simp[Qx]
  |succ n=>simp[Qx,h.1,ih h.2 n]
theorem Qjo{xs:List V}(h:Qx xs=true):∀n,Qx (xs.drop n)=true:=by
 induction xs with
 |nil=>intro n;simp[Qx]
 |cons x xs ih=>
  intro n;have h' :=h;simp only[Qx,Zr1] at h;cases n with
  |zero=>simpa using h'
  |succ n=>simpa using ih h.2 n
theorem Qfn{xs ys:List V}(h:Qx xs=true)(g:Qx ys=true):Qx (xs++ys)=true:=by
 induction xs with
 |nil=>simpa using g
 |cons x xs ih=>
  simp only[Qx,Zr1] at h;simp[Qx,h.1,ih h.2]
theorem Row.take{b off:Nat}{vs:List Value}(h:Row E b off vs)(o n:Nat):Row E b (off+o) ((vs.drop o).take n):=by
 intro i v hv;rw[Zrn] at hv;split at hv
 . rw[Zta] at hv;have:=h (o+i) v hv;rwa[<-Zsg] at this
 . cases hv
theorem Row.add{b off:Nat}{vs:List Value}(h:Row E b off vs)(o n:Nat):Qff E ((⟨b,off,none⟩:Addr).add o) ((vs.drop o).take n):=by rw[Yw];exact .inr ⟨rfl,h.take o n⟩
theorem Qff.add{a:Addr}{vs:List Value}(h:Qff E a vs)(o n:Nat):Qff E (a.add o) ((vs.drop o).take n):=by
 rcases h with rfl|⟨h1,h2⟩
 . exact .inl (by simp)
 . obtain⟨b,off,sp⟩:=a;simp only at h1;subst h1;exact h2.add o n
theorem Qjw{cells:List V}{len cap esz l h m:Nat}{full:Bool}{a:Addr}{vs:List Value}{lo hi mx:Option Int}{x:V}(hc:Qj9 cells len full esz lo hi mx=some x)
 (hk:Xs len cap lo hi mx=some (l,h,m))(hf:full=true->cap=len)(hr:Qff E a vs)(hl:Qe E cells vs)(hp:Qx cells=true):
 Rel E x (.slice (some (if m=l then a else a.add (l*esz))) (h-l) (m-l)):=by
 unfold Qj9 at hc;split at hc
 . rename_i hcl;split at hc
   . rename_i l' h' m' hk';cases hc;obtain⟨a1,a2,a3,a4,a5,a6,a7⟩:=Qak hk;obtain⟨b1,b2,b3,b4,b5,b6,b7⟩:=Qak hk';obtain rfl:l' =l:=by omega
     obtain rfl:h' =h:=by omega
     have hmcap:mx.isSome=true->m=m' :=by
      intro hs;cases mx with
      |none=>cases hs
      |some q=>simp only[Zs3] at a3 b3;omega
     have hmm:(full||mx.isSome)=true->m=m' :=by
      intro hh;cases mx with
      |none=>
       simp only[Option.isSome_none,Zub] at hh;simp only[Zsu,Int.natCast_inj] at a3 b3;have:=hf hh;omega
      |some q=>exact hmcap rfl
     simp only[Rel];refine⟨_,m-l',((vs.drop (l' *esz)).take ((h' -l')*esz)),rfl,by omega,?_,?_,(hl.drop _).take _,Qjq (Qjo hp _) _⟩
     . intro hh;simp only[Zr1,beq_iff_eq] at hh;have:=hmm hh.1;omega
     . by_cases e:m=l'
       . rw[if_pos e];have:(h' -l')*esz=0:=by
          have:h' -l' =0:=by omega
          rw[this];simp
         rw[this];exact .inl (by simp)
       . rw[if_neg e];exact hr.add _ _
   . cases hc
 . cases hc
theorem Qfx{len cap:Nat}{lo hi mx:Option Int}{l h m:Nat}(hk:Xs len len lo hi mx=some (l,h,m))(hle:len<=cap):∃m',Xs len cap lo hi mx=some (l,h,m')/\m<=m' /\(mx.isSome=true->m' =m)/\(mx=none->m' =cap):=by
 obtain⟨b1,b2,b3,b4,b5,b6,b7⟩:=Qak hk;cases mx with
 |none=>
  simp only[Zsu,Int.natCast_inj] at b3;refine⟨cap,?_,by omega,(fun h=>by cases h),fun _=>rfl⟩;unfold Xs;rw[if_pos]
  . simp only[Zsu,b1,b2,Ztx]
  . simp only[Zsu,b1,b2];exact⟨by omega,by omega,by omega,by omega,by omega,by omega,by simp⟩
 |some q=>
  refine⟨m,?_,Zrf _,fun _=>rfl,(fun h=>by cases h)⟩;unfold Xs;rw[if_pos]
  . rw[b1,b2];simp only[Zs3] at b3⊢;rw[b3];simp
  . rw[b1,b2];simp only[Zs3] at b3⊢;rw[b3];exact⟨by omega,by omega,by omega,by omega,by omega,by omega,b7⟩
theorem Qol{f s o len c esz l h m b T n:Nat}{cap:Option Nat}{lo hi mx:Option Int}{x:V}(hc:Qps f s o len cap esz lo hi mx=some x)
 (hk:Xs len c lo hi mx=some (l,h,m))(hle:len<=c)(hcap:∀k,cap=some k->c=k)(hmu:E.mu f s=some b)(hsh:E.w.shape? b=some (T,n))(hn:o+c*esz<=n)(hn2:cap=none->o+c*esz=n):
 Rel E x (.slice (some (if m=l then⟨b,o,none⟩ else(⟨b,o,none⟩:Addr).add (l*esz))) (h-l) (m-l)):=by
 obtain⟨a1,a2,a3,a4,a5,a6,a7⟩:=Qak hk;have main:∀k:Option Nat,(∀q,k=some q->m-l=q)->(k=none->cap=none/\m=c/\m≠l)->Rel E (.mS f s (if m=l then o else o+l*esz) (h-l) k esz) (.slice (some (if m=l then⟨b,o,none⟩ else(⟨b,o,none⟩:Addr).add (l*esz))) (h-l) (m-l)):=by
  intro k hkk hkn;simp only[Rel];refine⟨b,m-l,T,n,hmu,?_,by omega,fun q hq=>hkk q hq,hsh,?_,?_⟩
  . by_cases e:m=l
    . rw[if_pos e,if_pos e]
    . rw[if_neg e,if_neg e,Yw]
  . have h1:(m-l)*esz+l*esz=m*esz:=by rw[<-Ztd];congr 1;omega
    have h2:m*esz<=c*esz:=Zsx _ a6;by_cases e:m=l
    . rw[if_pos e];have:m-l=0:=by omega
      rw[this];omega
    . rw[if_neg e];omega
  . intro hk0;obtain⟨e1,e2,e3⟩:=hkn hk0;have:=hn2 e1;have h1:(m-l)*esz+l*esz=m*esz:=by rw[<-Ztd];congr 1;omega
    rw[if_neg e3];subst e2;omega
 unfold Qps at hc;split at hc
 . rename_i c';have:=hcap c' rfl;subst this;rw[hk] at hc;cases hc;exact main _ (fun q hq=>by cases hq;rfl) (fun h=>by cases h)
 . split at hc
   . rename_i l' h' m' hk';obtain⟨m2,e1,e2,e3,e4⟩:=Qfx hk' hle;rw[hk] at e1;simp only[Zui,Prod.mk.injEq] at e1;obtain⟨rfl,rfl,rfl⟩:=e1;split at hc
     . rename_i hs;cases hc;rw[<-e3 hs];exact main _ (fun q hq=>by cases hq;rfl) (fun h=>by cases h)
     . split at hc
       . rename_i hs hlt;cases hc;have hmx:mx=none:=by cases mx with|none=>rfl|some=>exact absurd rfl hs
         have hm:=e4 hmx;have e:¬m=l:=by omega
         have:=main none (fun q hq=>by cases hq) (fun _=>⟨rfl,hm,e⟩);rw[if_neg e] at this;exact this
       . cases hc;have h0:h-l=0:=by
          obtain⟨_,_,_,_,_,_,_⟩:=Qak hk';omega
         rw[h0];simp only[Rel];exact⟨_,_,[],rfl,Zt2 _,(fun h=>by cases h),.inl rfl,by simp[Qe],rfl⟩
   . cases hc
theorem Xz{t e:TypeId}{n:Nat}{a:Option Addr}{len cap l h m:Nat}{lo hi mx:Option Int}{vlo vhi vmx:Option Value}(w:World)(hu:P.underlying t=some (.slice e))(hn:sz P e=some n)
 (hc:Xs len cap lo hi mx=some (l,h,m))(h1:(lo=none/\vlo=none)\/∃k n,lo=some n/\vlo=some (.int k n))(h2:(hi=none/\vhi=none)\/∃k n,hi=some n/\vhi=some (.int k n))
 (h3:(mx=none/\vmx=none)\/∃k n,mx=some n/\vmx=some (.int k n)):
 (Instr.sliceAt t (.slice a len cap) vlo vhi vmx).run P w= .ok (.slice (if m=l then a else a.map (·.add (l*n))) (h-l) (m-l)) w:=by
 simp only[Instr.sliceAt,Instr.slice,Zuk,Qh hu,Zuj,Qcb w true hc h1 h2 h3,Jw hn,Zul]
theorem Qug(S:Sim B F H E){t:TypeId}{x:V}{lo hi mx:Option V}{y:V}{c:Value}{vlo vhi vmx:Option Value}(h:Zh P (Qd H) t x lo hi mx=some y)(hr:Rel E x c)
 (h1:RelO E lo vlo)(h2:RelO E hi vhi)(h3:RelO E mx vmx):
 ∃v,(Instr.sliceAt t c vlo vhi vmx).run P E.w= .ok v E.w/\Rel E y v:=by
 unfold Zh at h;split at h
 case h_2=>cases h
 rename_i ilo ihi imx g1 g2 g3;have k1:=Qfi g1 h1;have k2:=Qfi g2 h2;have k3:=Qfi g3 h3;split at h
 . rename_i hu;split at h
   case h_2=>cases h
   rename_i s;simp only[Rel] at hr;subst hr;split at h
   . cases h
   . rename_i hmx;have hmx' :imx=none:=by cases imx with|none=>rfl|some=>simp at hmx
     subst hmx';have hv:vmx=none:=by rcases k3 with⟨_,h⟩|⟨_,_,h,_⟩;exact h;cases h
     subst hv;split at h
     . rename_i l hh m hc;cases h;have hb:=Qcb (P:=P) E.w false hc k1 k2 (.inl ⟨rfl,rfl⟩);have hsz:(⟨⟨s⟩⟩:ByteArray).size=s.length:=rfl;refine⟨_,by simp only[Instr.sliceAt,Instr.slice,Zuk,Qh hu,Zuj,Option.isSome_none,Zre,if_false,Zul,hsz,hb];rfl,?_⟩;simp only[Rel,Value.string.injEq];exact ByteArray.extract_mk s l hh
     . cases h
 . rename_i e hu;split at h
   case h_2=>cases h
   rename_i n hn;split at h
   .
    split at h
    . rename_i q hc;cases h;obtain⟨l,hh,m⟩:=q;simp only[Rel] at hr;subst hr;refine⟨_,Xz E.w hu hn hc k1 k2 k3,?_⟩;obtain⟨_,_,_,a4,a5,a6,_⟩:=Qak hc;have:m=l:=by omega
      have e1:hh-l=0:=by omega
      have e2:m-l=0:=by omega
      simp only[Rel,this,if_true,e1,Zt5]
    . cases h
   . rename_i cs len full;simp only[Rel] at hr;obtain⟨a,cap,vs,rfl,r1,r2,r3,r4,r5⟩:=hr;have hcut:=h;unfold Qj9 at hcut;split at hcut
     case isFalse=>cases hcut
     split at hcut
     case h_2=>cases hcut
     rename_i l hh m hk;obtain⟨m',hk',_,_,_⟩:=Qfx hk r1;refine⟨_,Xz E.w hu hn hk' k1 k2 k3,?_⟩;have:=Qjw h hk' r2 r3 r4 r5;by_cases e:m' =l
     . rw[if_pos e] at this⊢;exact this
     . rw[if_neg e] at this⊢;exact this
   . rename_i f s cs len e';split at h
     case isFalse=>cases h
     rename_i he;obtain⟨he,r5⟩:=he;subst he;simp only[Rel] at hr;obtain⟨b,off,cap,vs,rfl,r1,r3,r4,_⟩:=hr;have hcut:=h;unfold Qj9 at hcut;split at hcut
     case isFalse=>cases hcut
     split at hcut
     case h_2=>cases hcut
     rename_i l hh m hk;obtain⟨m',hk',_,_,_⟩:=Qfx hk r1;refine⟨_,Xz E.w hu hn hk' k1 k2 k3,?_⟩;have:=Qjw (a:=⟨b,off,none⟩) h hk' (fun hf=>by cases hf) (.inr ⟨rfl,r3⟩) r4 r5;by_cases e:m' =l
     . rw[if_pos e] at this⊢;exact this
     . rw[if_neg e] at this⊢;exact this
   . rename_i f s o len cap e';split at h
     case isFalse=>cases h
     rename_i he;subst he;simp only[Rel] at hr;obtain⟨b,c',T,n',hmu,rfl,r1,r2,r3,r4⟩:=hr;have:∃l hh m,Xs len c' ilo ihi imx=some (l,hh,m):=by
      have hcut:=h;unfold Qps at hcut;split at hcut
      . rename_i q;have:=r2 q rfl;subst this;split at hcut
        . rename_i l hh m hk;exact⟨l,hh,m,hk⟩
        . cases hcut
      . split at hcut
        . rename_i l hh m hk;obtain⟨m',hk',_⟩:=Qfx hk r1;exact⟨l,hh,m',hk'⟩
        . cases hcut
     obtain⟨l,hh,m,hk⟩:=this;refine⟨_,Xz E.w hu hn hk k1 k2 k3,?_⟩;have:=Qol h hk r1 r2 hmu r3 r4.1 r4.2;by_cases e:m=l
     . rw[if_pos e] at this⊢;exact this
     . rw[if_neg e] at this⊢;exact this
   . cases h
 . rename_i k e hu;split at h
   case h_2=>cases h
   rename_i n hn;have runArr:∀(a:Addr) (l hh m:Nat),Xs k k ilo ihi imx=some (l,hh,m)->(Instr.sliceAt t (.pointer (some a)) vlo vhi vmx).run P E.w= .ok (.slice (some (if m=l then a else a.add (l*n))) (hh-l) (m-l)) E.w:=by intro a l hh m hc;simp only[Instr.sliceAt,Instr.sureAddr,Zuk,Qh hu,Zuj,Zul,Qcb E.w false hc k1 k2 k3,Jw hn]
   split at h
   . rename_i f s o;split at h
     case h_2=>cases h
     rename_i xs hg;split at h
     case isFalse=>cases h
     rename_i hle;simp only[Rel] at hr;obtain⟨b,hmu,rfl⟩:=hr;have hcut:=h;unfold Qps at hcut;simp only at hcut;split at hcut
     case h_2=>cases hcut
     rename_i l hh m hk;refine⟨_,runArr _ l hh m hk,?_⟩;obtain⟨b2,cc,T,vs,rest,q1,_,q3,q4,q5,_⟩:=S.lies hg;rw[hmu] at q1;cases q1;have hsize:xs.length<=cc.size:=by have h1:=congrArg List.length q4;have h2:=q5.length;simp at h1;omega
     exact Qol (T:=T) (n:=cc.size) h hk (Zrf _) (fun q hq=>by cases hq;rfl) hmu (by simp[World.shape?,q3]) (by omega) (fun h=>by cases h)
   . rename_i cs o;split at h
     case isFalse=>cases h
     rename_i hle;simp only[Rel] at hr;obtain⟨b,off,vs,rfl,r1,r2,r3⟩:=hr;have hcut:=h;unfold Qj9 at hcut;split at hcut
     case isFalse=>cases hcut
     split at hcut
     case h_2=>cases hcut
     rename_i l hh m hk;refine⟨_,runArr _ l hh m hk,?_⟩;exact Qjw (a:=⟨b,off+o,none⟩) h hk (fun _=>rfl) (.inr ⟨rfl,r1.take o (k*n)⟩) ((r2.drop o).take _) (Qjq (Qjo r3 _) _)
   . cases h
 . cases h
end Go.AM
namespace Go.AM
variable {P : Program} {E : Env} {B : Nat} {F : Nat -> Nat -> Prop} {H : Heap}
theorem Ql6{t:TypeId}{x i y:V}{c ci:Value}(w:World)(h:Qm P t x i=some y)(hr:Rel E x c)(hi:Rel E i ci):
 ∃v,(Instr.indexAt t c ci).run P w= .ok v w/\Rel E y v:=by
 unfold Qm at h;split at h
 case h_2=>cases h
 rename_i k n;simp only[Rel] at hi;subst hi;split at h
 . rename_i m e hu;split at h
   case h_2=>cases h
   rename_i es hes;split at h
   case isFalse=>cases h
   rename_i hin;have run1:∀a:Addr,(Instr.indexAt t (.pointer (some a)) (.int k n)).run P w= .ok (.pointer (some (a.add (n.toNat*es)))) w:=by intro a;simp[Instr.indexAt,asIntOf,Qh hu,Instr.sureAddr,hin,Jw hes]
   split at h
   . cases h;simp only[Rel] at hr;obtain⟨b,hb,rfl⟩:=hr;refine⟨_,run1 _,?_⟩;simp only[Rel];exact⟨b,hb,by rw[Yw]⟩
   . cases h;simp only[Rel] at hr;obtain⟨b,off,vs,rfl,r1,r2,r3⟩:=hr;refine⟨_,run1 _,?_⟩;simp only[Rel];exact⟨b,off,vs,by rw[Yw,Zsg],r1,r2,r3⟩
   . cases h;simp only[Rel] at hr;obtain⟨b,off,vs,rfl,r1,r2⟩:=hr;refine⟨_,run1 _,?_⟩;simp only[Rel];exact⟨b,off,vs,by rw[Yw,Zsg],r1,r2⟩
   . cases h
 . rename_i e hu;split at h
   case h_2=>cases h
   rename_i es hes;have run1:∀(a:Addr) (len cap:Nat),0<=n->n<len->(Instr.indexAt t (.slice (some a) len cap) (.int k n)).run P w= .ok (.pointer (some (a.add (n.toNat*es)))) w:=by intro a len cap h1 h2;have hin:0<=n/\n<len:=⟨h1,h2⟩;simp[Instr.indexAt,asIntOf,Qh hu,hin,Jw hes]
   split at h
   . rename_i cs len full;split at h
     case isFalse=>cases h
     rename_i hin;obtain⟨h1,h2,h3,h4⟩:=hin;cases h;simp only[Rel] at hr;obtain⟨a,cap,vs,rfl,_,_,r3,r4,r5⟩:=hr;refine⟨_,run1 a len cap h1 h2,?_⟩;have hne:vs≠[]:=by intro e;have:=r4.length;rw[e,h3] at this;have:0<len*es:=Nat.mul_pos (by omega) h4;simp at*;omega
     rcases r3 with r3|⟨r3,r6⟩
     . exact absurd r3 hne
     . obtain⟨b,off,sp⟩:=a;simp only at r3;subst r3;simp only[Rel];exact⟨b,off,vs,by rw[Yw],r6,r4,r5⟩
   . rename_i f s cs len e';split at h
     case isFalse=>cases h
     rename_i hin;obtain⟨h1,h2,rfl⟩:=hin;cases h;simp only[Rel] at hr;obtain⟨b,off,cap,vs,rfl,_,r3,r4,_⟩:=hr;refine⟨_,run1 _ len cap h1 h2,?_⟩;split
     . rename_i r5;simp only[Rel];exact⟨b,off,vs,by rw[Yw],r3,r4,r5⟩
     . simp only[Rel];exact⟨b,off,vs,by rw[Yw],r3,r4⟩
   . rename_i f s o len cap e';split at h
     case isFalse=>cases h
     rename_i hin;obtain⟨h1,h2,rfl⟩:=hin;cases h;simp only[Rel] at hr;obtain⟨b,c',T,sz',hmu,rfl,_⟩:=hr;refine⟨_,run1 _ len c' h1 h2,?_⟩;simp only[Rel];exact⟨b,hmu,by rw[Yw]⟩
   . cases h
 . cases h
theorem Qun{t:TypeId}{x i y:V}{c ci:Value}(w:World)(h:B1 P t x i=some y)(hr:Rel E x c)(hi:Rel E i ci):
 ∃v,(Instr.index t c ci).run P w= .ok v w/\Rel E y v:=by
 unfold B1 at h;split at h
 case h_2=>cases h
 rename_i k n;simp only[Rel] at hi;subst hi;split at h
 . rename_i m e cs hu;split at h
   case h_2=>cases h
   rename_i es hes;split at h
   case isFalse=>cases h
   rename_i hin;simp only[Rel] at hr;obtain⟨vs,rfl,hl⟩:=hr;obtain⟨v,h1,h2⟩:=Qao (w:=w) h hl;exact⟨v,by simp[Instr.index,asIntOf,Qh hu,hin,Jw hes,h1],h2⟩
 . rename_i s hu;split at h
   case isFalse=>cases h
   rename_i hin;simp only[Rel] at hr;subst hr;cases hs:s[n.toNat]? with
   |none=>rw[hs] at h;cases h
   |some b=>
    rw[hs] at h;cases h;have e:(⟨⟨s⟩⟩:ByteArray)[n.toNat]?=some b:=by have hlt:n.toNat<(⟨⟨s⟩⟩:ByteArray).size:=(Zsm.1 hs).1;rw[ByteArray.getElem?_lt' _ _ hlt];have:=(Zsm.1 hs).2;exact congrArg some this
    exact⟨.int .u8 b.toNat,by simp[Instr.index,asIntOf,Qh hu,hin,e],by simp[Rel]⟩
 . cases h
theorem Qic(a b:List UInt8):((⟨⟨a⟩⟩:ByteArray)==(⟨⟨b⟩⟩:ByteArray))=(a==b):=by show((⟨a⟩:Array UInt8)==⟨b⟩)=(a==b);rw[Bool.eq_iff_iff];simp
section
variable {eq : TypeId -> V -> V -> Option Bool} {d : Nat} (w : World)
 (ih:∀(t:TypeId) (x y:V) (b:Bool) (c e:Value),eq t x y=some b->Rel E x c->Rel E y e->(Op.equalIn d t c e).run P w= .ok b w)
include ih
theorem Qqo:
 ∀(fs:List Field) (xs ys:List V) (vs us:List Value) (b:Bool),Qc6 P eq fs xs ys=some b->Qe E xs vs->Qe E ys us->
  (forIn (m:=Sem) fs ((none,()):Option Bool×Unit) fun f _=>(do
    if f.name≠ "_" then do
     let x<-part f.type ⟨vs⟩ f.offset
     let y<-part f.type ⟨us⟩ f.offset
     let r<-Op.equalIn d f.type x y
     if(!r)=true then pure (ForInStep.done (some false,())) else pure (ForInStep.yield (none,()))
    else pure (ForInStep.yield (none,())))).run P w= .ok (if b then none else some false,()) w:=by
 intro fs
 induction fs with
 |nil=>intro xs ys vs us b h _ _;simp only[Qc6,Zui] at h;subst h;rfl
 |cons f fs ihf=>
  intro xs ys vs us b h hx hy;simp only[Qc6] at h;by_cases hn:f.name= "_"
  . rw[if_pos hn] at h;have h1:=ihf xs ys vs us b h hx hy;simp only[List.forIn_cons,hn,ne_eq,not_true,if_false,pure_bind];exact h1
  . rw[if_neg hn] at h;split at h
    case h_2=>cases h
    rename_i x y px py;obtain⟨c,pc,rc⟩:=Qao (w:=w) px hx;obtain⟨e,pe,re⟩:=Qao (w:=w) py hy;split at h
    . rename_i he;have h1:=ihf xs ys vs us b h hx hy;have:=ih _ _ _ _ _ _ he rc re;simp only[List.forIn_cons,hn,ne_eq,not_false_eq_true,if_true,Zuk,pc,pe,Zuj,this,Ztn,Zre,if_false,Zul];exact h1
    . rename_i he;cases h;have:=ih _ _ _ _ _ _ he rc re;simp only[List.forIn_cons,hn,ne_eq,not_false_eq_true,if_true,Zuk,pc,pe,Zuj,this,Zto,Zul];rfl
    . cases h
theorem Qrm(ty:TypeId)(m:Nat):
 ∀(n i:Nat) (xs ys:List V) (vs us:List Value) (b:Bool),Qf6 P eq ty m xs ys i n=some b->Qe E xs vs->Qe E ys us->
  (forIn (m:=Sem) (List.range' i n) ((none,()):Option Bool×Unit) fun i _=>(do
    let x<-part ty ⟨vs⟩ (i*m)
    let y<-part ty ⟨us⟩ (i*m)
    let r<-Op.equalIn d ty x y
    if(!r)=true then pure (ForInStep.done (some false,())) else pure (ForInStep.yield (none,())))).run P w= .ok (if b then none else some false,()) w:=by
 intro n
 induction n with
 |zero=>intro i xs ys vs us b h _ _;simp only[Qf6,Zui] at h;subst h;rfl
 |succ n ihn=>
  intro i xs ys vs us b h hx hy;simp only[Qf6] at h;split at h
  case h_2=>cases h
  rename_i x y px py;obtain⟨c,pc,rc⟩:=Qao (w:=w) px hx;obtain⟨e,pe,re⟩:=Qao (w:=w) py hy;split at h
  . rename_i he;have h1:=ihn (i+1) xs ys vs us b h hx hy;have:=ih _ _ _ _ _ _ he rc re;simp only[Zrt,List.forIn_cons,Zuk,pc,pe,Zuj,this,Ztn,Zre,if_false,Zul];exact h1
  . rename_i he;cases h;have:=ih _ _ _ _ _ _ he rc re;simp only[Zrt,List.forIn_cons,Zuk,pc,pe,Zuj,this,Zto,if_true,Zul];rfl
  . cases h
end
theorem Q5k(w:World):∀(n:Nat) (t:TypeId) (x y:V) (b:Bool) (c e:Value) (d:Nat),n<=d->eqV P n t x y=some b->Rel E x c->Rel E y e->
 (Op.equalIn d t c e).run P w= .ok b w:=by
 intro n
 induction n with
 |zero=>intro t x y b c e d _ h;simp[eqV] at h
 |succ n ih=>
  intro t x y b c e d hd h hx hy;obtain⟨d,rfl⟩:∃d',d=d' +1:=⟨d-1,by omega⟩;have ih' :∀(t:TypeId) (x y:V) (b:Bool) (c e:Value),eqV P n t x y=some b->Rel E x c->Rel E y e->(Op.equalIn d t c e).run P w= .ok b w:=
   fun t x y b c e=>ih t x y b c e d (by omega)
  simp only[eqV] at h;split at h
  . rename_i hu;unfold Quj at h;split at h
    . cases h;simp only[Rel] at hx hy;subst hx;subst hy;simp[Op.equalIn,Qh hu]
    . cases h
  . rename_i hu;unfold Qsi at h;split at h
    . split at h
      . rename_i hk;cases h;simp only[Rel] at hx hy;subst hx;subst hy;simp[Op.equalIn,Qh hu,hk]
      . cases h
    . cases h
  . rename_i hu;unfold Q3v at h;split at h
    . rename_i a a';cases h;simp only[Rel] at hx hy;subst hx;subst hy;simp[Op.equalIn,Qh hu,Qic]
    . cases h
  . rename_i fs hu;split at h
    case h_2=>cases h
    rename_i xs ys;split at h
    . cases h
    . rename_i hst;simp only[Rel] at hx hy;obtain⟨vs,rfl,hx⟩:=hx;obtain⟨us,rfl,hy⟩:=hy;have:=Qqo (P:=P) w ih' fs.toList xs ys vs us b h hx hy;simp only[Op.equalIn,Zuk,Qh hu,Zuj,run_program,hst,Zre,if_false];rw[<-Array.forIn_toList,this];cases b<;>rfl
  . rename_i m el hu;split at h
    case h_2=>cases h
    rename_i xs ys k hk;simp only[Rel] at hx hy;obtain⟨vs,rfl,hx⟩:=hx;obtain⟨us,rfl,hy⟩:=hy;have:=Qrm (P:=P) w ih' el k m 0 xs ys vs us b h hx hy;simp only[Op.equalIn,Zuk,Qh hu,Zuj,Jw hk];rw[Std.Legacy.Range.forIn_eq_forIn_range'];simp only[Std.Legacy.Range.size,Nat.sub_zero,Nat.add_sub_cancel,Nat.div_one];rw[this];cases b<;>rfl
  . cases h
def Qks(c:Value)(nb:Bool):TypeDesc->Prop
 | .pointer _=>if nb then c= .pointer none else∃a,c= .pointer (some a)
 | .slice _=>if nb then c= .slice none 0 0 else∃a l k,c= .slice (some a) l k
 | .map _ _=>if nb then c= .map none else∃b,c= .map (some b)
 | .func _ _ _=>if nb then c= .nilFunc else∃f a b,c= .func f a b
 | .interface _=>if nb then c= .nilIface else∃t v,c= .iface t v
 |_=>False
theorem Qlg{d:TypeDesc}{x:V}{c:Value}(hx:Jm d x=true)(rx:Rel E x c):∃nb,x.isNil=some nb/\Qks c nb d:=by
 cases x<;>simp only[Rel] at rx
 case nP=>cases d<;>simp only[Jm,Zre] at hx;exact⟨true,rfl,rx⟩
 case ptr=>cases d<;>simp only[Jm,Zre] at hx;obtain⟨b,_,rfl⟩:=rx;exact⟨false,rfl,_,rfl⟩
 case iptr=>cases d<;>simp only[Jm,Zre] at hx;obtain⟨b,_,_,rfl,_⟩:=rx;exact⟨false,rfl,_,rfl⟩
 case rptr=>cases d<;>simp only[Jm,Zre] at hx;obtain⟨b,_,_,rfl,_⟩:=rx;exact⟨false,rfl,_,rfl⟩
 case nS=>cases d<;>simp only[Jm,Zre] at hx;exact⟨true,rfl,rx⟩
 case iS=>cases d<;>simp only[Jm,Zre] at hx;obtain⟨_,_,_,rfl,_⟩:=rx;exact⟨false,rfl,_,_,_,rfl⟩
 case gS=>cases d<;>simp only[Jm,Zre] at hx;obtain⟨_,_,_,_,rfl,_⟩:=rx;exact⟨false,rfl,_,_,_,rfl⟩
 case mS=>cases d<;>simp only[Jm,Zre] at hx;obtain⟨_,_,_,_,_,rfl,_⟩:=rx;exact⟨false,rfl,_,_,_,rfl⟩
 case nM=>cases d<;>simp only[Jm,Zre] at hx;exact⟨true,rfl,rx⟩
 case map=>cases d<;>simp only[Jm,Zre] at hx;obtain⟨_,_,rfl⟩:=rx;exact⟨false,rfl,_,rfl⟩
 case nF=>cases d<;>simp only[Jm,Zre] at hx;exact⟨true,rfl,rx⟩
 case func=>cases d<;>simp only[Jm,Zre] at hx;obtain⟨_,_,rfl,_⟩:=rx;exact⟨false,rfl,_,_,_,rfl⟩
 case nI=>cases d<;>simp only[Jm,Zre] at hx;exact⟨true,rfl,rx⟩
 case face=>cases d<;>simp only[Jm,Zre] at hx;obtain⟨_,rfl,_⟩:=rx;exact⟨false,rfl,_,_,rfl⟩
 all_goals (cases d<;>simp only[Jm,Zre] at hx)
theorem Qnm(w:World){t:TypeId}{d:TypeDesc}{x y:V}{c e:Value}{b:Bool}(k:Nat)(hu:P.underlying t=some d)(hx:Jm d x=true)(hy:Jm d y=true)
 (h:Q3y x y=some b)(rx:Rel E x c)(ry:Rel E y e):(Op.equalIn (k+1) t c e).run P w= .ok b w:=by
 obtain⟨n1,i1,s1⟩:=Qlg hx rx;obtain⟨n2,i2,s2⟩:=Qlg hy ry;simp only[Q3y,i1,i2] at h;cases d<;>simp only[Qks] at s1 s2<;>cases n1<;>cases n2<;>simp only[Zui,reduceCtorEq,if_true,if_false,Zre] at h s1 s2<;>subst h
 case pointer.false.true=>obtain⟨_,rfl⟩:=s1;subst s2;simp[Op.equalIn,Qh hu]
 case pointer.true.false=>obtain⟨_,rfl⟩:=s2;subst s1;simp[Op.equalIn,Qh hu]
 case pointer.true.true=>subst s1;subst s2;simp[Op.equalIn,Qh hu]
 case slice.false.true=>obtain⟨_,_,_,rfl⟩:=s1;subst s2;simp[Op.equalIn,Qh hu]
 case slice.true.false=>obtain⟨_,_,_,rfl⟩:=s2;subst s1;simp[Op.equalIn,Qh hu]
 case slice.true.true=>subst s1;subst s2;simp[Op.equalIn,Qh hu]
 case map.false.true=>obtain⟨_,rfl⟩:=s1;subst s2;simp[Op.equalIn,Qh hu]
 case map.true.false=>obtain⟨_,rfl⟩:=s2;subst s1;simp[Op.equalIn,Qh hu]
 case map.true.true=>subst s1;subst s2;simp[Op.equalIn,Qh hu]
 case func.false.true=>obtain⟨_,_,_,rfl⟩:=s1;subst s2;simp[Op.equalIn,Qh hu]
 case func.true.false=>obtain⟨_,_,_,rfl⟩:=s2;subst s1;simp[Op.equalIn,Qh hu]
 case func.true.true=>subst s1;subst s2;simp[Op.equalIn,Qh hu]
 case interface.false.true=>obtain⟨_,_,rfl⟩:=s1;subst s2;simp[Op.equalIn,Qh hu]
 case interface.true.false=>obtain⟨_,_,rfl⟩:=s2;subst s1;simp[Op.equalIn,Qh hu]
 case interface.true.true=>subst s1;subst s2;simp[Op.equalIn,Qh hu]
theorem Zd8(x y:Operand):(Qd2 x||Qd2 y)=true->((match x with| .const _=>true|_=>false)||(match y with| .const _=>true|_=>false))=true:=by
 intro h;simp only[Zs4] at h;rcases h with h|h
 . cases x<;>simp_all[Qd2]
 . cases y<;>simp_all[Qd2]
theorem Qdx(w:World)(op:BinOp)(t:TypeId)(x y:Operand)(ca cb:Value)(hn:ca= .nilIface->cb= .nilIface->(Qd2 x||Qd2 y)=true)
 (hg:∀xs ys,ca= .agg xs->cb= .agg ys->P.eqGuardType P.depth t=false):(eqGuard op t x y ca cb).run P w= .ok () w:=by
 unfold eqGuard;rw[Sem.run_ite];split
 case h_3=>rfl
 all_goals
  simp only[Ztn,Zre,if_false];split
  . have:=Zd8 x y (hn rfl rfl);rw[Sem.run_ite,if_pos]
    . rfl
    . exact this
  . simp only[Zuk,run_program,Zuj,hg _ _ rfl rfl,Zto,if_true,Zul]
  . rfl
theorem Qo1(w:World){t:TypeId}{x y:Operand}{a b:V}{ca cb:Value}{r:Bool}(op:BinOp)(h:Qkk P t x y a b=some r)(ra:Rel E a ca)(rb:Rel E b cb):
 (eqGuard op t x y ca cb).run P w= .ok () w/\(Op.equal t ca cb).run P w= .ok r w:=by
 have deep:eqV P 8 t a b=some r->(∀xs ys,ca= .agg xs->cb= .agg ys->P.eqGuardType P.depth t=false)->(ca≠ .nilIface)->
  (eqGuard op t x y ca cb).run P w= .ok () w/\(Op.equal t ca cb).run P w= .ok r w:=
  fun he hg hn=>⟨Qdx w op t x y ca cb (fun h=>absurd h hn) hg,Q5k w 8 t a b r ca cb _ (by decide) he ra rb⟩
 unfold Qkk at h;split at h
 . rename_i fs hu;split at h
   . cases h
   . rename_i hg;refine deep h (fun _ _ _ _=>by simpa using hg) ?_;simp only[eqV,hu] at h;split at h
     . simp only[Rel] at ra;obtain⟨_,rfl,_⟩:=ra;exact fun h=>by cases h
     . cases h
 . rename_i n e hu;split at h
   . cases h
   . rename_i hg;refine deep h (fun _ _ _ _=>by simpa using hg) ?_;simp only[eqV,hu] at h;split at h
     . simp only[Rel] at ra;obtain⟨_,rfl,_⟩:=ra;exact fun h=>by cases h
     . cases h
 . rename_i hu;have he:=h;simp only[eqV,hu,Quj] at he;split at he
   . simp only[Rel] at ra;subst ra;exact deep h (fun _ _ e=>by cases e) (fun e=>by cases e)
   . cases he
 . rename_i hu;have he:=h;simp only[eqV,hu,Qsi] at he;split at he
   . simp only[Rel] at ra;subst ra;exact deep h (fun _ _ e=>by cases e) (fun e=>by cases e)
   . cases he
 . rename_i hu;have he:=h;simp only[eqV,hu,Q3v] at he;split at he
   . simp only[Rel] at ra;subst ra;exact deep h (fun _ _ e=>by cases e) (fun e=>by cases e)
   . cases he
 . rename_i d _ _ _ _ _ hu;split at h
   case isFalse=>cases h
   rename_i hk;simp only[Zr1] at hk;have shapes:∀(z:V) (c:Value),Jm d z=true->Rel E z c->(∀xs,c≠ .agg xs)/\(c= .nilIface->z= .nI):=by
    intro z c hz rz;obtain⟨nb,i1,s1⟩:=Qlg hz rz;cases d<;>simp only[Qks] at s1<;>cases nb<;>simp only[if_true,if_false,Zre] at s1
    case interface.true=>subst s1;exact⟨(fun _ e=>by cases e),(fun _=>by cases z<;>simp only[Jm,Zre] at hz<;>simp only[V.isNil,Zui,reduceCtorEq] at i1;rfl)⟩
    all_goals first
     |(subst s1;exact⟨(fun _ e=>by cases e),(fun e=>by cases e)⟩)
     |(obtain⟨_,rfl⟩:=s1;exact⟨(fun _ e=>by cases e),(fun e=>by cases e)⟩)
     |(obtain⟨_,_,rfl⟩:=s1;exact⟨(fun _ e=>by cases e),(fun e=>by cases e)⟩)
     |(obtain⟨_,_,_,rfl⟩:=s1;exact⟨(fun _ e=>by cases e),(fun e=>by cases e)⟩)
   have noAgg:=(shapes a ca hk.1 ra).1;split at h
   . split at h
     case isFalse=>cases h
     rename_i hc;cases h;exact⟨Qdx w op t x y ca cb (fun _ _=>hc) (fun xs _ e=>absurd e (noAgg xs)),Qnm w 9999 hu hk.1 hk.2 rfl ra rb⟩
   . rename_i hnn;exact⟨Qdx w op t x y ca cb (fun e1 e2=>(hnn ((shapes a ca hk.1 ra).2 e1) ((shapes b cb hk.2 rb).2 e2)).elim) (fun xs _ e=>absurd e (noAgg xs)),Qnm w 9999 hu hk.1 hk.2 h ra rb⟩
 . cases h
end Go.AM
end
