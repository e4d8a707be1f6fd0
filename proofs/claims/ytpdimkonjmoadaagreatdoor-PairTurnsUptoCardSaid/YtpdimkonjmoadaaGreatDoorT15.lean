/- This file holds in one the texts Bx22, Bx16, Bx53, Bx17, Bx35, Bx50; each says at its head what it proves. -/
import Derived.Test.YtpdimkonjmoadaaGreatDoorT6
import Derived.Test.YtpdimkonjmoadaaGreatDoorT8
import Derived.Test.YtpdimkonjmoadaaGreatDoorT13
import Derived.Test.YtpdimkonjmoadaaGreatDoorT14
import Derived.RangeFuncRecord
import Derived.RangeFuncCalls
import Derived.OrdersIn
import Derived.DefersIn
import Derived.RangeFuncNested
import Derived.Maps.RangeRun
set_option linter.unusedSimpArgs false
set_option linter.unusedVariables false
section
namespace Go.AM.BM
def Qbp(ops:Array Oper):Bool:=
 (List.range ops.size).all fun i=>
   ((ops.getD i default).after.all fun e=>!Region.binds .any e||decide (e.on<i))&&
   (List.range i).all fun j=>((Region.before ops).getD i 0).testBit j||Ju ops (ops.getD j default) (ops.getD i default)
section
variable {P : Program} {pol : Pol} {C : Call} {ops : Array Oper} {base lim : Nat} {T : List FP}
theorem Qhq{bef:Array Nat}:∀{l:List (FP×Nat)},okT bef l=true->∀{l1 l2:List (FP×Nat)} {a b:FP} {i j:Nat},l=l1++(a,i)::l2->(b,j)∈l2->
 (bef.getD j 0).testBit i=true\/a.indep b=true
 |[],_,l1,l2,a,b,i,j,h,_=>by simp at h
 |(c,k)::r,h,l1,l2,a,b,i,j,he,hm=>by
  simp only[okT,Zqf,Zqt] at h;cases l1 with
  |nil=>
   simp only[Zrg,List.cons.injEq,Prod.mk.injEq] at he;obtain⟨⟨rfl,rfl⟩,rfl⟩:=he;have:=h.1 (b,j) hm;simpa using this
  |cons x l1=>
   simp only[Zqo,List.cons.injEq] at he;exact Qhq h.2 he.2 hm
theorem Qlv{bef:Array Nat}(h:okT bef (loud T)=true){i j:Nat}(hij:i<j)(hj:j<T.length):
 (bef.getD j 0).testBit i=true\/(T.getD i .all).indep (T.getD j .all)=true:=by
 have hi:i<T.length:=Zpr hij hj;have ei:T.getD i .all=T[i]:=by simp[List.getD,hi]
 have ej:T.getD j .all=T[j]:=by simp[List.getD,hj]
 rw[ei,ej];by_cases qi:T[i]= .quiet
 . right;rw[qi];cases T[j]<;>rfl
 by_cases qj:T[j]= .quiet
 . right;rw[qj];cases T[i]<;>rfl
 have hsplit:T.zipIdx=(T.zipIdx.take i)++(T[i],i)::T.zipIdx.drop (i+1):=by
  have hl:i<T.zipIdx.length:=by simpa using hi
  have e:T.zipIdx[i]=(T[i],i):=by simp
  rw[<-e,List.getElem_cons_drop];exact(Zqa _ _).symm
 have e:loud T=(T.zipIdx.take i).filter (fun x=>x.1.loud)++(T[i],i)::(T.zipIdx.drop (i+1)).filter (fun x=>x.1.loud):=by
  unfold loud
  conv=>lhs;rw[hsplit]
  rw[Zri,Zrj];have:(T[i],i).1.loud=true:=by simp only;cases hq:T[i]<;>first|exact absurd hq qi|rfl
  rw[if_pos this]
 refine Qhq h e ?_;rw[Zrk];constructor
 . rw[Zrl];refine⟨j-(i+1),?_⟩;rw[Zq6];have:i+1+(j-(i+1))=j:=by omega
   rw[this];simp[hj]
 . simp only;cases hq:T[j]<;>first|exact absurd hq qj|rfl
theorem Qha(h:Qbp ops=true):∀i,i<ops.size->(∀e∈(ops.getD i default).after,Region.binds .any e=true->e.on<i)/\
 ∀j,j<i->((Region.before ops).getD i 0).testBit j=true\/Ju ops (ops.getD j default) (ops.getD i default)=true:=by
 simp only[Qbp,Zqf,Zqt,Zq1,Zqu] at h;intro i hi;obtain⟨h1,h2⟩:=h i hi;refine⟨fun e he hbd=>?_,h2⟩;have h3:=Zrm.1 h1 e he;simpa [hbd] using h3
def Bz(n:Nat)(listed:Array Bool):List Nat:=(List.range n).filter fun i=>!listed.getD i true
theorem Qqu{n i:Nat}{listed:Array Bool}(hn:listed.size=n)(hi:i<n)(hu:listed.getD i true=false):
 Bz n listed=(List.range i).filter (fun k=>!listed.getD k true)++i::((List.range' (i+1) (n-(i+1))).filter fun k=>!listed.getD k true)/\
 Bz n (listed.setIfInBounds i true)=(List.range i).filter (fun k=>!listed.getD k true)++((List.range' (i+1) (n-(i+1))).filter fun k=>!listed.getD k true):=by
 have hr:List.range n=List.range i++i::List.range' (i+1) (n-(i+1)):=by
  have e:n=i+(n-i):=by omega
  have e2:n-i=(n-(i+1))+1:=by omega
  conv=>lhs;rw[e,Zrn,<-List.range'_append_1]
  rw[<-Zrn,Zpw,e2,Zq3]
 have hset:∀k,k≠i->(listed.setIfInBounds i true).getD k true=listed.getD k true:=by intro k hk;simp only[Zro];rw[Zrp (fun e=>hk e.symm)]
 have hseti:(listed.setIfInBounds i true).getD i true=true:=by simp[Zro,hn,hi]
 constructor
 . unfold Bz;rw[hr,Zri,Zrj,hu];rfl
 . unfold Bz;rw[hr,Zri,Zrj,hseti];simp only[Zrq,Zpo,if_false];congr 1
   . refine List.filter_congr fun k hk=>?_;rw[hset k (by have:=Zq1.1 hk;omega)]
   . refine List.filter_congr fun k hk=>?_;rw[hset k (by have:=(List.mem_range'_1.1 hk).1;omega)]
def Q13(ops:Array Oper)(listed:Array Bool):Prop:=∀i j,i<ops.size->listed.getD i false=true->((Region.before ops).getD i 0).testBit j=true->listed.getD j false=true
theorem Qf8(hC:Xm C)(tm:Qjl pol)(hlim:base+ops.size<=lim)(h:Qbp ops=true)(hT:T.length=ops.size)(hok:okT (Region.before ops) (loud T)=true){res:List V×Heap}:
 ∀(fuel tp:Nat) (listed:Array Bool) (acc:List Nat) (t:List V) (H:Heap),listed.size=ops.size->Q13 ops listed->(Bz ops.size listed).length=fuel->
  Bi P pol C ops base lim T (Bz ops.size listed) t H=some res->
  ∃L,Region.linearise.go .any ops fuel tp listed acc=acc.reverse++L/\Bi P pol C ops base lim T L t H=some res:=by
 have hsp:=Qha h;intro fuel
 induction fuel with
 |zero=>
  intro tp listed acc t H _ _ hl hr;have:Bz ops.size listed=[]:=List.length_eq_zero_iff.1 hl;rw[this] at hr;exact⟨[],by simp[Region.linearise.go],hr⟩
 |succ fuel ih=>
  intro tp listed acc t H hsz hcl hl hr;simp only[Region.linearise.go];generalize hrs:(List.range ops.size).filter (fun i=>!listed.getD i true&&((ops[i]?).map (·.after.all fun e=>!Region.binds .any e||listed.getD e.on false)).getD false)=rs;obtain⟨m,hm,hmin⟩:∃m,m∈Bz ops.size listed/\∀k∈Bz ops.size listed,m<=k:=by
   cases htd:Bz ops.size listed with
   |nil=>rw[htd] at hl;cases hl
   |cons m r=>
    refine⟨m,by simp,fun k hk=>?_⟩;have hp:(Bz ops.size listed).Pairwise (· < ·):=List.Pairwise.filter _ List.pairwise_lt_range;rw[htd] at hp;rcases Zpy.1 hk with rfl|hk
    . exact Zpp _
    . exact Zrr ((List.pairwise_cons.1 hp).1 k hk)
  have hm' :=hm;simp only[Bz,Zrk,Zq1,Zqg] at hm';have hrm:m∈rs:=by
   rw[<-hrs,Zrk];refine⟨Zq1.2 hm'.1,?_⟩;have eo:ops[m]?=some (ops.getD m default):=by simp[Array.getD,hm'.1]
   simp only[hm'.2,Zrs,Zql,eo,Zpl,Zqs];rw[Zrm];intro e he;cases hbd:Region.binds .any e with
   |false=>rfl
   |true=>
   have hlt:=(hsp m hm'.1).1 e he hbd;simp only[Zrq,Zqr];have hon:e.on<ops.size:=Zpr hlt hm'.1;cases hb:listed.getD e.on false with
   |true=>rfl
   |false=>
    have:e.on∈Bz ops.size listed:=by simp only[Bz,Zrk,Zq1,Zqg];refine⟨hon,?_⟩;simp only[Array.getD,hsz,hon,dif_pos] at hb⊢;exact hb
    have:=hmin _ this;omega
  have hpos:0<rs.length:=List.length_pos_of_mem hrm;have hlt:tp%rs.length<rs.length:=Nat.mod_lt _ hpos;rw[Zpk hlt];generalize hi:rs[tp%rs.length]=i;have hir:i∈rs:=by rw[<-hi];exact Zrt hlt
  rw[<-hrs,Zrk] at hir;obtain⟨hin,hir⟩:=hir;have hin:=Zq1.1 hin;simp only[Zqf,Zqg] at hir;obtain⟨hu,hir⟩:=hir;have eo:ops[i]?=some (ops.getD i default):=by simp[Array.getD,hin]
  simp only[eo,Zpl,Zqs] at hir;rw[Zrm] at hir;have hbefore:∀j,((Region.before ops).getD i 0).testBit j=true->listed.getD j false=true:=by
   intro j hb;obtain⟨e,he,hbd,hor⟩:=(Qhf ops).2 i _ j eo hb;have:=hir e he;simp only[hbd,Zrq,Zqr] at this;rcases hor with rfl|hor
   . exact this
   . exact hcl e.on j (Zpr ((hsp i hin).1 e he hbd) hin) this hor
  obtain⟨e1,e2⟩:=Qqu hsz hin hu;rw[e1] at hr;have hb:=Qb6 hC tm hlim hin _ t H (fun j hj=>by
   rw[Zrk] at hj;have hjl:=Zq1.1 hj.1;have hjn:j<ops.size:=Zpr hjl hin;have hnb:((Region.before ops).getD i 0).testBit j≠true:=by intro hb;have:=hbefore j hb;have hj2:=hj.2;simp only[Array.getD,hsz,hjn,dif_pos,Zqg] at this hj2;rw[this] at hj2;cases hj2
   refine⟨hjn,?_,?_⟩
   . exact((hsp i hin).2 j hjl).resolve_left hnb
   . exact(Qlv hok hjl (by rw[hT];exact hin)).resolve_left hnb) hr
  simp only[Bi] at hb;cases hst:Jm P pol C ops base lim T i t H with
  |none=>rw[hst] at hb;cases hb
  |some x=>
   obtain⟨t1,H1⟩:=x;rw[hst] at hb;simp only at hb;rw[<-e2] at hb;have hgs:∀k,(listed.setIfInBounds i true).getD k false=true↔(k=i\/listed.getD k false=true):=by
    intro k;by_cases hk:k=i
    . subst hk;simp[Zro,hsz,hin]
    . simp only[hk,false_or,Zro];rw[Zrp (fun e=>hk e.symm)]
   obtain⟨L,g1,g2⟩:=ih (tp/rs.length) (listed.setIfInBounds i true) (i::acc) t1 H1 (by simpa using hsz) (by
    intro k j hk hkl hkb;rw[hgs] at hkl⊢;rcases hkl with hki|hkl
    . rw[hki] at hkb;exact .inr (hbefore j hkb)
    . exact .inr (hcl k j hk hkl hkb)) (by
    have hl1:=hl;rw[e1] at hl1;rw[e2];simp only[Zqp,Zq2] at hl1⊢
    omega) hb
   refine⟨i::L,?_,?_⟩
   . simpa using g1
   . simp only[Bi,hst];exact g2
theorem Qc6(hC:Xm C)(tm:Qjl pol)(hlim:base+ops.size<=lim)(h:Qbp ops=true)(hT:T.length=ops.size)(hok:okT (Region.before ops) (loud T)=true){res:List V×Heap}{t:List V}{H:Heap}
 (hr:Bi P pol C ops base lim T (List.range ops.size) t H=some res){m:Bool}(hm:m=true)(tp:Nat):Bi P pol C ops base lim T (Region.schedule m ops tp) t H=some res:=by
 subst hm;have e0:Bz ops.size (Array.replicate ops.size false)=List.range ops.size:=by unfold Bz;rw[List.filter_eq_self];intro k hk;have:=Zq1.1 hk;simp[Array.getD,this]
 obtain⟨L,g1,g2⟩:=Qf8 hC tm hlim h hT hok ops.size tp (Array.replicate ops.size false) [] t H (by simp) (by
  intro i j hi hl
  simp[Array.getD] at hl) (by rw[e0];simp) (by rw[e0];exact hr)
 have:Region.schedule true ops tp=L:=by simp only[Region.schedule,Bool.true_or,if_true,Region.linearise];simpa using g1
 rw[this];exact g2
theorem Qa2:∀(l pre:List Oper) (T0:List FP) (t:List V) (H:Heap) (t' :List V) (H' :Heap) (T1:List FP),ops.toList=pre++l->T0.length=pre.length->
 Q4 P pol C ops lim (base+pre.length) l t H=some (t',H',T1)->T1.length=l.length/\Bi P pol C ops base lim (T0++T1) (List.range' pre.length l.length) t H=some (t',H')
 |[],pre,T0,t,H,t',H',T1,_,_,h=>by cases h;exact⟨rfl,rfl⟩
 |o::l,pre,T0,t,H,t',H',T1,he,hl,h=>by
  have ho:ops[pre.length]?=some o:=by
   have:ops.toList[pre.length]?=some o:=by rw[he];simp
   simpa using this
  have he' :ops.toList=(pre++[o])++l:=by rw[he];simp
  have main:∀(fp:FP) (t1:List V) (H1:Heap),(∀T2:List FP,Jm P pol C ops base lim (T0++fp::T2) pre.length t H=some (t1,H1))->
   (match Q4 P pol C ops lim (base+pre.length+1) l t1 H1 with
   |some (t',H',T)=>some (t',H',fp::T)
   |none=>none)=some (t',H',T1)->T1.length=(o::l).length/\Bi P pol C ops base lim (T0++T1) (List.range' pre.length (o::l).length) t H=some (t',H'):=by
   intro fp t1 H1 hst hm;split at hm
   case h_2=>cases hm
   rename_i t2 H2 T2 hrun;cases hm;obtain⟨g1,g2⟩:=Qa2 l (pre++[o]) (T0++[fp]) t1 H1 _ _ _ he' (by simp[hl]) (by rw[Zqp];exact hrun);refine⟨by simp[g1],?_⟩;simp only[Zq2,Zq3,Bi,hst];simpa using g2
  have Qd:∀(fp:FP) (T2:List FP),(T0++fp::T2).getD pre.length .all=fp:=by intro fp T2;simp[List.getD,<-hl]
  simp only[Q4] at h;split at h
  . cases h
  . rename_i hw;refine main .quiet (Qs t o.dst nov) H (fun T2=>?_) h;simp only[Jm,ho,hw,Qd,if_true]
  . rename_i hw;split at h
    case h_2=>cases h
    rename_i t1 H1 hop;refine main (Z0 P lim (base+pre.length) t H H1 o) t1 H1 (fun T2=>?_) h;simp only[Jm,ho,hw,hop];rw[if_pos];rw[Qd];have hcall:∀k,Z0 P lim (base+pre.length) t H H1 o= .call k->k=Qi1 lim H H1:=by
     intro k e;unfold Z0 at e
     (repeat' split at e)<;>first|(cases e;done)|(cases e;rfl)
    cases hx:Z0 P lim (base+pre.length) t H H1 o with
    |call k=>
     have:=hcall k hx;subst this;refine⟨rfl,fun f s hk=>?_⟩;simp only[Qi1,Zqf] at hk;exact⟨(Qzw _ _).1 hk.2,Zru hk.1⟩
    |_=>rfl
end
variable {P : Program} {E : Env} {B : Nat} {F : Nat -> Nat -> Prop} {H : Heap}
abbrev Za7:Frame:=[]
theorem Qh4(f s:Nat):Qd [Za7] f s=none:=by
 unfold Qd;cases f with
 |zero=>rfl
 |succ f=>rfl
theorem _root_.Go.AM.Sim.first(S:Sim B F [] E):Sim B F [Za7] E where
 dom:=fun f s=>by rw[Qh4];exact S.dom f s
 bsz:=S.bsz
 fb:=S.fb
 fmod:=S.fmod
 modsz:=S.modsz
 obj:=fun f s o h=>by rw[Qh4] at h;cases h
 nreg:=fun f s n x h=>by have:=S.nreg f s n x h;cases this
 inj:=fun f s o f' s' o' b h1=>by rw[Qh4] at h1;cases h1
theorem _root_.Go.AM.Sim.kill(S:Sim B F H E){f0 s0:Nat}{o:O}(ho:Qd H f0 s0=some o)(hg:∀n,o≠ .grow n):Sim B F (hset H f0 s0 .dead) E:=by
 refine S.step f0 s0 .dead (Yt ho) (Ext.refl _ _ _) (fun f s e=>rfl) ?_ (fun f s e=>rfl) ?_ (fun f s o b e h1 h2=>⟨rfl,fun i h=>h⟩) S.fmod S.modsz trivial ?_
 . have:=S.dom f0 s0;rw[ho] at this;exact this.symm
 . intro n x h;have:=S.nreg f0 s0 n x h;rw[ho] at this;cases this;exact absurd rfl (hg n)
 . intro f s o b e h1 h2 h3;cases h3
theorem _root_.Go.AM.Sim.spend(S:Sim B F H E){s0:Nat}(hl:0<H.length)(hn:Qd H 0 s0=none):
 Ext H.length B E {E with mu:=upd E.mu 0 s0 (some 0)}/\Sim B F (hset H 0 s0 .dead) {E with mu:=upd E.mu 0 s0 (some 0)}:=by
 have hmn:=S.mu_none hn;have X:Ext H.length B E {E with mu:=upd E.mu 0 s0 (some 0)}:=by
  refine⟨Zpp _,fun _ _ _ h=>h,fun _ _ _ _ h=>h,fun _ _ _ _ h=>h,?_,fun f s n b lo hi _ _ h=>⟨n,b,lo,hi,h,.inr ⟨rfl,rfl,rfl,rfl⟩⟩,fun _ _=>rfl,⟨rfl,rfl,rfl⟩,rfl,fun _ h=>h⟩;intro f s b' _ h;by_cases e:f=0/\s=s0
  . rw[e.1,e.2,hmn] at h;cases h
  . exact(Q7 _ _ e).trans h
 refine⟨X,S.step 0 s0 .dead hl X (fun f s e=>Q7 _ _ e) (by simp[Ql]) (fun f s e=>rfl) ?_ (fun f s o b e h1 h2=>⟨rfl,fun i h=>h⟩) S.fmod S.modsz trivial ?_⟩
 . intro n x h;have:=S.reg_none hn;simp only at h;rw[this] at h;cases h
 . intro f s o b e h1 h2 h3;cases h3
theorem Qfq(S:Sim B F H E){v v' :V}{w:Option (Nat×Nat×O)}{c:Value}(h:Qiv (Qd H) v=some (v',w))(hr:Rel E v c):
 ∃E',E'.w=E.w/\Ext H.length B E E' /\Sim B F (wr H w) E' /\Rel E' v' c:=by
 unfold Qiv at h;split at h
 . rename_i f s o len cap esz;split at h
   case h_2=>cases h
   rename_i xs hg;split at h
   case isFalse=>cases h
   rename_i hc;cases h;simp only[Rel] at hr;obtain⟨b,c',T',n',hmu,rfl,h1,h2,h3,h4,_⟩:=hr;obtain⟨b',c,T,vs,rest,g1,g2,g3,g4,g5,g6,g7⟩:=S.obj f s _ hg;rw[hmu] at g1;cases g1;obtain⟨X,S'⟩:=S.die hg hmu g3 g2 E.w rfl (fun _ _=>rfl) g3 ⟨rfl,rfl,rfl⟩;refine⟨{E with w:=E.w,mod:=fun b' i=>E.mod b' i/\b' ≠b},rfl,X,S',?_⟩;simp only[Rel];refine⟨⟨b,o,none⟩,c',(vs.drop o).take (len*esz),rfl,h1,?_,.inr ⟨rfl,fun i v hv=>⟨?_,fun hm=>hm.2 rfl⟩⟩,?_,?_⟩
   . intro hcap;exact h2 len (by simpa using hcap)
   . have hv2:vs[o+i]?=some v:=by
      rw[Zpx] at hv;split at hv
      . rw[Zq6] at hv;exact hv
      . cases hv
     have hcl:c[o+i]?=some v:=by rw[<-Zra,g4,Zre (Zq0.1 hv2).1];exact hv2
     simp only[World.cell?,g3];simpa using hcl
   . exact Qe.mono X S.lt _ _ ((g5.drop o).take _)
   . have pd:∀(l:List V) (n:Nat),Qo l=true->Qo (l.drop n)=true:=by
      intro l
      induction l with
      |nil=>intro n _;simp[Qo]
      |cons x l ih=>intro n h;cases n with
       |zero=>exact h
       |succ n=>simp only[Qo,Zqf] at h;exact ih n h.2
     have pt:∀(l:List V) (n:Nat),Qo l=true->Qo (l.take n)=true:=by
      intro l
      induction l with
      |nil=>intro n _;simp[Qo]
      |cons x l ih=>intro n h;cases n with
       |zero=>rfl
       |succ n=>simp only[Qo,Zqf] at h;simp only[Zrv,Qo,h.1,ih n h.2,Zrw]
     exact pt _ _ (pd _ _ hc.2)
 . cases h;exact⟨E,rfl,Ext.refl _ _ _,S,hr⟩
theorem Q09(S:Sim B F H E){v v' :V}{w:Option (Nat×Nat×O)}{c:Value}(h:Qxg (Qd H) v=some (v',w))(hr:Rel E v c):
 ∃E',E'.w=E.w/\Ext H.length B E E' /\Sim B F (wr H w) E' /\Rel E' v' c:=by
 unfold Qxg at h;split at h
 . rename_i x r;cases hx:Qiv (Qd H) x with
   |none=>rw[hx] at h;cases h
   |some y=>
    rw[hx] at h;cases h;simp only[Rel] at hr;obtain⟨vs,rfl,hl⟩:=hr;obtain⟨u,us,rfl,h1,h2⟩:=Qe.cons_iff.1 hl;obtain⟨E',e,X,S',h3⟩:=Qfq S hx h1;exact⟨E',e,X,S',by simp only[Rel];exact⟨_,rfl,.cons h3 (Qe.mono X S.lt _ _ h2)⟩⟩
 . exact Qfq S h hr
theorem Qzb(S:Sim B F H E){i:Option Nat}{args as:List V}{w:Option (Nat×Nat×O)}{cs:List Value}(h:Qk2 (Qd H) i args=some (as,w))(hr:Qe E args cs):
 ∃E',E'.w=E.w/\Ext H.length B E E' /\Sim B F (wr H w) E' /\Qe E' as cs:=by
 unfold Qk2 at h;split at h
 . cases h;exact⟨E,rfl,Ext.refl _ _ _,S,hr⟩
 . rename_i i;split at h
   case h_2=>cases h
   rename_i x hx;split at h
   case h_2=>cases h
   rename_i y w' hy;cases h;obtain⟨c,hc,hxc⟩:=hr.get hx;obtain⟨E',e,X,S',h1⟩:=Qfq S hy hxc;refine⟨E',e,X,S',?_⟩;have:=(Qe.mono X S.lt _ _ hr).set i h1;have e2:cs.set i c=cs:=by
    apply Zqz;intro j;rw[Zqy];by_cases e:i=j
    . subst e;rw[if_pos rfl,if_pos (Zq0.1 hc).1,hc]
    . rw[if_neg e]
   rwa[e2] at this
theorem wr_length(H:Heap)(w:Option (Nat×Nat×O)):(wr H w).length=H.length:=by
 cases w with
 |none=>rfl
 |some x=>obtain⟨f,s,o⟩:=x;exact Zy H f s o
theorem Qq0:∀(ws:List (Nat×Nat×O)) (H:Heap),(wrL H ws).length=H.length
 |[],_=>rfl
 |(f,s,o)::r,H=>by rw[wrL,Qq0 r,Zy]
end Go.AM.BM
namespace Go.AM.BM
variable {P : Program} {E : Env} {B : Nat} {F : Nat -> Nat -> Prop} {H : Heap}
theorem _root_.Go.AM.Sim.adoptCells(S:Sim B F H E){f0 s0:Nat}(hf:f0<H.length)(hn:Qd H f0 s0=none){b:Nat}{c0:Array Value}{T:TypeId}(hb:E.w.heap[b]?=some (.cells c0 T (0,0)))(hB:B<=b)(hmod:∀i,E.mod b i)
 (hfree:∀f s o,Qd H f s=some o->blk E f s o≠some b){xs:List V}{vs rest:List Value}(hr:Qe E xs vs)(hx:xs.all V.scalar=true)(hl:(vs++rest).length=c0.size):
 Ext H.length B E {E.setRow b (vs++rest) with mu:=upd E.mu f0 s0 (some b)}/\Sim B F (hset H f0 s0 (.cells xs)) {E.setRow b (vs++rest) with mu:=upd E.mu f0 s0 (some b)}:=by
 have hmn:=S.mu_none hn;have X1:Ext H.length B E (E.setRow b (vs++rest)):=Qjj hb hB _ hl (fun i h=>absurd (hmod i) h);have X:Ext H.length B E {E.setRow b (vs++rest) with mu:=upd E.mu f0 s0 (some b)}:=by
  refine⟨X1.size,X1.shape,X1.cell,X1.mod,?_,X1.reg,X1.old,X1.rest,X1.tab,X1.dfr⟩;intro f s b' _ h;by_cases e:f=f0/\s=s0
  . rw[e.1,e.2,hmn] at h;cases h
  . exact(Q7 _ _ e).trans h
 refine⟨X,S.step f0 s0 _ hf X (fun f s e=>Q7 _ _ e) (by simp[Ql]) (fun f s e=>rfl) ?_ ?_ ?_ ?_ ?_ ?_⟩
 . intro n x h;have:=S.reg_none hn;simp only[Env.setRow] at h;rw[this] at h;cases h
 . intro f s o b' e ho hb';refine⟨?_,fun i h=>h⟩;have hne:b' ≠b:=fun e' =>hfree f s o ho (e' ▸hb');simp only[Env.setRow];exact setRow_other E.w b b' _ hne
 . exact fun b i h=>S.fmod b i h
 . intro b' i h;simp only[Env.setRow,Qgz];exact S.modsz b' i h
 . exact⟨b,⟨vs++rest⟩,T,vs,rest,Ql _ _ _ _,hB,setRow_heap E.w b c0 _ T (0,0) hb,rfl,Qe.mono X S.lt _ _ hr,hmod,hx⟩
 . intro f s o b' e ho hb' h;simp only[blk,Ql,Zss] at h;subst h;exact hfree f s o ho hb'
theorem Qtx(hl:0<H.length){f0 s0:Nat}{o0:O}(ho:Qd H f0 s0=some o0):∀f s o,Qd (hset H f0 s0 .dead) f s=some o->(f=f0/\s=s0/\o= .dead)\/(¬(f=f0/\s=s0)/\Qd H f s=some o):=by
 intro f s o h;rw[Xq _ _ _ _ (Yt ho)] at h;by_cases e:f=f0/\s=s0
 . rw[if_pos e] at h;cases h;exact .inl ⟨e.1,e.2,rfl⟩
 . rw[if_neg e] at h;exact .inr ⟨e,h⟩
theorem Qxm(S:Sim B F H E)(hlt:0<H.length){nm:Nat}{ts:Array TypeId}{t t2:TypeId}(ty:TypeId){s x:V}{cs cx:Value}{v:V}{ws:List (Nat×Nat×O)}
 (ht:ts[0]?=some t)(ht2:ts[1]?=some t2)(h:Qhc P (Qd H) nm t t2 s x=some (v,ws))(rs:Rel E s cs)(rx:Rel E x cx):
 ∃E' cv,Ext H.length B E E' /\Sim B F (wrL H ws) E' /\Rel E' v cv/\(Builtin.append_ ts ty #[cs,cx]).run P E.w= .ok cv E'.w:=by
 unfold Qhc at h;split at h<;>try (cases h;done)
 rename_i e f sl len e' hu;split at h<;>try (cases h;done)
 rename_i n by_ z hn hb hzc;split at h<;>try (cases h;done)
 rename_i hcond;obtain⟨hzl,rfl,hn0⟩:=hcond;split at h<;>try (cases h;done)
 rename_i xs new m hg hnn hsrc;split at h<;>try (cases h;done)
 rename_i hh;obtain⟨hxl,hr,hsc⟩:=hh;cases h;obtain⟨zv,zvs,hzrun,hzcells,hzrel,_⟩:=Jh hzc E.w;have hz:zer P e=some zv:=by
  unfold zeroCells at hzc;cases hq:zer P e with
  |none=>rw[hq] at hzc;cases hzc
  |some q=>
   have:=Qaa hq E.w;rw[this] at hzrun;simp only[Result.ok.injEq,and_true] at hzrun;rw[hzrun]
 obtain⟨news,hs,hrel,hl⟩:=Qfk S hz hzc hzl hsrc rx
 replace hl:news.length=(m+1)*e' :=hl
 have hne:¬(f=0/\sl=nm):=by rintro⟨rfl,rfl⟩;rw[hg] at hnn;cases hnn
 have hzl2:∀k,(zerosN zv.cells.toList k).length=k*e' :=by
  intro k;have:zv.cells.toList.length=e' :=by rw[<-hzl,hzcells];exact((hzrel E).length).symm
  induction k with
  |zero=>simp[zerosN]
  |succ k ih=>simp only[zerosN,Zqp,ih,this,Zrb];omega
 have rs' :=rs;simp only[Rel] at rs;obtain⟨b,c',T',n',hmu,rfl,g1,g2,g3,g4,g5⟩:=rs;have q0:=S.lies hg;obtain⟨b2,c,T,vs,rest,q1,q2,q3,q4,q5,q6,q7,q8⟩:=S.lies hg;rw[hmu] at q1;cases q1;have hvl:=q5.length;have hcs:c.size=vs.length+rest.length:=by have:=congrArg List.length q4;simpa using this
 have hn' :n' =c.size:=by simp only[World.shape?,q3,Zss,Prod.mk.injEq] at g3;exact g3.2.symm
 have hend:=g5 trivial;have hadd:(len+(m+1))*e' =len*e' +(m+1)*e' :=by rw[Zrb]
 have S1:Sim B F (hset H f sl .dead) E:=S.kill hg (fun n h=>by cases h);have hlen1:(hset H f sl .dead).length=H.length:=Zy _ _ _ _;have hn1:Qd (hset H f sl .dead) 0 nm=none:=by rw[Xq _ _ _ _ (Yt hg),if_neg (fun e=>hne ⟨e.1.symm,e.2.symm⟩)];exact hnn
 by_cases hfit:len+(m+1)<=c'
 .
  have hle:(len+(m+1))*e' <=c' *e' :=Zqk _ hfit;have hnl:0+len*e' +news.length<=c.size:=by rw[hl];omega
  have hrun:=Qcg (ty:=ty) ht ht2 hu hn hb hs hfit q3 hnl (Qbk hrel hsc);have hsp:splice c.toList (0+len*e') news=(vs++news)++rest.drop news.length:=by
   have e1:vs.length=len*e' :=by omega
   unfold splice;rw[q4,Zpw,<-e1,Zrx,Zry,Zrz (by omega)]
   . simp
   . rfl
  have hlen2:((vs++news)++rest.drop news.length).length=c.size:=by simp only[Zqp,List.length_drop];omega
  obtain⟨X,S2⟩:=S1.adoptCells (f0:=0) (s0:=nm) (by rw[hlen1];exact hlt) hn1 q3 q2 q6 (fun f' s' o' ho' hb' =>by
   rcases Qtx hlt hg f' s' o' ho' with⟨_,_,rfl⟩|⟨h1,h2⟩
   . cases hb'
   . exact h1 (S.inj f' s' o' f sl _ b h2 hg hb' hmu)) (q5.append hrel) (by simp only[Zr0,q7,hsc,Zqq]) hlen2
  rw[hlen1] at X;refine⟨_,.slice (some ⟨b,0,none⟩) (len+(m+1)) c',X,S2,?_,?_⟩
  . simp only[Rel];exact⟨b,c',T',n',Ql _ _ _ _,rfl,hfit,(fun k hk=>by cases hk),X.shape _ _ _ g3,g4,fun _=>hend⟩
  . rw[hrun];simp only[Env.setRow];rw[hsp]
 . have hxs:(xs.drop 0).take (len*e')=xs:=by rw[Zr1,<-hxl,Zr2]
   obtain⟨_,_,vs',he,_,k3,k4,k5⟩:=Y0 (P:=P) (esz:=e') (n:=len) (cs:=xs) S (by
    have:0+len*e' <=xs.length:=by omega
    simp only[Qj,hg,true_and,this,if_true,hxs]) rs'
   have hold:∀w' :World,w'.heap=E.w.heap->(Builtin.firstCells e' len (.slice (some ⟨b,0,none⟩) len c')).run P w' = .ok ⟨vs'⟩ w' :=by intro w' hw;have:=k5 w' len hw (Zpp _);rw[<-k4,Zr2] at this;exact this
   obtain⟨newCap,hcap,hrun⟩:=Xp (ty:=ty) ht ht2 hu hn hb hz rfl hs hold (by omega) hr;have hrl:=hzl2 (newCap-(len+(m+1)));have htot:newCap*e' =(len+(m+1))*e' +(newCap-(len+(m+1)))*e' :=by rw[<-Zrb];congr 1;omega
   obtain⟨X,S2⟩:=S1.newCells (f0:=0) (s0:=nm) (by rw[hlen1];exact hlt) hn1 (xs++new) (vs' ++news) (zerosN zv.cells.toList (newCap-(len+(m+1)))) e (E.w.drawn+1) (k3.append hrel) (by simp only[Zr0,q7,hsc,Zqq]);rw[hlen1] at X;refine⟨_,.slice (some ⟨E.w.heap.size,0,none⟩) (len+(m+1)) newCap,X,S2,?_,hrun⟩;have htl:(vs' ++news++zerosN zv.cells.toList (newCap-(len+(m+1)))).length=newCap*e' :=by simp only[Zqp,hrl,k4,hl];omega
   simp only[Rel];refine⟨E.w.heap.size,newCap,e,newCap*e',Ql _ _ _ _,rfl,hcap,(fun k hk=>by cases hk),?_,?_,?_⟩
   . have:=Yq E (.cells ⟨vs' ++news++zerosN zv.cells.toList (newCap-(len+(m+1)))⟩ e) (E.w.drawn+1);simp only[Env.newCells,World.shape?,this];simpa using htl
   . omega
   . intro _;omega
end Go.AM.BM
namespace Go.AM.BM
def Jz(E:Env):Ex->Exit->Prop
 | .normal,e=>e= .normal
 | .exit i,e=>e= .exit i
 | .ret,e=>e= .ret
 | .panic v,e=>∃c,e= .panic [{v:=c,recovered:=false}]/\Rel E v c
def Q4d(E:Env):Rt->Ending->Prop
 | .ret v,e=>∃c,e= .returned c/\Rel E v c
 | .pan v,e=>∃c,e= .panicked [{v:=c,recovered:=false}]/\Rel E v c
def Invokes(P:Program)(f:FuncId)(args:Array Value)(w:World)(R:Ending->World->Prop):Prop:=
 (∃v w',(callFunc f args).run P w= .ok (.value v) w' /\R (.returned v) w')\/(∃j,(callFunc f args).run P w= .ok (.enter j args) w/\Calls P j args w R)
def Answer(B:Nat)(F:Nat->Nat->Prop)(H:Heap)(E:Env)(r:Rt)(H' :Heap)(e:Ending)(w' :World):Prop:=
 ∃E',E'.w=w' /\Q4d E' r e/\Sim B F H' E' /\Ext 1 B E E' /\H'.length=1
abbrev G(ro:Option Nat):Fence:={Fence.wide with round:=ro}
def Jc(P:Program)(C:Call):Prop:=
 (∀(f:FuncId) args H r H',C (some f) args H=some (r,H')->(∃(F:Func) (c:Code),P.funcs[f]?=some F/\F.body=some c)/\
   ∀B F E cargs,Sim B F H E->H.length=1->E.tab=Qn P->Qe E args cargs->Calls P f ⟨cargs⟩ E.w (Answer B F H E r H'))/\
 (∀fo so rest H r H',C none (.yield fo so::rest) H=some (r,H')->∀B F E b cargs (n:Nat),Sim B F H E->H.length=1->E.tab=Qn P->E.mu fo so=some b->Qe E rest cargs->
   ∃rec:Loop,E.w.heap[b]?=some (.loop rec)/\cargs.length=rec.params.size/\
    RoundIn Fence.wide n P b rec.fn ((rec.params.zip (⟨cargs⟩:Array Value)).foldl (fun tmps (t,a)=>tmps.setIfInBounds t a) rec.tmps) rec.assign rec.body E.w (Answer B F H E r H'))/\
 (∀(f:FuncId) args H r H',Qmq P f=true->C (some f) args H=some (r,H')->∀B F E cargs (n:Nat) (u:FrameMode),Sim B F H E->H.length=1->E.tab=Qn P->Qe E args cargs->
   CallsDIn Fence.wide n P f ⟨cargs⟩ u E.w fun e u' w' =>u' =u/\Answer B F H E r H' e w')
def flatC:Code->Bool
 | .seq a b| .cond _ a b=>flatC a&&flatC b
 | .block _ b| .loop b| .scope b=>flatC b
 | .rangeFunc _ _ a b=>(Q2 a).isEmpty&&(Q2 b).isEmpty
 |_=>true
def drawsC:Code->Bool
 | .region _ ops draw=>!draw||Qbp ops
 | .seq a b| .cond _ a b| .rangeFunc _ _ a b=>drawsC a&&drawsC b
 | .block _ b| .loop b| .scope b=>drawsC b
 |_=>true
abbrev MD:=List Deferred×Bool
def Bu(N:Nat)(D:MD)(w:World)(ds:List Deferred):Prop:=
 ∃rs:List Nat,ds=rs.map (fun r=>({target:= .collected r,args:= #[]}:Deferred))++D.1/\rs.Nodup/\(∀r∈rs,N<=r/\w.heap[r]?=some (Obj.deferred (some [])))/\(D.2=true->rs=[])
theorem Bu.nil{N:Nat}{D:MD}{w:World}:Bu N D w D.1:=⟨[],rfl,List.nodup_nil,(fun _ h=>by cases h),fun _=>rfl⟩
theorem Bu.on{N k B:Nat}{E E' :Env}{ds:List Deferred}{D:MD}(h:Bu N D E.w ds)(X:Ext k B E E'):Bu N D E'.w ds:=by obtain⟨rs,h1,h2,h3,h4⟩:=h;exact⟨rs,h1,h2,(fun r hr=>⟨(h3 r hr).1,X.dfr r (h3 r hr).2⟩),h4⟩
structure St(B:Nat)(F:Nat->Nat->Prop)(N:Nat)(D:MD)(E:Env)(H:Heap)(t:List V)(a:Act):Prop where
 sim:Sim B F H E
 one:H.length=1
 rel:Qe E t a.tmps.toList
 defers:Bu N D E.w a.defers
 nsz:N<=E.w.heap.size
def Yd(B:Nat)(F:Nat->Nat->Prop)(N:Nat)(D:MD)(E0:Env)(ex:Ex)(t' :List V)(H' :Heap):Exit->Act->World->Prop:=
 fun e a' w' =>∃E',E'.w=w' /\Ext 1 B E0 E' /\St B F N D E' H' t' a' /\Jz E' ex e
theorem St.lt{B:Nat}{F:Nat->Nat->Prop}{N:Nat}{D:MD}{E:Env}{H:Heap}{t:List V}{a:Act}(s:St B F N D E H t a):0<H.length:=by rw[s.one];exact Nat.one_pos
def Q90(P:Program)(b:Code)(g:List V->Heap->Option (List V×Heap)):Prop:=
 ∀(ro:Option Nat) (dp B:Nat) (F:Nat->Nat->Prop) (N:Nat) (D:MD) (E0 E:Env) (t t' :List V) (H H' :Heap) (a:Act),g t H=some (t',H')->Ext 1 B E0 E->E0.tab=Qn P->St B F N D E H t a->(Code.loop b).wpIn (G ro) dp P (Yd B F N D E0 .normal t' H') a E.w
def Qbo(P:Program)(pol:Pol)(fn:FuncId):Code->Prop
 | .seq a b| .cond _ a b| .rangeFunc _ _ a b=>Qbo P pol fn a/\Qbo P pol fn b
 | .block _ b| .scope b=>Qbo P pol fn b
 | .loop b=>(∀g,pol.loop fn (Zn b)=some g->Q90 P b g)/\Qbo P pol fn b
 |_=>True
theorem Qzm{P:Program}{pol:Pol}{fn:FuncId}(h:∀r,pol.loop fn r=none)(c:Code):Qbo P pol fn c:=by
 induction c with
 |seq a b iha ihb|cond _ a b iha ihb|rangeFunc _ _ a b iha ihb=>exact⟨iha,ihb⟩
 |block _ b ih|scope b ih=>exact ih
 |loop b ih=>refine⟨fun g hg=>?_,ih⟩;rw[h] at hg;cases hg
 |_=>trivial
structure Okay(P:Program)(pol:Pol):Prop where
 mixed:P.follows .mixedOrders=true
 draws:∀(f:FuncId) (F:Func) (c:Code),P.funcs[f]?=some F->F.body=some c->drawsC c=true
 loops:∀(f:FuncId) (F:Func) (c:Code),P.funcs[f]?=some F->F.body=some c->(Q2 c).Nodup/\flatC c=true
 num:∀(f:FuncId) (F:Func),P.funcs[f]?=some F->F.body.isSome=true->(F.name== "runtime.NumGoroutine")=false
 prim:∀f g,pol.prim f=some g->∀B F H E fr dst args cargs v x,Sim B F H E->H.length=1->fr=0->E.tab=Qn P->Qe E args cargs->g fr dst (Qd H) args=some (v,x)->
  Invokes P f ⟨cargs⟩ E.w (Answer B F H E (.ret v) (wr H x))
 loop:∀(f:FuncId) (F:Func) (c:Code),P.funcs[f]?=some F->F.body=some c->Qbo P pol f c
 tame:Qjl pol
 prims:∀f g,pol.prims f=some g->∀B F H E nm args cargs v ws,Sim B F H E->H.length=1->E.tab=Qn P->Qe E args cargs->g nm (Qd H) args=some (v,ws)->
  Invokes P f ⟨cargs⟩ E.w (Answer B F H E (.ret v) (wrL H ws))
section
variable {P : Program} {pol : Pol} {C : Call} {B : Nat} {F : Nat -> Nat -> Prop} {fn N : Nat} {D : MD} {ro : Option Nat} {dp : Nat}
theorem Okay.invokes(ok:Okay P pol){f:FuncId}{args:Array Value}{w:World}{R:Ending->World->Prop}(hf:∃(F:Func) (c:Code),P.funcs[f]?=some F/\F.body=some c)(h:Calls P f args w R):Invokes P f args w R:=by obtain⟨Fn,c,h1,h2⟩:=hf;refine .inr ⟨f,?_,h⟩;have:=ok.num f Fn h1 (by rw[h2];rfl);simp only[callFunc,Zsu,run_program,Zst,h1,this,Zpo,if_false,h2,Option.isNone_some,Zsv]
theorem Qgc(ok:Okay P pol)(cs:Jc P C){nm:Nat}{f:FuncId}{args:List V}{H H' :Heap}{r:Rt}{E:Env}{cargs:List Value}
 (h:callOp pol C nm f args H=some (r,H'))(S:Sim B F H E)(one:H.length=1)(htab:E.tab=Qn P)(hr:Qe E args cargs):Invokes P f ⟨cargs⟩ E.w (Answer B F H E r H'):=by
 unfold callOp at h;split at h
 . rename_i g hg;cases hq:g nm (Qd H) args with
   |none=>rw[hq] at h;cases h
   |some x=>rw[hq] at h;cases h;exact ok.prims f g hg B F H E nm args cargs x.1 x.2 S one htab hr hq
 split at h
 . rename_i g hg;cases hq:g 0 (some nm) (Qd H) args with
   |none=>rw[hq] at h;cases h
   |some x=>rw[hq] at h;cases h;exact ok.prim f g hg B F H E 0 (some nm) args cargs x.1 x.2 S one rfl htab hr hq
 . split at h
   case h_2=>cases h
   rename_i as w has;obtain⟨E0,e0,X0,S0,hr0⟩:=Qzb S has hr;have one0:(wr H w).length=1:=by rw[wr_length];exact one
   have htab0:E0.tab=Qn P:=X0.tab.trans htab;have X0' :Ext 1 B E E0:=one▸X0;have back:∀r H' e w',Answer B F (wr H w) E0 r H' e w' ->Answer B F H E r H' e w' :=by rintro r H' e w' ⟨E1,h1,h2,h3,h4,h5⟩;exact⟨E1,h1,h2,h3,X0'.trans h4,h5⟩
   rw[<-e0];cases hfix:pol.fix f with
   |false=>
    rw[hfix] at h;simp only[Qy2] at h;obtain⟨hbody,hall⟩:=cs.1 f as (wr H w) r H' h;exact ok.invokes hbody ((hall B F E0 cargs S0 one0 htab0 hr0).mono fun e w' =>back r H' e w')
   |true=>
    rw[hfix] at h;simp only[Qy2] at h;split at h
    . rename_i v H1 hC;split at h
      case h_2=>cases h
      rename_i v' w2 hv;cases h;obtain⟨hbody,hall⟩:=cs.1 f as (wr H w) _ H1 hC;refine ok.invokes hbody ((hall B F E0 cargs S0 one0 htab0 hr0).mono ?_);rintro e w' ⟨E1,rfl,⟨c,rfl,hcv⟩,S1,X1,hl⟩;obtain⟨E2,e2,X2,S2,h2⟩:=Q09 S1 hv hcv;rw[hl] at X2;exact⟨E2,e2,⟨c,rfl,h2⟩,S2,X0'.trans (X1.trans X2),by rw[wr_length];exact hl⟩
    . rename_i hno;obtain⟨hbody,hall⟩:=cs.1 f as (wr H w) r H' h;exact ok.invokes hbody ((hall B F E0 cargs S0 one0 htab0 hr0).mono fun e w' =>back r H' e w')
theorem Q2b{E:Env}{H:Heap}(S:Sim B F H E){t:TypeId}{x l h v:V}{ws:List (Nat×Nat×O)}{cx cl ch:Value}(e:Qsd P (Qd H) t x l h=some (v,ws))(rx:Rel E x cx)(rl:Rel E l cl)(rh:Rel E h ch):
 ws=[]/\∃cv,Rel E v cv/\(Instr.sliceAt t cx (some cl) (some ch) none).run P E.w= .ok cv E.w:=by
 unfold Qsd at e;split at e<;>try (cases e;done)
 rename_i _ _ _ _ el f s o len e' kl il kh ih hu;split at e<;>try (cases e;done)
 rename_i n xs hn hg;split at e<;>try (cases e;done)
 rename_i hc;obtain⟨rfl,h1,h2,h3,h4,h5⟩:=hc;cases e;simp only[Rel] at rx rl rh;subst rl;subst rh;obtain⟨b,c',T',n',hmu,rfl,g1,g2,g3,g4,g5⟩:=rx;obtain⟨b2,c,T,vs,rest,q1,q2,q3,q4,q5,q6,q7,q8⟩:=S.lies hg;rw[hmu] at q1;cases q1;have hvl:=q5.length;have hcs:c.size=vs.length+rest.length:=by have:=congrArg List.length q4;simpa using this
 have hn' :n' =c.size:=by simp only[World.shape?,q3,Zss,Prod.mk.injEq] at g3;exact g3.2.symm
 have hend:=g5 trivial;obtain⟨a,rfl⟩:∃a:Nat,il=(a:Int):=⟨il.toNat,by omega⟩;obtain⟨d,rfl⟩:∃d:Nat,ih=(d:Int):=⟨ih.toNat,by omega⟩;simp only[Int.toNat_natCast] at h4⊢;have hdc:d<=c' :=by
  rcases Zpm c' d with hlt|hge
  . have:(c' +1)*e' <=d*e' :=Zqk _ hlt;rw[Zrb,Nat.one_mul] at this;omega
  . exact hge
 have hcut:Qat len c' (some (a:Int)) (some (d:Int)) none=some (a,d,c'):=by
  unfold Qat
  rw[if_pos]
  . simp
  . refine⟨?_,?_,?_,?_,?_,?_,?_⟩<;>simp<;>omega
 refine⟨trivial,_,?_,Xn E.w hu hn hcut (.inr ⟨_,_,rfl,rfl⟩) (.inr ⟨_,_,rfl,rfl⟩) (.inl ⟨rfl,rfl⟩)⟩;have hne:¬c' =a:=by omega
 rw[if_neg hne];simp only[Rel,Zpl,Ys];have hsub:((d:Int)-(a:Int)).toNat=d-a:=by omega
 have e1:(c' -a)*e' +a*e' =c' *e' :=by rw[<-Zrb];congr 1;omega
 refine⟨b,c' -a,T',n',hmu,by rw[hsub],by omega,(fun k hk=>by cases hk),g3,by omega,fun _=>by omega⟩
theorem Qve{E:Env}{H:Heap}(S:Sim B F H E)(hlt:0<H.length){ρ:Operand->V}{ρc:Operand->Value}(hρ:∀x,Rel E (ρ x) (ρc x)){nm:Nat}{o:Oper}{v:V}{ws:List (Nat×Nat×O)}
 (h:J4 P (Qd H) ρ nm o.op=some (v,ws)):(∀c,o.op≠ .defer c)/\∃E' cv,Ext H.length B E E' /\Sim B F (wrL H ws) E' /\Rel E' v cv/\(execOp ρc o).run P E.w= .ok (.value cv) E'.w:=by
 unfold J4 at h;split at h<;>try (cases h;done)
 . rename_i t x lo hi hop;refine⟨fun d e=>(by rw[hop] at e;cases e),?_⟩;obtain⟨rfl,cv,hr,hrun⟩:=Q2b S h (hρ x) (hρ lo) (hρ hi);refine⟨E,cv,Ext.refl _ _ _,S,hr,?_⟩;unfold execOp;simp only[hop,Zpl,Zq9,Zsu,hrun,Zst,Zsv]
 rename_i c hop;refine⟨fun d e=>(by rw[hop] at e;cases e),?_⟩;have harr:c.args.map ρc=⟨c.args.toList.map ρc⟩:=by apply Array.ext';simp
 split at h<;>try (cases h;done)
 . rename_i s x t t2 ts hc ha ht;have h0:c.argTypes[0]?=some t:=by rw[<-Zra,ht];rfl
   have h1:c.argTypes[1]?=some t2:=by rw[<-Zra,ht];rfl
   obtain⟨E',cv,X,S',hr,hrun⟩:=Qxm S hlt o.type h0 h1 h (hρ s) (hρ x);refine⟨E',cv,X,S',hr,?_⟩;have e:(execOp ρc o).run P E.w=((do pure (Next.value (<-Builtin.append_ c.argTypes o.type #[ρc s,ρc x])):Sem Next)).run P E.w:=by unfold execOp;simp only[hop,resolve,hc,Zsu,Zsv,Zst,invoke];rw[harr,ha];show((do pure (Next.value (<-Builtin.append_ c.argTypes o.type #[ρc s,ρc x])):Sem Next)).run P E.w=_;simp only[Zsu,Zsv]
   rw[e];simp only[Zsu,hrun,Zst,Zsv]
theorem St.ρ{E:Env}{H:Heap}{t:List V}{a:Act}(s:St B F N D E H t a)(x:Operand):Rel E (rho t x) (a.eval x):=by
 cases x with
 |tmp i=>
  simp only[rho,Act.eval];cases hx:t[i]? with
  |none=>simp[List.getD,hx,Rel]
  |some x=>
   obtain⟨v,hv,hr⟩:=s.rel.get hx;have:a.tmps[i]?=some v:=by simpa using hv
   simpa [List.getD,hx,Zro,this] using hr
 |const v=>exact Kg E v
 |global g=>simp[rho,Rel]
 |func f=>simp only[rho,Act.eval,Rel];exact⟨[],[],rfl,.nil,.nil⟩
theorem St.put{E:Env}{H:Heap}{t:List V}{a:Act}(s:St B F N D E H t a)(dst:Option Nat){v:V}{c:Value}(h:Rel E v c):St B F N D E H (Qs t dst v) (a.put dst c):=by
 cases dst with
 |none=>exact s
 |some d=>
  refine⟨s.sim,s.one,?_,s.defers,s.nsz⟩;simp only[Qs,Act.put];have:=s.rel.set d h;simpa using this
theorem St.on{E E' :Env}{H H' :Heap}{t:List V}{a:Act}(s:St B F N D E H t a)(X:Ext 1 B E E')(S' :Sim B F H' E')(hl:H'.length=1):St B F N D E' H' t a:=
 ⟨S',hl,Qe.mono X (fun f i q=>s.one▸s.sim.lt f i q) _ _ s.rel,s.defers.on X,Zpq s.nsz X.size⟩
theorem Yx{fr:Nat}{mt:Nat->Bool}{g:Get}{r:Operand->V}{o:Oper}{st:Zg}(h:Zm P mt fr g r o=some st):∀c,o.op≠ .defer c:=by intro c e;simp only[Zm,e] at h;cases h
theorem Qac{o:Oper}{a:Act}{w:World}{next:Act->World->Prop}{Q:Exit->Act->World->Prop}(hd:∀c,o.op≠ .defer c)(h:o.uponIn (G ro) dp P a next Q ((execOp a.eval o).run P w)):o.wpIn (G ro) dp P a w next Q:=
 ⟨fun _ _=>trivial,by rw[Oper.semAt_eq _ _ _ hd];exact h⟩
theorem Qdh{n:Nat}:(G ro).depth.isSome=true->1<=n:=fun h=>by cases h
theorem Xg(ok:Okay P pol)(cs:Jc P C){nm:Nat}{t t' :List V}{H H' :Heap}{o:Oper}{ex:Ex}{E0 E:Env}{a:Act}(h:Q1 P pol C nm t H o=some (ex,t',H'))
 (X0:Ext 1 B E0 E)(htab:E0.tab=Qn P)(s:St B F N D E H t a){next:Act->World->Prop}{Q:Exit->Act->World->Prop}
 (hn:ex= .normal->∀a' E',Ext 1 B E0 E' ->St B F N D E' H' t' a' ->next a' E'.w)
 (hq:ex≠ .normal->∀e a' w',Yd B F N D E0 ex t' H' e a' w' ->Q e a' w'):o.wpIn (G ro) dp P a E.w next Q:=by
 have htab1:E.tab=Qn P:=X0.tab.trans htab;unfold Q1 at h;split at h
 . rename_i hev;split at h
   case h_2=>cases h
   rename_i v ws hm;cases h;obtain⟨hnd,E',cv,X,S',hr,hrun⟩:=Qve s.sim s.lt (ρc:=a.eval) s.ρ hm;have X1:Ext 1 B E E' :=X.less s.lt (Zpp _);refine Qac hnd ?_;rw[hrun];exact hn rfl _ _ (X0.trans X1) ((s.on X1 S' (by rw[Qq0];exact s.one)).put o.dst hr)
 . rename_i v w hev;cases h;have:=Bf s.sim s.lt (ρc:=a.eval) s.ρ hev;obtain⟨E',cv,X,S',hr,hrun⟩:=this;have X1:Ext 1 B E E' :=X.less s.lt (Zpp _);have s' :=(s.on X1 S' (by rw[wr_length];exact s.one)).put o.dst hr;have X' :=X0.trans X1;refine Qac (Yx (o:=atN o nm) hev) ?_;have hrun2:(execOp a.eval o).run P E.w= .ok (.value cv) E'.w\/((execOp a.eval o).run P E.w= .ok .skip E'.w/\cv=undef):=hrun;clear hrun;rcases hrun2 with hrun|⟨hrun,rfl⟩
   . rw[hrun];exact hn rfl _ _ X' s'
   . rw[hrun];exact hn rfl _ _ X' s'
 . rename_i v hev;cases h;obtain⟨cv,hr,hrun⟩:=Bf s.sim s.lt (ρc:=a.eval) s.ρ hev;refine Qac (Yx (o:=atN o nm) hev) ?_;have hrun:(execOp a.eval o).run P E.w= .halt (.panic cv) E.w:=hrun;rw[hrun];exact hq (fun e=>by cases e) _ _ _ ⟨E,rfl,X0,s,cv,rfl,hr⟩
 . rename_i f args hev;obtain⟨cargs,hr,hrun⟩:=Bf s.sim s.lt (ρc:=a.eval) s.ρ hev;have hrun:(execOp a.eval o).run P E.w=(callFunc f ⟨cargs⟩).run P E.w:=hrun;have main:∀r,callOp pol C (Q5 H) f args H=some (r,H')->(∀e w',Answer B F H E r H' e w' ->(match e with
    | .returned v=>next (a.put o.dst v) w'
    | .panicked chain=>Q (.panic chain) a w'
    | .outgrown=>False))->o.wpIn (G ro) dp P a E.w next Q:=by
    intro r hc hall;refine Qac (Yx (o:=atN o nm) hev) ?_;rw[hrun];rcases Qgc ok cs hc s.sim s.one htab1 hr with⟨v,w',h1,h2⟩|⟨j,h1,h2⟩
    . rw[h1];exact hall _ _ h2
    . rw[h1];refine⟨Qdh,(callsIn_wide (n:=dp-1)).2 ?_⟩;refine h2.mono ?_;intro e w' hA;have:=hall e w' hA;cases e with
      |returned v=>exact this
      |panicked chain=>exact this
      |outgrown=>exact this.elim
   split at h
   . rename_i v H1 hc;cases h;refine main _ hc ?_;rintro e w' ⟨E',rfl,⟨c,rfl,hcr⟩,S',X,hl⟩;exact hn rfl _ _ (X0.trans X) ((s.on X S' hl).put o.dst hcr)
   . rename_i v H1 hc;cases h;refine main _ hc ?_;rintro e w' ⟨E',rfl,⟨c,rfl,hcr⟩,S',X,hl⟩;exact hq (fun e=>by cases e) _ _ _ ⟨E',rfl,X0.trans X,s.on X S' hl,c,rfl,hcr⟩
   . cases h
 . rename_i fo so args hev;obtain⟨b,cargs,hb,hr,hrun⟩:=Bf s.sim s.lt (ρc:=a.eval) s.ρ hev;split at h
   case h_2=>cases h
   rename_i v H1 hc;cases h;obtain⟨rec,h1,h2,h3⟩:=cs.2.1 fo so args H _ _ hc B F E b cargs (dp-1) s.sim s.one htab1 hb hr;refine Qac (Yx (o:=atN o nm) hev) ?_;have hrun:(execOp a.eval o).run P E.w=(Instr.yield b ⟨cargs⟩).run P E.w:=hrun;rw[hrun,run_yield h1 (by simpa using h2)];refine⟨Qdh,RoundIn.mono (F:=G ro) h3 ?_⟩;rintro e w' ⟨E',rfl,⟨c,rfl,hcr⟩,S',X,hl⟩;exact hn rfl _ _ (X0.trans X) ((s.on X S' hl).put o.dst hcr)
theorem Jt{E:Env}{H:Heap}{t:List V}{a:Act}(s:St B F N D E H t a){ops:Array Oper}{o:Oper}{b:Bool}(h:Zw ops t o=some b):
 Region.wanted o (yielded ops a.tmps)=b:=by
 unfold Zw at h;unfold Region.wanted;split at h
 . rename_i hg;cases h;simp[hg]
 . rename_i j want hg;simp only[hg];split at h
   . rename_i c hb;cases h;unfold yielded;cases hd:(ops[j]?).bind (·.dst) with
     |none=>rw[hd] at hb;simp at hb
     |some d=>
      rw[hd] at hb;simp only[Zqc] at hb⊢;obtain⟨v,hv,hr⟩:=s.rel.get hb;simp only[Rel] at hr;subst hr;have:a.tmps[d]?=some (.bool c):=by simpa using hv
      rw[this];cases c<;>cases want<;>rfl
   . rename_i hb;cases h;unfold yielded;cases hd:(ops[j]?).bind (·.dst) with
     |none=>rw[hd] at hb;simp at hb
     |some d=>
      rw[hd] at hb;simp only[Zqc] at hb⊢;obtain⟨v,hv,hr⟩:=s.rel.get hb;simp only[Rel] at hr;obtain⟨vs,rfl,hl⟩:=hr;have:a.tmps[d]?=some (.tuple ⟨vs⟩):=by simpa using hv
      rw[this];cases want<;>rfl
   . cases h
theorem Yv(ok:Okay P pol)(cs:Jc P C){ops:Array Oper}{E0:Env}:∀(l pre:List Oper) (t:List V) (H:Heap) (ex:Ex) (t' :List V) (H' :Heap) (E:Env) (a:Act),
 ops.toList=pre++l->Zf P pol C ops l t H=some (ex,t',H')->Ext 1 B E0 E->E0.tab=Qn P->St B F N D E H t a->
 wpOpsIn (G ro) dp P ops (Yd B F N D E0 ex t' H') (List.range' pre.length l.length) a E.w
 |[],pre,t,H,ex,t',H',E,a,_,h,X0,htab,s=>by
  cases h;exact⟨E,rfl,X0,s,rfl⟩
 |o::l,pre,t,H,ex,t',H',E,a,he,h,X0,htab,s=>by
  have ho:ops[pre.length]?=some o:=by
   have:ops.toList[pre.length]?=some o:=by rw[he];simp
   simpa using this
  have he' :ops.toList=(pre++[o])++l:=by rw[he];simp
  simp only[Zq2,Zq3,wpOpsIn,ho];simp only[Zf] at h;split at h
  . cases h
  . rename_i hw;have:=Jt s hw;rw[if_neg (by rw[this];decide)];refine⟨fun _ _=>trivial,?_⟩;have ih:=Yv ok cs l (pre++[o]) _ _ _ _ _ E _ he' h X0 htab (s.put o.dst (v:=nov) (c:=undef) (by simp[Rel,Qe,undef]));simpa using ih
  . rename_i hw;have:=Jt s hw;rw[if_pos this];split at h
    . rename_i t1 H1 hop;refine Xg ok cs hop X0 htab s ?_ (fun hne=>absurd rfl hne);intro _ a' E' X' s';have ih:=Yv ok cs l (pre++[o]) _ _ _ _ _ E' a' he' h X' htab s';simpa using ih
    . rename_i x hne;refine Xg ok cs h X0 htab s ?_ (fun _ e a' w' hx=>hx);intro hex;subst hex;exact absurd h (by
       intro h'
       exact hne _ _ (by exact h'))
theorem Qaf(ok:Okay P pol)(cs:Jc P C){ops:Array Oper}{base lim:Nat}{T:List FP}{E0:Env}:∀(l:List Nat) (t:List V) (H:Heap) (t' :List V) (H' :Heap) (E:Env) (a:Act),
 Bi P pol C ops base lim T l t H=some (t',H')->Ext 1 B E0 E->E0.tab=Qn P->St B F N D E H t a->wpOpsIn (G ro) dp P ops (Yd B F N D E0 .normal t' H') l a E.w
 |[],t,H,t',H',E,a,h,X0,htab,s=>by
  cases h;exact⟨E,rfl,X0,s,rfl⟩
 |i::l,t,H,t',H',E,a,h,X0,htab,s=>by
  simp only[Bi] at h;split at h
  case h_2=>cases h
  rename_i t1 H1 hst;unfold Jm at hst;split at hst
  . cases hst
  rename_i o ho;simp only[wpOpsIn,ho];split at hst
  . cases hst
  . rename_i hw;have:=Jt s hw;rw[if_neg (by rw[this];decide)];refine⟨fun _ _=>trivial,?_⟩;split at hst
    . cases hst;exact Qaf ok cs l _ _ _ _ E _ h X0 htab (s.put o.dst (v:=nov) (c:=undef) (by simp[Rel,Qe,undef]))
    . cases hst
  . rename_i hw;have:=Jt s hw;rw[if_pos this];split at hst
    case h_2=>cases hst
    rename_i t2 H2 hop;split at hst
    case isFalse=>cases hst
    cases hst;refine Xg ok cs hop X0 htab s ?_ (fun hne=>absurd rfl hne);intro _ a' E' X' s';exact Qaf ok cs l _ _ _ _ E' a' h X' htab s'
theorem St.drawn{E:Env}{H:Heap}{t:List V}{a:Act}(s:St B F N D E H t a):∃E',E'.w={E.w with drawn:=E.w.drawn+1}/\Ext 1 B E E' /\St B F N D E' H t a:=by
 have X1:Ext H.length E.w.heap.size (AM.bare E.tab E.w E.mod) {AM.bare E.tab E.w E.mod with w:={E.w with drawn:=E.w.drawn+1}}:=
  ⟨Zpp _,fun _ _ _ h=>h,fun _ _ _ _ h=>h,fun _ _ _ _ h=>h,fun _ _ _ _ h=>h,fun f s n b lo hi _ _ h=>⟨n,b,lo,hi,h,.inr ⟨rfl,rfl,rfl,rfl⟩⟩,fun _ _=>rfl,⟨rfl,rfl,rfl⟩,rfl,fun _ h=>h⟩
 obtain⟨X,S⟩:=s.sim.behind X1;exact⟨_,rfl,X.less s.lt (Zpp _),s.on (X.less s.lt (Zpp _)) S s.one⟩
theorem St.spent{E:Env}{H:Heap}{t:List V}{a:Act}(s:St B F N D E H t a)(n:Nat)(hg:Qd H 0 n=none):∃E',E'.w=E.w/\Ext 1 B E E' /\St B F N D E' (hset H 0 n .dead) t a:=by obtain⟨X,S⟩:=s.sim.spend s.lt hg;exact⟨{E with mu:=upd E.mu 0 n (some 0)},rfl,X.less s.lt (Zpp _),s.on (X.less s.lt (Zpp _)) S (by rw[Zy];exact s.one)⟩
theorem Qkd(ok:Okay P pol)(cs:Jc P C){ops:Array Oper}{id:Nat}{E0 E:Env}{t t' :List V}{H H' :Heap}{T:List FP}{a:Act}(hd:Qbp ops=true)
 (hC:Xm C)(hfree:Qd H 0 (Q5 H+ops.size)=none)(h:Q4 P pol C ops (Q5 H+ops.size) (Q5 H) ops.toList t (hset H 0 (Q5 H+ops.size) .dead)=some (t',H',T))(hok:okT (Region.before ops) (loud T)=true)(X:Ext 1 B E0 E)(htab:E0.tab=Qn P)(s:St B F N D E H t a):
 (Code.region id ops true).wpIn (G ro) dp P (Yd B F N D E0 .normal t' H') a E.w:=by
 refine wpIn_region_draw fun tp=>?_;obtain⟨E',hw,X',s'⟩:=s.drawn;obtain⟨E2,hw2,X2,s2⟩:=s'.spent (Q5 H+ops.size) hfree;obtain⟨h1,h2⟩:=Qa2 (ops:=ops) (base:=Q5 H) ops.toList [] [] t _ t' H' T (by simp) rfl (by simpa using h);have h3:=Qc6 hC ok.tame (Zpp _) hd (by simpa using h1) hok (by simpa [Zrn] using h2) ok.mixed tp;rw[<-hw,<-hw2];exact Qaf ok cs _ _ _ _ _ E2 a h3 ((X.trans X').trans X2) htab s2
end
open Go.ChangeMaps (setBlock)
section
variable {P : Program} {E : Env} {B : Nat} {F : Nat -> Nat -> Prop} {H : Heap} {N : Nat} {D : MD} {ro : Option Nat} {dp : Nat}
theorem Qhe(S:Sim B F H E){x:V}{c:Value}{cs:List (V×Option (Nat×Nat×O))}(h:Y3 (Qd H) x=some cs)(hr:Rel E x c)(ty:TypeId):
 ∃p∈cs,∃E' cv,Ext H.length B E E' /\Sim B F (wr H p.2) E' /\Rel E' p.1 cv/\(Instr.next c false ty).run P E.w= .ok cv E'.w:=by
 have over:Rel E (.tuple [.bool false]) (.tuple #[.bool false]):=by simp only[Rel];exact⟨[.bool false],rfl,.cons (by simp[Rel]) .nil⟩
 unfold Y3 at h;split at h
 case h_2=>cases h
 rename_i f s;simp only[Rel] at hr;obtain⟨b,hb,rfl⟩:=hr;split at h
 case h_3=>cases h
 . rename_i since seen stepped hi;cases h;obtain⟨b',mb,g1,g2,g3,g4⟩:=S.obj f s _ hi;rw[hb] at g1;cases g1;simp only at g4;subst g4;refine⟨_,Zp9.2 rfl,E,_,Ext.refl _ _ _,S.over hi,over,?_⟩;simp[Instr.next,getObj,Sem.run,g3]
 . rename_i m since seen stepped hi;split at h
   case h_2=>cases h
   rename_i es bs clk hm;split at h
   case isFalse=>cases h
   rename_i hchk;rw[Zqf,decide_eq_true_eq] at hchk;obtain⟨hall,hst⟩:=hchk;obtain⟨b',mb,g1,g2,g3,g4⟩:=S.obj f s _ hi;rw[hb] at g1;cases g1;obtain⟨r,rfl,hr⟩:=g4;obtain⟨r',ces,k1,k2,k3,k4,k5⟩:=S.obj m.1 m.2 _ hm;rw[hr] at k1;cases k1;subst k5;have hold:∀x∈ces.toList,x.born<since:=by intro x hx;have:=Zqt.1 hall x.born (Zp3.2 ⟨x,hx,rfl⟩);exact of_decide_eq_true this
   rcases run_next_at (P:=P) E.w ty b r since stepped ⟨seen⟩ ces clk g3 k3 hold hst with⟨h0,hrun⟩|⟨e,he,w1,hw1,hrun⟩
   . have hnil:Ki seen es (ces.toList.map (·.born))=[]:=by
      apply Classical.byContradiction;intro hne;obtain⟨ce,q1,q2⟩:=Qjk k4 hne;have:=Array.eq_empty_of_size_eq_zero h0;have hmem:ce∈(leftOf ces ⟨seen⟩):=by
       unfold leftOf;rw[Array.mem_filter];refine⟨Array.mem_toList_iff.1 q1,?_⟩;have:(⟨seen⟩:Array Nat).contains ce.born=false:=by simpa using q2
       rw[this];rfl
      rw[this] at hmem;simp at hmem
     rw[hnil] at h;cases h;exact⟨_,Zp9.2 rfl,E,_,Ext.refl _ _ _,S.over hi,over,hrun⟩
   . obtain⟨q1,q2⟩:=mem_left he;obtain⟨ae,p1,p2,p3,p4⟩:=Qgy k4 q1 (by simpa using q2);split at h
     . rename_i hnil;rw[hnil] at p1;cases p1
     . cases h;have hd:∃d,setBlock w1 b (.mapIter (some r) since ((⟨seen⟩:Array Nat).push e.born) clk)=(E.setIter b (some r) since ⟨seen++[e.born]⟩ clk d).w:=by
        have hp:(⟨seen⟩:Array Nat).push e.born=⟨seen++[e.born]⟩:=by simp
        rw[hp];rcases hw1 with rfl|rfl
        . exact⟨E.w.drawn,rfl⟩
        . exact⟨E.w.drawn+1,rfl⟩
       obtain⟨d,hd⟩:=hd;obtain⟨X,S'⟩:=S.setIter hi hb g3 g2 (m:=some m) ⟨r,rfl,hr⟩ (seen++[e.born]) clk d;refine⟨_,Zp3.2 ⟨ae,p1,rfl⟩,_,_,X,?_,?_,by rw[hrun,hd]⟩
       . simp only[wr,p4];exact S'
       . simp only[Rel];exact⟨[.bool true,e.key,e.val],rfl,.cons (by simp[Rel]) (.cons (Rel.mono X S.lt _ _ p2) (.cons (Rel.mono X S.lt _ _ p3) .nil))⟩
theorem Qwt{t:List V}{a:Act}(s:St B F N D E H t a){o:Oper}{x:Operand}(hop:o.op= .next x false){cs:List (V×Option (Nat×Nat×O))}(hc:Y3 (Qd H) (rho t x)=some cs):
 ∃p∈cs,∃E' cv,Ext 1 B E E' /\St B F N D E' (wr H p.2) (Qs t o.dst p.1) (a.put o.dst cv)/\∀(next:Act->World->Prop) (Q:Exit->Act->World->Prop),next (a.put o.dst cv) E'.w->o.wpIn (G ro) dp P a E.w next Q:=by
 obtain⟨p,hp,E',cv,X,S',hr,hrun⟩:=Qhe (P:=P) s.sim hc (s.ρ x) o.type;refine⟨p,hp,E',cv,X.less s.lt (Zpp _),(s.on (X.less s.lt (Zpp _)) S' (by rw[wr_length];exact s.one)).put o.dst hr,?_⟩;intro next Q hn
 refine Qac (fun c e=>by rw[hop] at e;cases e) ?_;have:(execOp a.eval o).run P E.w= .ok (.value cv) E'.w:=by unfold execOp;simp only[hop,Zsu,hrun,Zst,Zsv]
 rw[this];exact hn
end
end Go.AM.BM
namespace Go.AM.BM
section
variable {P : Program} {B : Nat} {F : Nat -> Nat -> Prop} {H : Heap} {E : Env} {N : Nat} {D : MD} {ro : Option Nat} {dp : Nat}
end
end Go.AM.BM
end
