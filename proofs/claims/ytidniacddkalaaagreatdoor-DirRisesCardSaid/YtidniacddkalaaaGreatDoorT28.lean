/- This file holds in one the texts Bx31, Bx32, Bx34, DZ0, Bx37, Jf; each says at its head what it proves. -/
import Derived.Test.YtidniacddkalaaaGreatDoorT27
import Derived.OwnWalk
import Derived.WalkKit
import Derived.Shelf.RegionOpenPlain
import Derived.Lib.Overlaps
import Derived.Laws.Externs
import Derived.JoinedOf
set_option linter.unusedSimpArgs false
set_option linter.unusedVariables false
section
namespace Go.AM.BM
def Q1v(esz by_:Nat):Qcj:=fun nm g args=>match args with
 |[.mS f s 0 len none e,.int .i64 i,.mS f2 s2 o2 1 _ e2]=>(match g f s,g 0 nm,g f2 s2 with
  |some (.cells xs),none,some (.cells ys)=>
   if e=esz/\e2=esz/\0<esz/\xs.length=len*esz/\0<=i/\i<=len/\o2+esz<=ys.length/\¬(f=f2/\s=s2)/\Jl (len+1) by_=true then
    some (.mS 0 nm 0 (len+1) none esz,[(f,s,.dead),(0,nm,.cells (xs.take (i.toNat*esz)++(ys.drop o2).take esz++xs.drop (i.toNat*esz)))])
   else none
  |_,_,_=>none)
 |[.nS,.int .i64 0,.mS f2 s2 o2 1 _ e2]=>(match g 0 nm,g f2 s2 with
  |none,some (.cells ys)=>if e2=esz/\0<esz/\o2+esz<=ys.length/\Jl 1 by_=true then
    some (.mS 0 nm 0 1 none esz,[(0,nm,.cells ((ys.drop o2).take esz))]) else none
  |_,_=>none)
 |_=>none
theorem Q5z(esz by_:Nat)(nm:Nat)(G G' :Get)(args:List V)(v:V)(ws:List (Nat×Nat×O))(h:GLe G G')(hn:G' 0 nm=G 0 nm)(e:Q1v esz by_ nm G args=some (v,ws)):
 Q1v esz by_ nm G' args=some (v,ws)/\∀x∈ws,(∃y,G x.1 x.2.1=some y)\/(x.1=0/\x.2.1=nm):=by
 unfold Q1v at e⊢;split at e
 . rename_i f s len q i f2 s2 o2 _ e2;split at e
   . rename_i xs ys h1 h2 h3;simp only[h _ _ _ h1,hn,h2,h _ _ _ h3];split at e
     case isFalse=>cases e
     rename_i hc;rw[if_pos hc];cases e;refine⟨rfl,fun x hx=>?_⟩;rcases Zrx.1 hx with rfl|hx
     . exact .inl ⟨_,h1⟩
     . simp only[Zr0] at hx;subst hx;exact .inr ⟨rfl,rfl⟩
   . cases e
 . rename_i f2 s2 o2 _ e2;split at e
   . rename_i ys h2 h3;simp only[hn,h2,h _ _ _ h3];split at e
     case isFalse=>cases e
     rename_i hc;rw[if_pos hc];cases e;refine⟨rfl,fun x hx=>?_⟩;simp only[Zr0] at hx;subst hx;exact .inr ⟨rfl,rfl⟩
   . cases e
 . cases e
structure Qup(P:Program)(f:FuncId)(esz by_:Nat):Prop where
 body:∃(F:Func) (c:Code),P.funcs[f]?=some F/\F.body=some c
 num:∀(F:Func),P.funcs[f]?=some F->(F.name== "runtime.NumGoroutine")=false
 room:∀(w:World) (b len c i:Nat) (cur:Array Value) (T:TypeId) (vs rest:List Value) (b2 o2 c2:Nat) (cur2:Array Value) (T2:TypeId) (us rest2:List Value),
  w.heap[b]?=some (.cells cur T (0,0))->cur.toList=vs++rest->vs.length=len*esz->w.heap[b2]?=some (.cells cur2 T2 (0,0))->cur2.toList=us++rest2->o2+esz<=us.length->b≠b2->i<=len->len+1<=c->c*esz<=cur.size->
  (∀v∈vs,v.oneCell' =true)->(∀v∈us,v.oneCell' =true)->Jl (len+1) by_=true->
  Calls P f #[.slice (some ⟨b,0,none⟩) len c,.int .i64 i,.slice (some ⟨b2,o2,none⟩) 1 c2] w fun r w' =>r= .returned (.slice (some ⟨b,0,none⟩) (len+1) c)/\
   ∃d,w' ={w.setRow b ⟨(vs.take (i*esz)++(us.drop o2).take esz++vs.drop (i*esz))++rest.drop esz⟩ with drawn:=d}
 grow:∀(w:World) (base:Option Addr) (len c i:Nat) (vs:List Value) (b2 o2 c2:Nat) (cur2:Array Value) (T2:TypeId) (us rest2:List Value),
  (base=none->len=0/\c=0)->(∀a,base=some a->a.off=0/\a.spot=none/\Qeq w a.block 0 vs)->vs.length=len*esz->w.heap[b2]?=some (.cells cur2 T2 (0,0))->cur2.toList=us++rest2->o2+esz<=us.length->i<=len->c=len->
  (∀v∈vs,v.oneCell' =true)->(∀v∈us,v.oneCell' =true)->Jl (len+1) by_=true->
  Calls P f #[.slice base len c,.int .i64 i,.slice (some ⟨b2,o2,none⟩) 1 c2] w fun r w' =>
   ∃newCap d T rest',len+1<=newCap/\rest'.length=(newCap-(len+1))*esz/\r= .returned (.slice (some ⟨w.heap.size,0,none⟩) (len+1) newCap)/\
    w' ={w with heap:=w.heap.push (.cells ⟨(vs.take (i*esz)++(us.drop o2).take esz++vs.drop (i*esz))++rest'⟩ T),drawn:=d}
section
variable {P : Program}
theorem Qi1{f:FuncId}{args:Array Value}{w:World}{R:Ending->World->Prop}(hf:∃(F:Func) (c:Code),P.funcs[f]?=some F/\F.body=some c)(hn:∀(F:Func),P.funcs[f]?=some F->(F.name== "runtime.NumGoroutine")=false)(h:Calls P f args w R):Invokes P f args w R:=by obtain⟨Fn,c,h1,h2⟩:=hf;refine .inr ⟨f,?_,h⟩;have:=hn Fn h1;simp only[callFunc,Sem.run_bind,run_program,Result.andThen_ok,h1,this,Bool.false_eq_true,if_false,h2,Option.isNone_some,Sem.run_pure]
theorem Q62{B:Nat}{F:Nat->Nat->Prop}{H:Heap}{E:Env}(S:Sim B F H E)(d:Nat):Ext H.length B E {E with w:={E.w with drawn:=d}}/\Sim B F H {E with w:={E.w with drawn:=d}}:=by
 have X1:Ext H.length E.w.heap.size (AM.bare E.tab E.w E.mod) {AM.bare E.tab E.w E.mod with w:={E.w with drawn:=d}}:=
  ⟨Nat.le_refl _,fun _ _ _ h=>h,fun _ _ _ _ h=>h,fun _ _ _ _ h=>h,fun _ _ _ _ h=>h,fun f s n b lo hi _ _ h=>⟨n,b,lo,hi,h,.inr ⟨rfl,rfl,rfl,rfl⟩⟩,fun _ _=>rfl,⟨rfl,rfl,rfl⟩,rfl,fun _ h=>h⟩
 exact S.behind X1
theorem Zd9{xs new:List V}(k:Nat)(h1:xs.all V.scalar=true)(h2:new.all V.scalar=true):(xs.take k++new++xs.drop k).all V.scalar=true:=by
 rw[List.all_eq_true] at h1 h2⊢;intro x hx;simp only[List.mem_append] at hx;rcases hx with(hx|hx)|hx
 . exact h1 x (List.mem_of_mem_take hx)
 . exact h2 x hx
 . exact h1 x (List.mem_of_mem_drop hx)
theorem Q16{f:FuncId}{esz by_:Nat}(sp:Qup P f esz by_)(B:Nat)(F:Nat->Nat->Prop)(H:Heap)(E:Env)(nm:Nat)(args:List V)(cargs:List Value)(v:V)(ws:List (Nat×Nat×O))(S:Sim B F H E)(one:H.length=1)(_:E.tab=Qo P)
 (hr:Qe E args cargs)(h:Q1v esz by_ nm (Qd H) args=some (v,ws)):Invokes P f ⟨cargs⟩ E.w (Answer B F H E (.ret v) (wrL H ws)):=by
 have hlt:0<H.length:=by omega
 unfold Q1v at h;split at h
 . rename_i fs s len q i f2 s2 o2 cc e2;split at h
   case h_2=>cases h
   rename_i xs ys hg hnn hg2;split at h
   case isFalse=>cases h
   rename_i hc;obtain⟨rfl,rfl,hpos,hxl,hi0,hil,hol,hne2,hroomy⟩:=hc;cases h;obtain⟨cs,r1,rfl,rs,hr⟩:=Qe.cons_iff.1 hr;obtain⟨ci,r2,rfl,ri,hr⟩:=Qe.cons_iff.1 hr;obtain⟨cv,r3,rfl,rv,hr⟩:=Qe.cons_iff.1 hr;rw[Qe.nil_iff] at hr;subst hr;simp only[Rel] at rs ri rv;subst ri;obtain⟨b,c',T',n',hmu,rfl,g1,g2,g3,g4,g5⟩:=rs;obtain⟨b2,c2,T2',n2',hmu2,rfl,k1,k2,k3,k4,k5⟩:=rv;obtain⟨b',c,T,vs,rest,q1,q2,q3,q4,q5,q6,q7,q8⟩:=S.lies hg;rw[hmu] at q1;cases q1;obtain⟨b2',cur2,T2,us,rest2,p1,p2,p3,p4,p5,p6,p7,p8⟩:=S.lies hg2;rw[hmu2] at p1;cases p1;have hne:¬(fs=0/\s=nm):=by rintro⟨rfl,rfl⟩;rw[hg] at hnn;cases hnn
   have hbb:b≠b2:=fun e=>hne2 (S.inj fs s _ f2 s2 _ b hg hg2 hmu (by simp only[blk];rw[hmu2,e]));have hvl:=q5.length;have hul:=p5.length;have hcs:c.size=vs.length+rest.length:=by have:=congrArg List.length q4;simpa using this
   have hn' :n' =c.size:=by simp only[World.shape?,q3,Option.some.injEq,Prod.mk.injEq] at g3;exact g3.2.symm
   have hend:=g5 trivial;obtain⟨j,rfl⟩:∃j:Nat,i=(j:Int):=⟨i.toNat,by omega⟩;have hj:j<=len:=by omega
   simp only[Int.toNat_natCast];have h1v:∀v∈vs,v.oneCell' =true:=Xm q5 q7;have h1u:∀v∈us,v.oneCell' =true:=Xm p5 p7;have hnew:((ys.drop o2).take e2).all V.scalar=true:=by rw[List.all_eq_true] at p7⊢;exact fun x hx=>p7 x (List.mem_of_mem_drop (List.mem_of_mem_take hx))
   have hrel:Qe E (xs.take (j*e2)++(ys.drop o2).take e2++xs.drop (j*e2)) (vs.take (j*e2)++(us.drop o2).take e2++vs.drop (j*e2)):=
    ((q5.take _).append ((p5.drop _).take _)).append (q5.drop _)
   have hsc:=Zd9 (j*e2) q7 hnew;have hjl:j*e2<=len*e2:=Nat.mul_le_mul_right _ hj;have hadd:(len+1)*e2=len*e2+e2:=by rw[Nat.add_mul,Nat.one_mul]
   have hnl:(vs.take (j*e2)++(us.drop o2).take e2++vs.drop (j*e2)).length=(len+1)*e2:=by simp only[List.length_append,List.length_take,List.length_drop];omega
   have S1:Sim B F (hset H fs s .dead) E:=S.kill hg (fun n h=>by cases h);have hlen1:(hset H fs s .dead).length=H.length:=Zo _ _ _ _;have hn1:Qd (hset H fs s .dead) 0 nm=none:=by rw[Ba _ _ _ _ (Yr hg),if_neg (fun e=>hne ⟨e.1.symm,e.2.symm⟩)];exact hnn
   refine Qi1 sp.body sp.num ?_;by_cases hfit:len+1<=c'
   . have hle:(len+1)*e2<=c' *e2:=Nat.mul_le_mul_right _ hfit;have hcall:=sp.room E.w b len c' j c T vs rest b2 o2 c2 cur2 T2 us rest2 q3 q4 (by omega) p3 p4 (by omega) hbb hj hfit (by omega) h1v h1u hroomy;refine hcall.mono ?_;rintro e w' ⟨rfl,d,rfl⟩;have hlen2:((vs.take (j*e2)++(us.drop o2).take e2++vs.drop (j*e2))++rest.drop e2).length=c.size:=by
      rw[List.length_append,hnl,List.length_drop];omega
     obtain⟨X,S2⟩:=S1.adoptCells (f0:=0) (s0:=nm) (by rw[hlen1];exact hlt) hn1 q3 q2 q6 (fun f' s' o' ho' hb' =>by
      rcases Ql9 hlt hg f' s' o' ho' with⟨_,_,rfl⟩|⟨h1,h2⟩
      . cases hb'
      . exact h1 (S.inj f' s' o' fs s _ b h2 hg hb' hmu)) hrel hsc hlen2
     obtain⟨X2,S3⟩:=Q62 S2 d;rw[Zo,hlen1] at X2;rw[hlen1] at X;rw[one] at X X2;refine⟨_,rfl,⟨_,rfl,?_⟩,S3,X.trans X2,by simp only[wrL,Zo];exact one⟩;simp only[Rel];exact⟨b,c',T',n',Qj _ _ _ _,rfl,hfit,(fun k hk=>by cases hk),X2.shape _ _ _ (X.shape _ _ _ g3),g4,fun _=>hend⟩
   . have hceq:c' =len:=by omega
     have hcall:=sp.grow E.w (some ⟨b,0,none⟩) len c' j vs b2 o2 c2 cur2 T2 us rest2 (fun h=>by cases h) (fun a ha=>by cases ha;exact⟨rfl,rfl,q8⟩) (by omega) p3 p4 (by omega) hj hceq h1v h1u hroomy;refine hcall.mono ?_;rintro e w' ⟨newCap,d,T3,rest',hcap,hrl,rfl,rfl⟩;obtain⟨X,S2⟩:=S1.newCells (f0:=0) (s0:=nm) (by rw[hlen1];exact hlt) hn1 _ _ rest' T3 d hrel hsc;rw[hlen1,one] at X;have htot:newCap*e2=(len+1)*e2+(newCap-(len+1))*e2:=by rw[<-Nat.add_mul];congr 1;omega
     refine⟨_,rfl,⟨_,rfl,?_⟩,S2,X,by simp only[wrL,Zo];exact one⟩;simp only[Rel];refine⟨E.w.heap.size,newCap,T3,newCap*e2,Qj _ _ _ _,rfl,hcap,(fun k hk=>by cases hk),?_,?_,?_⟩
     . have:=J2 E (.cells ⟨(vs.take (j*e2)++(us.drop o2).take e2++vs.drop (j*e2))++rest'⟩ T3) d;simp only[Env.newCells,World.shape?,this];simp only[List.size_toArray,Option.some.injEq,Prod.mk.injEq,true_and];rw[List.length_append,hnl,hrl];omega
     . omega
     . intro _;omega
 . rename_i f2 s2 o2 cc e2;split at h
   case h_2=>cases h
   rename_i ys hnn hg2;split at h
   case isFalse=>cases h
   rename_i hc;obtain⟨rfl,hpos,hol,hroomy⟩:=hc;cases h;obtain⟨cs,r1,rfl,rs,hr⟩:=Qe.cons_iff.1 hr;obtain⟨ci,r2,rfl,ri,hr⟩:=Qe.cons_iff.1 hr;obtain⟨cv,r3,rfl,rv,hr⟩:=Qe.cons_iff.1 hr;rw[Qe.nil_iff] at hr;subst hr;simp only[Rel] at rs ri rv;subst ri;subst rs;obtain⟨b2,c2,T2',n2',hmu2,rfl,k1,k2,k3,k4,k5⟩:=rv;obtain⟨b2',cur2,T2,us,rest2,p1,p2,p3,p4,p5,p6,p7,p8⟩:=S.lies hg2;rw[hmu2] at p1;cases p1;have hul:=p5.length;have h1u:∀v∈us,v.oneCell' =true:=Xm p5 p7;have hnew:((ys.drop o2).take e2).all V.scalar=true:=by rw[List.all_eq_true] at p7⊢;exact fun x hx=>p7 x (List.mem_of_mem_drop (List.mem_of_mem_take hx))
   refine Qi1 sp.body sp.num ?_;have hcall:=sp.grow E.w none 0 0 0 [] b2 o2 c2 cur2 T2 us rest2 (fun _=>⟨rfl,rfl⟩) (fun a ha=>by cases ha) (by simp) p3 p4 (by omega) (Nat.le_refl _) rfl (fun v hv=>by cases hv) h1u hroomy;refine hcall.mono ?_;rintro e w' ⟨newCap,d,T3,rest',hcap,hrl,rfl,rfl⟩;simp only[Nat.zero_mul,List.take_zero,List.nil_append,List.drop_nil,List.append_nil,Nat.zero_add];obtain⟨X,S2⟩:=S.newCells (f0:=0) (s0:=nm) hlt hnn ((ys.drop o2).take e2) ((us.drop o2).take e2) rest' T3 d ((p5.drop _).take _) hnew;rw[one] at X;have hnl:((us.drop o2).take e2).length=e2:=by simp only[List.length_take,List.length_drop];omega
   have htot:newCap*e2=e2+(newCap-1)*e2:=by
    have:newCap=1+(newCap-1):=by omega
    rw[this,Nat.add_mul,Nat.one_mul];congr 2;omega
   refine⟨_,rfl,⟨_,rfl,?_⟩,S2,X,by simp only[wrL,Zo];exact one⟩;simp only[Rel];refine⟨E.w.heap.size,newCap,T3,newCap*e2,Qj _ _ _ _,rfl,by omega,(fun k hk=>by cases hk),?_,?_,?_⟩
   . have:=J2 E (.cells ⟨((us.drop o2).take e2)++rest'⟩ T3) d;simp only[Env.newCells,World.shape?,this];simp only[List.size_toArray,Option.some.injEq,Prod.mk.injEq,true_and];rw[List.length_append,hnl,hrl];simp only[Nat.zero_add];omega
   . omega
   . intro _;omega
 . cases h
end
noncomputable def Qwi(n N:Nat):List V:=
 Nat.rec (motive:=fun _=>Nat->List V) (fun _=>[]) (fun _ ih N=> .int .u8 (Int.ofNat (Nat.land N (nat_lit 255)))::ih (Nat.shiftRight N (nat_lit 8))) n N
noncomputable def repV(n:Nat)(v:V):List V:=Nat.rec (motive:=fun _=>List V) [] (fun _ ih=>v::ih) n
noncomputable abbrev zB:V:= .int .u8 (Int.ofNat (nat_lit 0))
noncomputable def z256:List V:=repV 256 zB
noncomputable def zbT:V:= .iS z256 256 true
noncomputable def repT(n:Nat)(v:V)(t:List V):List V:=Nat.rec (motive:=fun _=>List V) t (fun _ ih=>v::ih) n
noncomputable def F0:FH:=⟨0,.nil⟩
structure Qhm(P:Program)(f:FuncId)(g:Qcj):Prop where
 sound:∀B F H E nm args cargs v ws,Sim B F H E->H.length=1->E.tab=Qo P->Qe E args cargs->g nm (Qd H) args=some (v,ws)->Invokes P f ⟨cargs⟩ E.w (Answer B F H E (.ret v) (wrL H ws))
 tame:∀nm G G' args v ws,GLe G G' ->G' 0 nm=G 0 nm->g nm G args=some (v,ws)->g nm G' args=some (v,ws)/\∀x∈ws,(∃y,G x.1 x.2.1=some y)\/(x.1=0/\x.2.1=nm)
theorem ins_ok{P:Program}{f:FuncId}{esz by_:Nat}(sp:Qup P f esz by_):Qhm P f (Q1v esz by_):=
 ⟨fun B F H E nm args cargs v ws S one ht hr h=>Q16 sp B F H E nm args cargs v ws S one ht hr h,fun nm G G' args v ws h hn e=>Q5z esz by_ nm G G' args v ws h hn e⟩
def Qzu(K:List V->Option V):Qcj:=fun _ _ args=>match K args with
 |some v=>some (v,[])
 |none=>none
theorem Zeb{P:Program}{f:FuncId}{K:List V->Option V}(hK:∀xs y,K xs=some y->Qx xs=true/\Ans P f xs y):Qhm P f (Qzu K) where
 sound:=fun B F H E nm args cargs v ws S one ht hr h=>by
  unfold Qzu at h;split at h
  case h_2=>cases h
  rename_i v' hv;cases h;obtain⟨h1,h2⟩:=hK args v hv;have key:=h2.take S h1 hr;rw[one] at key;rcases key with⟨u,w',h3,E',e1,e2,e3,e4⟩|⟨j,h3,h4⟩
  . exact .inl ⟨u,w',h3,E',e1,e2,e3,e4,one⟩
  . exact .inr ⟨j,h3,h4.mono fun e w' ⟨E',e1,e2,e3,e4⟩=>⟨E',e1,e2,e3,e4,one⟩⟩
 tame:=fun nm G G' args v ws h hn e=>by
  refine⟨e,fun x hx=>?_⟩;unfold Qzu at e;split at e
  case h_2=>cases e
  cases e;cases hx
def Zb4(R:V):List V->Option V
 |[]=>some R
 |_=>none
theorem Q9y{P:Program}{f:FuncId}{R:V}(h:Ans P f [] R):Qhm P f (Qzu (Zb4 R)):=
 Zeb fun xs y hxy=>by
  cases xs with
  |nil=>cases hxy;exact⟨rfl,h⟩
  |cons x l=>cases hxy
theorem Qp3{P:Program}{pol:Pol}(ok:Okay P pol)(hl:Qdv pol){m:Nat}{f:FuncId}{xs:List V}{y:V}(h:ansF (Qoh P pol m (some f) xs ⟨0,.nil⟩)=some y)(hy:y.pure=true):Ans P f xs y:=
 Qux ok hl h hy
end Go.AM.BM
namespace Go.AM
variable {P : Program}
theorem Qio{w:World}{ts:Array TypeId}{t ty e T:TypeId}{n b o ld dc ls k:Nat}{src:Value}{vs:List Value}{cur:Array Value}(ht:ts[0]?=some t)(hu:P.underlying t=some (.slice e))(hn:sz P e=some n)
 (hb:w.heap[b]?=some (.cells cur T (0,0)))(hls:∀w',(Builtin.lenOf src).run P w' = .ok ls w')(hk:min ls ld=k)(hsrc:(Builtin.firstCells n k src).run P w= .ok ⟨vs⟩ w)(hfit:o+vs.length<=cur.size)(h1:∀v∈vs,v.oneCell' =true):
 (Builtin.copy_ ts ty #[.slice (some ⟨b,o,none⟩) ld dc,src]).run P w= .ok (goInt k) (w.setRow b ⟨splice cur.toList o vs⟩):=by
 have hst:=run_storeCells_at P b o T vs 0 cur w hb (by simp only[Ztw];omega) h1;simp only[Ztw] at hst;subst hk;simp only[Builtin.copy_,ht,Qu8,Qua,Zuk,Qh hu,Zuj,hls,Jw hn,Nat.min_eq_min,hsrc,hst,Zul];rfl
theorem Qy3(w:World)(c1 c2:Array Value)(T:TypeId)(h:Array Obj):({w with heap:=h.push (.cells c1 T)}:World).setRow h.size c2={w with heap:=h.push (.cells c2 T)}:=by
 simp only[World.setRow];congr 1;apply Array.ext_getElem?;intro i;simp only[Array.getElem?_modify,Array.getElem?_push];split
 . subst_vars;simp
 . split
   . exact absurd (by assumption) (fun e=>by simp_all)
   . rfl
theorem Qfc{w w' :World}{b off:Nat}{vs:List Value}(e:w'.heap[b]?=w.heap[b]?)(h:Qeq w b off vs):Qeq w' b off vs:=by intro i v hv;have:=h i v hv;simp only[World.cell?,e] at this⊢;exact this
theorem Q3p{w:World}{b:Nat}{cur:Array Value}{T:TypeId}{z:Nat×Nat}{vs rest:List Value}(hb:w.heap[b]?=some (.cells cur T z))(hc:cur.toList=vs++rest):Qeq w b 0 vs:=by
 intro i v hv;have:cur[i]?=some v:=by
  rw[<-Zso,hc,Zsk]
  . exact hv
  . exact(Zsm.1 hv).1
 simp[World.cell?,hb,this]
theorem Qrh{α:Type}(vs rest news:List α)(k e:Nat)(hk:k<=vs.length)(he:news.length=e)(hr:e<=rest.length):
 splice (splice (vs++rest) (k+e) (vs.drop k)) k news=(vs.take k++news++vs.drop k)++rest.drop e:=by
 unfold splice;apply Zs7;intro i;simp only[List.getElem?_append,Zrn,Zta,Zsi,Zsv,Zsw];grind
theorem Qvx{α:Type}(vs rest news:List α)(k:Nat)(hk:k=vs.length):splice (vs++rest) k news=(vs++news)++rest.drop news.length:=by subst hk;unfold splice;apply Zs7;intro i;simp only[List.getElem?_append,Zrn,Zta,Zsi,Zsv,Zsw];grind
theorem Qq7{α:Type}(olds Z rest news tail:List α)(k e:Nat)(ho:olds.length=k)(he:news.length=e)(hZ:Z.length=e+tail.length):
 splice (splice (olds++Z++rest) k news) (k+e) tail=(olds++news++tail)++rest:=by
 unfold splice;apply Zs7;intro i;simp only[List.getElem?_append,Zrn,Zta,Zsi,Zsv,Zsw];grind
end Go.AM
namespace Go.AM.BM
noncomputable def n64(n:Nat):V:= .int .i64 (Int.ofNat n)
noncomputable def n32(n:Nat):V:= .int .u32 (Int.ofNat n)
noncomputable def n8(n:Nat):V:= .int .u8 (Int.ofNat n)
def addK(f0:FuncId)(g:Qcj)(K:FuncId->Option Qcj):FuncId->Option Qcj:=fun f=>bif Nat.beq f f0 then some g else K f
abbrev KOk(P:Program)(K:FuncId->Option Qcj):Prop:=∀f g,K f=some g->Qhm P f g
theorem Zen{P:Program}{f0:FuncId}{g0:Qcj}{K:FuncId->Option Qcj}(h:Qhm P f0 g0)(hK:KOk P K):KOk P (addK f0 g0 K):=by
 intro f g e;simp only[addK] at e;cases hb:Nat.beq f f0
 . rw[hb] at e;exact hK f g e
 . rw[hb] at e;cases e;rw[Zt7 hb];exact h
theorem noK{P:Program}:KOk P fun _=>none:=fun _ _ h=>by cases h
end Go.AM.BM
namespace Go
def jf1(P:Program)(f:FuncId)(fn:Func)(s:ChangeSpec)(c:OpenClaim):Bool:=c.wf (OpenSpec.ofChange s)
def jf2(P:Program)(f:FuncId)(fn:Func)(s:ChangeSpec)(c:OpenClaim):Bool:=laidOutB P
def jf3(P:Program)(f:FuncId)(fn:Func)(s:ChangeSpec)(c:OpenClaim):Bool:=mapsRowed P
def jf4(P:Program)(f:FuncId)(fn:Func)(s:ChangeSpec)(c:OpenClaim):Bool:=fn.params.all (P.readableRec ·)
def jf5(P:Program)(f:FuncId)(fn:Func)(s:ChangeSpec)(c:OpenClaim):Bool:=namedTie P c.named s.vars
def jf6(P:Program)(f:FuncId)(fn:Func)(s:ChangeSpec)(c:OpenClaim):Bool:=(c.stops==[])
def jf7(P:Program)(f:FuncId)(fn:Func)(s:ChangeSpec)(c:OpenClaim):Bool:=(P.stops==[])
def jf8(P:Program)(f:FuncId)(fn:Func)(s:ChangeSpec)(c:OpenClaim):Bool:=(c.knobs==[])
def jf9(P:Program)(f:FuncId)(fn:Func)(s:ChangeSpec)(c:OpenClaim):Bool:=(P.stopKnobs==[])
def jf10(P:Program)(f:FuncId)(fn:Func)(s:ChangeSpec)(c:OpenClaim):Bool:=(c.inPlace==P.inPlace f)
def jf11(P:Program)(f:FuncId)(fn:Func)(s:ChangeSpec)(c:OpenClaim):Bool:=(c.unfollowed==P.unfollowed f)
def jf12(P:Program)(f:FuncId)(fn:Func)(s:ChangeSpec)(c:OpenClaim):Bool:=(c.recurses==P.recurses f)
def jf13(P:Program)(f:FuncId)(fn:Func)(s:ChangeSpec)(c:OpenClaim):Bool:=(c.named==P.varsNamed f)
def jf14(P:Program)(f:FuncId)(fn:Func)(s:ChangeSpec)(c:OpenClaim):Bool:=(c.maps==(fn.params.toList++s.plain.varTypes P).any (P.mapsRec ·))
def jf15(P:Program)(f:FuncId)(fn:Func)(s:ChangeSpec)(c:OpenClaim):Bool:=(c.ifaces==(fn.params.toList++s.plain.varTypes P).any (P.ifacesRec ·))
def jf16(P:Program)(f:FuncId)(fn:Func)(s:ChangeSpec)(c:OpenClaim):Bool:=(c.mapsOut==P.mapsAmong fn.resultTypes.toList)
def jf17(P:Program)(f:FuncId)(fn:Func)(s:ChangeSpec)(c:OpenClaim):Bool:=(c.loops==(fn.params.toList++s.plain.varTypes P).any (P.loopsFrom ·))
def jf18(P:Program)(f:FuncId)(fn:Func)(s:ChangeSpec)(c:OpenClaim):Bool:=(c.wideKeys==(fn.params.toList++s.plain.varTypes P++fn.resultTypes.toList).any (P.wideKeysFrom ·))
def jf19(P:Program)(f:FuncId)(fn:Func)(s:ChangeSpec)(c:OpenClaim):Bool:=s.vars.all (P.varReadable ·)
def jf20(P:Program)(f:FuncId)(fn:Func)(s:ChangeSpec)(c:OpenClaim):Bool:=fn.resultTypes.all (fun t=>P.readableRec t&&decide (t<P.types.size))
def jf21(P:Program)(f:FuncId)(fn:Func)(s:ChangeSpec)(c:OpenClaim):Bool:=(c.ifacesOut==fn.resultTypes.toList.any (P.ifacesRec ·))
def jf22(P:Program)(f:FuncId)(fn:Func)(s:ChangeSpec)(c:OpenClaim):Bool:=(c.loopsOut==fn.resultTypes.toList.any (P.loopsFrom ·))
def jf23(P:Program)(f:FuncId)(fn:Func)(s:ChangeSpec)(c:OpenClaim):Bool:=(c.plainKeys==P.plainKeys)
def jf24(P:Program)(f:FuncId)(fn:Func)(s:ChangeSpec)(c:OpenClaim):Bool:=c.shortTexts.isNone
def jf25(P:Program)(f:FuncId)(fn:Func)(s:ChangeSpec)(c:OpenClaim):Bool:=P.stopsHeard
def jf26(P:Program)(f:FuncId)(fn:Func)(s:ChangeSpec)(c:OpenClaim):Bool:=P.mayEnter
def jf27(P:Program)(f:FuncId)(fn:Func)(s:ChangeSpec)(c:OpenClaim):Bool:=(c.lifted==P.liftsFinal)
def jf28(P:Program)(f:FuncId)(fn:Func)(s:ChangeSpec)(c:OpenClaim):Bool:=(P.make==some c.make)
def jf29(P:Program)(f:FuncId)(fn:Func)(s:ChangeSpec)(c:OpenClaim):Bool:=(c.kinds==(if c.domain.isEmpty then[] else fn.params.toList.map fun t=>match P.underlying t with|some (.int k)=>some k|_=>none))
def jf30(P:Program)(f:FuncId)(fn:Func)(s:ChangeSpec)(c:OpenClaim):Bool:=(c.pinned==c.pinnedBy)
def jf31(P:Program)(f:FuncId)(fn:Func)(s:ChangeSpec)(c:OpenClaim):Bool:=(c.veiled==(fn.params.toList++s.plain.varTypes P++fn.resultTypes.toList).any (P.veiledRec ·))
def jf32(P:Program)(f:FuncId)(fn:Func)(s:ChangeSpec)(c:OpenClaim):Bool:=c.veiledFits P fn.params.toList (fn.params.toList++s.plain.varTypes P++fn.resultTypes.toList)
set_option linter.unusedVariables false in
theorem Q51{P:Program}{f:FuncId}{fn:Func}{s:ChangeSpec}{c:OpenClaim}(h1:jf1 P f fn s c=true)(h2:jf2 P f fn s c=true)(h3:jf3 P f fn s c=true)(h4:jf4 P f fn s c=true)(h5:jf5 P f fn s c=true)(h6:jf6 P f fn s c=true)(h7:jf7 P f fn s c=true)(h8:jf8 P f fn s c=true)(h9:jf9 P f fn s c=true)(h10:jf10 P f fn s c=true)(h11:jf11 P f fn s c=true)(h12:jf12 P f fn s c=true)(h13:jf13 P f fn s c=true)(h14:jf14 P f fn s c=true)(h15:jf15 P f fn s c=true)(h16:jf16 P f fn s c=true)(h17:jf17 P f fn s c=true)(h18:jf18 P f fn s c=true)(h19:jf19 P f fn s c=true)(h20:jf20 P f fn s c=true)(h21:jf21 P f fn s c=true)(h22:jf22 P f fn s c=true)(h23:jf23 P f fn s c=true)(h24:jf24 P f fn s c=true)(h25:jf25 P f fn s c=true)(h26:jf26 P f fn s c=true)(h27:jf27 P f fn s c=true)(h28:jf28 P f fn s c=true)(h29:jf29 P f fn s c=true)(h30:jf30 P f fn s c=true)(h31:jf31 P f fn s c=true)(h32:jf32 P f fn s c=true):joinedFacts P f fn s c=true:=by unfold joinedFacts;simp only[Bool.and_eq_true];refine⟨⟨⟨⟨⟨⟨⟨⟨⟨⟨⟨⟨⟨⟨⟨⟨⟨⟨⟨⟨⟨⟨⟨⟨⟨⟨⟨⟨⟨⟨⟨h1,h2⟩,h3⟩,h4⟩,h5⟩,h6⟩,h7⟩,h8⟩,h9⟩,h10⟩,h11⟩,h12⟩,h13⟩,h14⟩,h15⟩,h16⟩,h17⟩,h18⟩,h19⟩,h20⟩,h21⟩,h22⟩,h23⟩,h24⟩,h25⟩,h26⟩,h27⟩,h28⟩,h29⟩,h30⟩,h31⟩,h32⟩
end Go
end
